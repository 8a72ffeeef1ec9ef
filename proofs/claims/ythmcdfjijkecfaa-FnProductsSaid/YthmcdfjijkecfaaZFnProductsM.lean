/- What the proof of FnProducts leans on, part 13 of 25. -/
import Derived.Test.YthmcdfjijkecfaaZFnProductsL
/- The reference's machines with any number of states. -/
namespace Go.Proofs.Ythmcdfjijkecfaa
open Go.RowKit
set_option linter.unusedVariables false
set_option linter.unusedSimpArgs false

/-- An element of several cells appended, at a step of a region that draws: it lies in a box. -/
theorem St.stepN {ops : Array Oper} {o : Oper} {act : Act} {W w0 : World} {K : Act → World → Prop} {Q : Exit → Act → World → Prop} {E : Prop} {L : List Asn} {base : Nat} (t e tb : TypeId) (z : Value) (sz bytes : Nat)
    (ht : Try.prog.underlying t = some (.slice e)) (hinfo : (Try.prog.info? e).map (fun i => (i.zero, i.size, i.bytes)) = some (some z, sz, bytes)) (hz : z.cells.size = sz) (hsz : 0 < sz) (hb : bytes ≤ 64)
    (hgd : o.guard = none) (s x : Operand) (ho : o.op = .call { callee := .builtin .append, args := #[s, x], argTypes := #[t, t] })
    (v : Value) (n : Nat) (cs : List Value) (hs : act.eval s = v) {B : Nat} {news : List Value} (hS : St base w0 (Asn.ownN base e sz v n cs :: Asn.blk B news.toArray tb :: L) W) (hnl : news.length = sz) (hc1 : ∀ u ∈ news, u.oneCell' = true)
    (hx : act.eval x = .slice (some ⟨B, 0, none⟩) 1 1) (hlen : n ≤ 1000000)
    (h : ∀ g cap w', St base w0 (Asn.ownN base e sz (.slice (some ⟨g, 0, none⟩) (n + 1) cap) (n + 1) (cs ++ news) :: Asn.blk B news.toArray tb :: L) w' → K (act.put o.dst (.slice (some ⟨g, 0, none⟩) (n + 1) cap)) w') :
    if Region.wanted o (yielded ops act.tmps) = true then Oper.wp Try.prog o act W K Q else E := by
  obtain ⟨i, hi, hz0, hz1, hz2⟩ := info_parts hinfo
  have hw : Region.wanted o (yielded ops act.tmps) = true := by simp [Region.wanted, hgd]
  rw [if_pos hw]
  have hown : OwnN W base e sz v n cs := hS.star.1
  refine wp_append_lies W s x t ho base e i z sz bytes ht hi hz0 hz1 hz2 hz hsz v n cs hs hown ⟨B, 0, none⟩ 1 1 news hx (by rw [hnl, Nat.one_mul])
    (fun j u hu => ?_) hc1 (by omega) (by simp only [maxLen]; omega) (Nat.le_trans (Nat.mul_le_mul_left _ hb) (by omega)) hS.le _ rfl ?_
  · rw [Addr.add_mid, Nat.zero_add, cell_of_row W B j _ _ _ hS.star.2.2.1]
    simpa using hu
  · intro g cap w' h1 h2 h3 h4
    have hold : ∀ k, k < W.heap.size → v.ownBlock ≠ some k → w'.heap[k]? = W.heap[k]? := fun k hk hne => h2.block k hk (fun e => hne e.symm)
    exact h g cap w' (hS.appdN h1 ⟨h2.os, h2.tape, h2.output, h2.size, fun k hk => hold k (by have := hS.le; omega) (fun e => by have := (hown.lt k e).1; omega)⟩ hold (h3.imp id (fun e => Nat.le_of_eq e.symm)))

theorem OwnN.oneCell {w : World} {b e sz n : Nat} {v : Value} {cs : List Value} (h : OwnN w b e sz v n cs) : v.oneCell' = true := by
  rcases h.2 with ⟨rfl, _⟩ | ⟨g, cap, cur, rfl, _⟩ <;> rfl
/-- A struct or an array in a block of its own is handed back. -/
theorem ret_blk {P : Program} {fn : Func} {R : Ending → World → Prop} {a : Act} {w : World} {p ty : Nat} (h : fn.results = #[.cell p ty]) {g t : Nat} {cs : Array Value} {d : TypeDesc}
    (hp : a.tmps.getD p undef = .pointer (some ⟨g, 0, none⟩)) (hb : w.heap[g]? = some (.cells cs t (0, 0))) (hu : P.underlying ty = some d) (hd : (match d with | .struct _ | .array _ _ => true | _ => false) = true)
    (hi : (P.info? ty).map (·.size) = some cs.size) (hdf : a.defers = []) (hR : R (.returned (.agg cs)) w) : bodyPost P fn R .ret a w :=
  bodyPost_ret (results_cell_row h a.tmps w g t _ _ d hp hb hu hd hi) hdf hR

/-- The rows of a function as cells, three a row. -/
def rcs (k : IntKind) (f : Nat → Nat → Nat) (L n : Nat) : List Value := (List.range (n * 3)).map fun p => .int k ((if p % 3 < L then f (p / 3) (p % 3) else 0 : Nat) : Int)
def rc1 (k : IntKind) (f : Nat → Nat → Nat) (L q : Nat) : List Value := (List.range 3).map fun x => .int k ((if x < L then f q x else 0 : Nat) : Int)
theorem rcs_length (k : IntKind) (f : Nat → Nat → Nat) (L n : Nat) : (rcs k f L n).length = n * 3 := by simp [rcs]
theorem rc1_one (k : IntKind) (f : Nat → Nat → Nat) (L q : Nat) : ∀ u ∈ rc1 k f L q, u.oneCell' = true := by
  intro u hu
  obtain ⟨x, _, rfl⟩ := List.mem_map.1 hu
  rfl
theorem rc1_lit (k : IntKind) (f : Nat → Nat → Nat) (L q : Nat) : ∃ a b c : Nat, rc1 k f L q = [.int k (a : Int), .int k (b : Int), .int k (c : Int)] := ⟨_, _, _, rfl⟩
theorem rc1_get (k : IntKind) (f : Nat → Nat → Nat) (L q x : Nat) (hx : x < 3) : (rc1 k f L q)[x]? = some (.int k ((if x < L then f q x else 0 : Nat) : Int)) := by simp [rc1, hx]
theorem rcs_snoc (k : IntKind) (f : Nat → Nat → Nat) (L n : Nat) : rcs k f L (n + 1) = rcs k f L n ++ rc1 k f L n := by
  unfold rcs rc1
  rw [show (n + 1) * 3 = n * 3 + 3 by omega, List.range_add, List.map_append, List.map_map]
  congr 1
  apply List.map_congr_left
  intro x hx
  have hx3 := List.mem_range.1 hx
  simp only [Function.comp]
  rw [show (n * 3 + x) % 3 = x by omega, show (n * 3 + x) / 3 = n by omega]
theorem rcs_get (k : IntKind) (f : Nat → Nat → Nat) (L n q x : Nat) (hq : q < n) (hx : x < 3) : (rcs k f L n)[q * 3 + x]? = some (.int k ((if x < L then f q x else 0 : Nat) : Int)) := by
  unfold rcs
  rw [List.getElem?_map, List.getElem?_range (by omega), Option.map_some, show (q * 3 + x) % 3 = x by omega, show (q * 3 + x) / 3 = q by omega]
theorem rcs_row (k : IntKind) (f : Nat → Nat → Nat) (L n q : Nat) (hq : q < n) : ∀ j, j < (rc1 k f L q).length → (rcs k f L n)[q * 3 + j]? = (rc1 k f L q)[j]? := fun j hj => by
  have hj3 : j < 3 := by simpa [rc1] using hj
  rw [rcs_get k f L n q j hq hj3, rc1_get k f L q j hj3]
theorem rcs_in (k : IntKind) (f : Nat → Nat → Nat) (L n q x : Nat) (hq : q < n) (hx : x < L) (hL : L ≤ 3) : (rcs k f L n)[q * 3 + x]? = some (.int k (f q x : Nat)) := by
  rw [rcs_get k f L n q x hq (by omega), if_pos hx]

theorem info_r3 : (Try.prog.info? 226).map (fun i => (i.zero, i.size, i.bytes)) = some (some (.agg #[.int .i64 0, .int .i64 0, .int .i64 0]), 3, 24) := by kernel_rfl
theorem info_b3 : (Try.prog.info? 24).map (fun i => (i.zero, i.size, i.bytes)) = some (some (.agg #[.int .u8 0, .int .u8 0, .int .u8 0]), 3, 3) := by kernel_rfl
theorem sz_r3 : (Try.prog.info? 226).map (·.size) = some 3 := by kernel_rfl
theorem sz_large : (Try.prog.info? 225).map (·.size) = some 3 := by kernel_rfl

/-- A large machine as a value: what it holds. -/
def LG (w : World) (base : Nat) (vN vO : Value) (T : Tab) : Prop :=
  OwnN w base 226 3 vN T.n (rcs .i64 T.nx T.L T.n) ∧ OwnN w base 24 3 vO T.n (rcs .u8 T.ot T.L T.n)
theorem LG.below {w w' : World} {base : Nat} {vN vO : Value} {T : Tab} (h : LG w base vN vO T) (hb : Below w.heap.size w w') : LG w' base vN vO T :=
  ⟨h.1.keep fun k hk => hb.block k (h.1.lt k hk).2, h.2.keep fun k hk => hb.block k (h.2.lt k hk).2⟩

/-- A row that is filled. -/
def fil3 (f : Nat → Nat → Nat) (q x : Nat) : Array Value := #[.int .i64 ((if 0 < x then f q 0 else 0 : Nat) : Int), .int .i64 ((if 1 < x then f q 1 else 0 : Nat) : Int), .int .i64 ((if 2 < x then f q 2 else 0 : Nat) : Int)]
theorem fil3_set (f : Nat → Nat → Nat) (q x : Nat) (hx : x < 3) : (fil3 f q x).setIfInBounds x (.int .i64 (f q x : Nat)) = fil3 f q (x + 1) := by
  have : x = 0 ∨ x = 1 ∨ x = 2 := by omega
  rcases this with rfl | rfl | rfl <;> simp [fil3, Array.setIfInBounds]
theorem fil3_all (f : Nat → Nat → Nat) (q L : Nat) : fil3 f q L = (rc1 .i64 f L q).toArray := rfl
theorem fil3_get (f : Nat → Nat → Nat) (q x j : Nat) (hj : j < 3) : ∃ u, (fil3 f q x)[j]? = some u := ⟨_, Array.getElem?_eq_getElem (by simpa [fil3] using hj)⟩

theorem mf_row {m : Mach} {l s : Nat} (g : Good m l s) (q : Nat) (hq : q < s) : ∀ j, j < 3 → mf m (50 + q * 3 + j) = .int .u8 ((if j < l then (tabOf m l s).ot q j else 0 : Nat) : Int) := fun j hj => by
  rw [mf_ot]
  by_cases h : j < l
  · rw [if_pos h]; rfl
  · rw [if_neg h, (g.z q j (by have := g.s16; omega) hj (fun hh => h hh.2)).2]

set_option maxHeartbeats 4000000 in
set_option maxRecDepth 100000 in
theorem l07Of_any (w : World) (m : Mach) (l s : Nat) (g : Good m l s) :
    Calls Try.prog 253 #[.agg (mcells m)] w fun e w' => ∃ vN vO, e = .returned (.agg #[.int .i64 l, vN, vO]) ∧ LG w' w.heap.size vN vO (tabOf m l s) ∧ Below w.heap.size w w' := by
  have gL := hid g.L
  have gS := hid g.S
  have l2 := g.l2
  have l3 := g.l3
  have s16 := g.s16
  have hcn := hid (fun W (hW : MB W 27 w.heap.size m) q x (hq : q < s) (hx : x < l) => (show W.cell? ⟨w.heap.size, 2 + q * 3 + x, none⟩ = some (.int .u8 ((tabOf m l s).nx q x : Nat)) from hW.cnx q x (by omega) (by omega)))
  have hrg := hid (fun W (hW : MB W 27 w.heap.size m) q (hq : q < s) => (show W.rangeAt w.heap.size (50 + q * 3) (rc1 .u8 (tabOf m l s).ot l q) from fun j u hu => by
    have hj : j < 3 := by have h := (List.getElem?_eq_some_iff.1 hu).1; simpa [rc1] using h
    rw [rc1_get _ _ _ _ _ hj] at hu
    have h1 := World.rowIs.cell hW (i := 50 + q * 3 + j) (by omega)
    rw [mf_row g q hq j hj] at h1
    rw [h1, ← hu]))
  have hnx := hid (fun q x (hq : q < s) (hx : x < l) => (show (tabOf m l s).nx q x < 256 from by have := g.nx q x hq hx; show m.nx _ < 256; omega))
  have hTn := hid (show (tabOf m l s).n = s from rfl)
  have hTL := hid (show (tabOf m l s).L = l from rfl)
  have hS := hid (((((St.start w).newMB m 27).newBlk #[.int .i64 0, .slice none 0 0, .slice none 0 0] 225).newBlk #[.int .i64 (l : Int), .slice none 0 0, .slice none 0 0] 225).nilN 24 3)
  replace hS := hid (hS.out.nilN 226 3)
  simp only [heap_alloc_size] at hS
  have cL := hid ((MB.new w m 27).alloc (.cells #[.int .i64 0, .slice none 0 0, .slice none 0 0] 225))
  have cL2 := cL.out.cL
  rw [gL.out] at cL2
  clear cL
  replace g := hid g
  generalize tabOf m l s = T at *
  generalize mcells m = mc at *
  go_enter Try.func253, Try.ntmps253
  go_wp2
  clear cL2
  go_loopw [4] (fun i wr => ∃ q : Nat, q ≤ s ∧ i = .int .i64 q ∧ ∃ vN vO, St w.heap.size w [Asn.ownN w.heap.size 226 3 vN q (rcs .i64 T.nx l q), Asn.ownN w.heap.size 24 3 vO q (rcs .u8 T.ot l q), Asn.blk (w.heap.size + 1 + 1) #[.int .i64 (l : Int), vN, vO] 225, Asn.blk (w.heap.size + 1) #[.int .i64 0, .slice none 0 0, .slice none 0 0] 225, Asn.mb 27 w.heap.size m] wr) (fun i _ => s - (intOf i).toNat)
  case atStart => exact ⟨0, Nat.zero_le _, rfl, _, _, hS.out⟩
  case round =>
    obtain ⟨q, hq, rfl, vN, vO, rS⟩ := hrel
    clear hS
    have cS := rS.m4.cS
    rw [gS.out] at cS
    replace rS := hid rS
    by_cases hqs : q < s
    · have dq : decide ((q : Int) < (s : Int)) = true := decide_eq_true (by omega)
      go_wp2
      have yS := hid (show St w.heap.size w (Asn.blk wr.heap.size (fil3 T.nx q 0) 226 :: _) _ from rS.out.newBlk #[.int .i64 0, .int .i64 0, .int .i64 0] 226)
      have hbn2 : w.heap.size ≤ wr.heap.size := rS.out.le
      clear rS cS
      generalize wr.alloc (.cells #[.int .i64 0, .int .i64 0, .int .i64 0] 226) = wa at *
      generalize wr.heap.size = bn at *
      go_loopw [6] (fun i wr => ∃ x : Nat, x ≤ l ∧ i = .int .i64 x ∧ St w.heap.size w [Asn.blk bn (fil3 T.nx q x) 226, Asn.ownN w.heap.size 226 3 vN q (rcs .i64 T.nx l q), Asn.ownN w.heap.size 24 3 vO q (rcs .u8 T.ot l q), Asn.blk (w.heap.size + 1 + 1) #[.int .i64 (l : Int), vN, vO] 225, Asn.blk (w.heap.size + 1) #[.int .i64 0, .slice none 0 0, .slice none 0 0] 225, Asn.mb 27 w.heap.size m] wr) (fun i _ => l - (intOf i).toNat)
      case atStart => exact ⟨0, Nat.zero_le _, rfl, yS.out⟩
      case round =>
        obtain ⟨x, hx, rfl, zS⟩ := hrel
        clear yS
        have cL := zS.m5.cL
        rw [gL.out] at cL
        replace zS := hid zS
        by_cases hxl : x < l
        · have dx : decide ((x : Int) < (l : Int)) = true := decide_eq_true (by omega)
          have c1 := hcn.out wr zS.out.m5 q x hqs hxl
          have hlt := hnx.out q x hqs hxl
          have hset := hid (fil3_set T.nx q x (by omega))
          obtain ⟨u, hu⟩ := fil3_get T.nx q x x (by omega)
          have co : wr.cell? ⟨bn, x, none⟩ = some u := (cell_of_row _ _ x _ _ _ zS.out.k0).trans hu
          have fo := frozen_of_row _ _ x _ _ zS.out.k0
          clear hu
          generalize T.nx q x = v at *
          have zS2 := hid (zS.out.setBlk hbn2 x (.int .i64 (v : Int)))
          rw [hset.out] at zS2
          go_wp2
          go_roundw
          case rel => exact ⟨x + 1, by omega, by go_num, zS2.out⟩
          case measure => simp [intOf]; omega
        · obtain rfl : l = x := by omega
          rw [fil3_all] at zS
          have cb1 : wr.cell? ⟨w.heap.size + 1 + 1, 1, none⟩ = some vN := cell_of_row _ _ 1 _ _ _ zS.out.k3
          have rg := hid (show wr.rangeAt bn 0 (rc1 .i64 T.nx l q) from fun j u hu => by rw [Nat.zero_add, cell_of_row _ _ j _ _ _ zS.out.k0]; simpa using hu)
          have hl1 := hid (show (rc1 .i64 T.nx l q).length = 3 by simp [rc1])
          have hl2 := hid (show (rc1 .u8 T.ot l q).length = 3 by simp [rc1])
          have ho1 := hid (rc1_one .i64 T.nx l q)
          have ho2 := hid (rc1_one .u8 T.ot l q)
          have hs1 := hid (rcs_snoc .i64 T.nx l q)
          have hs2 := hid (rcs_snoc .u8 T.ot l q)
          obtain ⟨a0, a1, a2, hr1⟩ := rc1_lit .i64 T.nx l q
          obtain ⟨b0, b1, b2, hr2⟩ := rc1_lit .u8 T.ot l q
          rw [hr1] at hl1 ho1 hs1 rg zS
          rw [hr2] at hl2 ho2 hs2
          replace hr1 := hid hr1; replace hr2 := hid hr2
          go_upto_region 11 with (first
            | ((with_reducible refine gate (N := 34) rfl ?_); refine wpList_load_mid rfl 226 _ rfl bn 0 rfl _ _ rg.out Try.underlying226 rfl (by rw [hl1.out]; exact sz_r3) ?_)
            | ((with_reducible refine gate (N := 36) rfl ?_); refine St.appNw 222 226 _ 3 24 Try.underlying222 info_r3 rfl (by omega) (by omega) rfl _ _ rfl vN q _ rfl zS.out.f1 [.int .i64 (a0 : Int), .int .i64 (a1 : Int), .int .i64 (a2 : Int)] hl1.out ho1.out rfl (by omega) ?_; intro gn cn w4 zS'; replace zS := hid zS'.f1.drop.f2; clear zS' cb1 rg; have cb2 := cell_of_row _ _ 1 _ _ _ zS.out.k0; have f2 := frozen_of_row _ _ 1 _ _ zS.out.k0))
          clear cb2 f2
          replace zS := hid (show St w.heap.size w (Asn.blk (w.heap.size + 1 + 1) #[.int .i64 (l : Int), .slice (some ⟨gn, 0, none⟩) (q + 1) cn, vO] 225 :: _) _ from zS.out.setBlk (by omega) 1 (.slice (some ⟨gn, 0, none⟩) (q + 1) cn))
          rw [← hs1.out] at zS
          generalize w4.setCell ⟨w.heap.size + 1 + 1, 1, none⟩ (.slice (some ⟨gn, 0, none⟩) (q + 1) cn) = w5 at *
          replace zS := hid zS.out.drew
          have hrg2 := hid (fun (W : World) hW => (show W.rangeAt w.heap.size (50 + q * 3) [.int .u8 (b0 : Int), .int .u8 (b1 : Int), .int .u8 (b2 : Int)] from by have h := hrg.out W hW q hqs; rw [hr2.out] at h; exact h))
          have hT0 : w5.drew.cell? ⟨w.heap.size + 1 + 1, 2, none⟩ = some vO ∧ w5.drew.rangeAt w.heap.size (50 + q * 3) [.int .u8 (b0 : Int), .int .u8 (b1 : Int), .int .u8 (b2 : Int)] := ⟨cell_of_row _ _ 2 _ _ _ zS.out.k0, hrg2.out _ zS.out.m4⟩
          refine wp_region_heldL (L := [(9, (fun w' : World => w'.cell? ⟨w.heap.size + 1 + 1, 2, none⟩ = some vO ∧ w'.rangeAt w.heap.size (50 + q * 3) [.int .u8 (b0 : Int), .int .u8 (b1 : Int), .int .u8 (b2 : Int)]))]) (by kernel_rfl) (HeldL.cons (fun _ => hT0) HeldL.nil) (fun hHeld => ?_)
          clear hT0
          generalize w5.drew = wa at *
          have hq0 : (0 : Int) ≤ (q : Int) := Int.natCast_nonneg _
          have hq1 : (q : Int) < 16 := by omega
          refine wpAnyL_take0 (i := 0) (v := ?_) rfl (by kernel_rfl) (by kernel_rfl) (by kernel_rfl) (by rfl) (fun _ _ _ h => h) (Or.inl ⟨by rfl, ?_⟩) (by assumption) ?_
          rotate_left
          · (intro W _; go_simp; (with_reducible rfl))
          intro hHeld'
          clear hHeld; have hHeld := hHeld'; clear hHeld'
          try simp only [Act.put, List.setIfInBounds_toArray, List.set_cons_zero, List.set_cons_succ]
          refine wpAnyL_takeP (i := 1) 9 [] (v := ?_) (fun w' : World => w'.cell? ⟨w.heap.size + 1 + 1, 2, none⟩ = some vO ∧ w'.rangeAt w.heap.size (50 + q * 3) [.int .u8 (b0 : Int), .int .u8 (b1 : Int), .int .u8 (b2 : Int)]) rfl (by kernel_rfl) (by kernel_rfl) (by kernel_rfl) (by rfl) (by kernel_rfl) (by simp) (fun _ _ _ h => h) (Or.inl ⟨by rfl, ?_⟩) (by assumption) ?_
          rotate_left
          · (intro W hW; (obtain ⟨h1, h2⟩ := hW); go_simp; (with_reducible rfl))
          intro hHeld'
          clear hHeld; have hHeld := hHeld'; clear hHeld'
          try simp only [Act.put, List.setIfInBounds_toArray, List.set_cons_zero, List.set_cons_succ]
          refine wpAnyL_take0 (i := 2) (v := ?_) rfl (by kernel_rfl) (by kernel_rfl) (by kernel_rfl) (by rfl) (fun _ _ _ h => h) (Or.inl ⟨by rfl, ?_⟩) (by assumption) ?_
          rotate_left
          · (intro W _; go_simp; (with_reducible rfl))
          intro hHeld'
          clear hHeld; have hHeld := hHeld'; clear hHeld'
          try simp only [Act.put, List.setIfInBounds_toArray, List.set_cons_zero, List.set_cons_succ]
          refine wpAnyL_take0 (i := 3) (v := ?_) rfl (by kernel_rfl) (by kernel_rfl) (by kernel_rfl) (by rfl) (fun _ _ _ h => h) (Or.inl ⟨by rfl, ?_⟩) (by assumption) ?_
          rotate_left
          · (intro W _; go_simp; (with_reducible rfl))
          intro hHeld'
          clear hHeld; have hHeld := hHeld'; clear hHeld'
          try simp only [Act.put, List.setIfInBounds_toArray, List.set_cons_zero, List.set_cons_succ]
          refine wpAnyL_take0 (i := 4) (v := ?_) rfl (by kernel_rfl) (by kernel_rfl) (by kernel_rfl) (by rfl) (fun _ _ _ h => h) (Or.inl ⟨by rfl, ?_⟩) (by assumption) ?_
          rotate_left
          · (intro W _; go_simp; (with_reducible rfl))
          intro hHeld'
          clear hHeld; have hHeld := hHeld'; clear hHeld'
          try simp only [Act.put, List.setIfInBounds_toArray, List.set_cons_zero, List.set_cons_succ]
          refine wpAnyL_takeP (i := 5) 9 [] (v := (.agg #[.int .u8 (b0 : Int), .int .u8 (b1 : Int), .int .u8 (b2 : Int)])) (fun w' : World => w'.cell? ⟨w.heap.size + 1 + 1, 2, none⟩ = some vO ∧ w'.rangeAt w.heap.size (50 + q * 3) [.int .u8 (b0 : Int), .int .u8 (b1 : Int), .int .u8 (b2 : Int)]) rfl (by kernel_rfl) (by kernel_rfl) (by kernel_rfl) (by rfl) (by kernel_rfl) (by simp) (fun _ _ _ h => h) (Or.inl ⟨by rfl, ?_⟩) (by assumption) ?_
          · (intro W hW; exact exec_load _ rfl rfl (run_loadVar_mid _ _ _ _ _ _ hW.2 Try.underlying24 rfl (by rw [hl2.out]; exact sz_b3)))
          intro hHeld'
          clear hHeld; have hHeld := hHeld'; clear hHeld'
          try simp only [Act.put, List.setIfInBounds_toArray, List.set_cons_zero, List.set_cons_succ]
          refine wpAnyL_ready (rs := [6]) (by kernel_rfl) (by simp) ?_
          refine AllReadyL.cons rfl (fun K hK => ?_) AllReadyL.nil
          go_simp
          replace zS := hid (zS.out.newBlk ([.int .u8 (b0 : Int), .int .u8 (b1 : Int), .int .u8 (b2 : Int)] : List Value).toArray 24)
          generalize wa.heap.size = bB at *
          generalize wa.alloc (.cells ([.int .u8 (b0 : Int), .int .u8 (b1 : Int), .int .u8 (b2 : Int)] : List Value).toArray 24) = wb at *
          refine hK.out _ _ (HeldL.cons (fun _ => ⟨cell_of_row _ _ 2 _ _ _ zS.out.k1, hrg2.out _ zS.out.m5⟩) HeldL.nil) (fun hHeld' => ?_)
          clear hK K hHeld; have hHeld := hHeld'; clear hHeld'
          try simp only [Act.put, List.setIfInBounds_toArray, List.set_cons_zero, List.set_cons_succ]
          refine wpAnyL_ready (rs := [7]) (by kernel_rfl) (by simp) ?_
          refine AllReadyL.cons rfl (fun K hK => ?_) AllReadyL.nil
          refine St.stepN 223 24 24 _ 3 3 Try.underlying223 info_b3 rfl (by omega) (by omega) rfl _ _ rfl vO q _ rfl (zS.out.f3) hl2.out ho2.out rfl (by omega) ?_
          intro go co wc zS'
          replace zS := hid zS'.f1.drop; clear zS'
          refine hK.out _ _ (HeldL.cons (fun _ => ⟨cell_of_row _ _ 2 _ _ _ zS.out.k1, hrg2.out _ zS.out.m4⟩) HeldL.nil) (fun hHeld' => ?_)
          clear hK K hHeld; have hHeld := hHeld'; clear hHeld'
          try simp only [Act.put, List.setIfInBounds_toArray, List.set_cons_zero, List.set_cons_succ]
          refine wpAnyL_take0 (i := 8) (v := ?_) rfl (by kernel_rfl) (by kernel_rfl) (by kernel_rfl) (by rfl) (fun _ _ _ h => h) (Or.inl ⟨by rfl, ?_⟩) (by assumption) ?_
          rotate_left
          · (intro W _; go_simp; (with_reducible rfl))
          intro hHeld'
          clear hHeld; have hHeld := hHeld'; clear hHeld'
          try simp only [Act.put, List.setIfInBounds_toArray, List.set_cons_zero, List.set_cons_succ]
          have q1 : wc.cell? ⟨w.heap.size + 1 + 1, 2, none⟩ = some vO := cell_of_row _ _ 2 _ _ _ zS.out.k1
          have q2 := frozen_of_row _ _ 2 _ _ zS.out.k1
          refine wpAnyL_ready (rs := [9]) (by kernel_rfl) (by simp) ?_
          refine AllReadyL.cons rfl (fun K hK => ?_) AllReadyL.nil
          go_simp
          replace zS := hid (show St w.heap.size w (Asn.blk (w.heap.size + 1 + 1) #[.int .i64 (l : Int), .slice (some ⟨gn, 0, none⟩) (q + 1) cn, .slice (some ⟨go, 0, none⟩) (q + 1) co] 225 :: _) _ from zS.out.f1.setBlk (by omega) 2 (.slice (some ⟨go, 0, none⟩) (q + 1) co)); clear q1 q2
          rw [← hs2.out] at zS
          refine hK.out _ _ (HeldL.cons (fun h => absurd h (by decide +kernel)) HeldL.nil) (fun hHeld' => ?_)
          clear hK K hHeld; have hHeld := hHeld'; clear hHeld'
          try simp only [Act.put, List.setIfInBounds_toArray, List.set_cons_zero, List.set_cons_succ]
          refine wpAnyL_done (by kernel_rfl) ?_ _
          go_wp2
          go_roundw
          case rel => exact ⟨q + 1, by omega, by go_num, _, _, zS.out.f2.s1⟩
          case measure => simp [intOf]; omega
    · obtain rfl : s = q := by omega
      have hlg := hid (show LG wr w.heap.size vN vO T from ⟨by rw [hTn.out, hTL.out]; exact rS.out.n0, by rw [hTn.out, hTL.out]; exact rS.out.n1⟩)
      have hone := hid (show (#[Value.int .i64 (l : Int), vN, vO]).all (·.oneCell') = true from all_oneCell_toArray (cs := [Value.int .i64 (l : Int), vN, vO]) (fun v hv => by
        simp only [List.mem_cons, List.not_mem_nil, or_false] at hv
        rcases hv with rfl | rfl | rfl
        · rfl
        · exact rS.out.n0.oneCell
        · exact rS.out.n1.oneCell))
      have rg := hid (show wr.rangeAt (w.heap.size + 1 + 1) 0 [.int .i64 (l : Int), vN, vO] from fun j u hu => by rw [Nat.zero_add, cell_of_row _ _ j _ _ _ rS.out.k2]; simpa using hu)
      have rt := hid (show wr.there (w.heap.size + 1) 0 3 from fun j hj => by
        rw [Nat.zero_add]
        refine ⟨?_, frozen_of_row _ _ j _ _ rS.out.k3⟩
        rw [cell_of_row _ _ j _ _ _ rS.out.k3]
        have : j = 0 ∨ j = 1 ∨ j = 2 := by omega
        rcases this with rfl | rfl | rfl <;> rfl)
      go_wp2_with (first
        | ((with_reducible refine gate (N := 47) rfl ?_); refine wpList_load_mid rfl 225 _ rfl (w.heap.size + 1 + 1) 0 rfl [.int .i64 (l : Int), vN, vO] _ rg.out Try.underlying225 rfl sz_large ?_)
        | ((with_reducible refine gateOp (op := .store 225 (.tmp 2) (.tmp 47)) rfl ?_); refine wpList_store_mid rfl 225 _ _ rfl (w.heap.size + 1) 0 #[.int .i64 (l : Int), vN, vO] rfl rfl rt.out sz_large hone.out ?_))
      have zS := hid (show St w.heap.size w (Asn.blk (w.heap.size + 1) #[.int .i64 (l : Int), vN, vO] 225 :: _) (wr.setCells (w.heap.size + 1) 0 [.int .i64 (l : Int), vN, vO]) from ((rS.out.f3.setBlk (Nat.le_succ _) 0 (.int .i64 (l : Int))).setBlk (Nat.le_succ _) 1 vN).setBlk (Nat.le_succ _) 2 vO)
      exact ret_blk rfl rfl zS.out.k0 Try.underlying225 rfl sz_large rfl ⟨vN, vO, rfl, ⟨by rw [hTn.out, hTL.out]; exact zS.out.n1, by rw [hTn.out, hTL.out]; exact zS.out.n2⟩, zS.out.bel⟩
end Go.Proofs.Ythmcdfjijkecfaa

/- Group words: what IsGroupWord answers. -/
namespace Go.Proofs.Ythmcdfjijkecfaa
open Go.RowKit
set_option linter.unusedVariables false
set_option linter.unusedSimpArgs false

/-- A number stands for a state or for its inverse. -/
def isNum (s : Nat) (k : Int) : Prop := k ≠ 0 ∧ -(s : Int) ≤ k ∧ k ≤ s
/-- A list is a group word. -/
def IsGw (m : Mach) (g : List Int) : Prop := IsM m ∧ g.length ≤ 40 ∧ ∀ k ∈ g, isNum m.S.toNat k
def badNum (s : Nat) (k : Int) : Bool := (k == 0) || !decide (-(s : Int) ≤ k ∧ k ≤ s)
theorem badNum_iff (s : Nat) (k : Int) : badNum s k = true ↔ ¬ isNum s k := by
  unfold badNum isNum
  rw [Bool.or_eq_true, Bool.not_eq_true', decide_eq_false_iff_not, beq_iff_eq]
  omega
theorem badAny_iff (s : Nat) (g : List Int) : g.any (badNum s) = true ↔ ¬ ∀ k ∈ g, isNum s k := by
  rw [List.any_eq_true]
  constructor
  · rintro ⟨x, hx, hb⟩ h
    exact (badNum_iff s x).1 hb (h x hx)
  · intro h
    apply Classical.byContradiction
    intro hn
    exact h fun k hk => Classical.byContradiction fun hb => hn ⟨k, hk, (badNum_iff s k).2 hb⟩

set_option maxHeartbeats 1000000 in
theorem gw1_any (b : Nat) (w : World) (m : Mach) (hm : MB w 27 b m) (l s : Nat) (g : Good m l s) (k : Int) :
    Calls Try.prog 171 #[.int .i64 k, .pointer (some ⟨b, 0, none⟩)] w fun e w' => e = .returned (.bool (badNum s k)) ∧ w = w' := by
  have cS := hm.cS
  rw [g.S] at cS
  have s16 := g.s16
  clear hm g
  by_cases hk : k = 0
  · subst hk
    have hr := hid (show badNum s 0 = true from rfl)
    generalize badNum s 0 = r at *
    go_enter Try.func171, Try.ntmps171
    go_wp2
    go_ret
    exact ⟨retB hr.out.symm, rfl⟩
  · have hk0 : (k == 0) = false := by simpa using hk
    have hin := hid (fun W => within_any k (-(s : Int)) s (decide (-(s : Int) ≤ k ∧ k ≤ s)) rfl W)
    have hr := hid (show badNum s k = !decide (-(s : Int) ≤ k ∧ k ≤ s) from by unfold badNum; rw [hk0]; rfl)
    have e1 : IntKind.i64.wrap (-(s : Int)) = -(s : Int) := IntWalk.i64_in _ (by omega)
    generalize badNum s k = r at *
    generalize decide (-(s : Int) ≤ k ∧ k ≤ s) = c at *
    go_enter Try.func171, Try.ntmps171
    go_wp2_with (first
      | (go_at_call 124; (with_reducible refine (hin.out _).mono ?_); rintro e w' ⟨rfl, rfl⟩))
    go_ret
    exact ⟨retB hr.out.symm, rfl⟩
set_option maxHeartbeats 1000000 in
set_option maxRecDepth 100000 in
theorem indexFuncI_gw (b : Nat) (w : World) (base : Nat) (v : Value) (l : List Int) (h : Own w base 2 v (ints l)) (hl : l.length < 2000000) (p : Int → Bool)
    (hcall : ∀ W, Below w.heap.size w W → ∀ x, x ∈ l → Calls Try.prog 171 #[.int .i64 x, .pointer (some ⟨b, 0, none⟩)] W fun e w' => e = .returned (.bool (p x)) ∧ Below W.heap.size W w') :
    Calls Try.prog 234 #[v, .func (.func 171) #[] #[.pointer (some ⟨b, 0, none⟩)]] w fun e w' => e = .returned (.int .i64 (idxP p l 0)) ∧ Below w.heap.size w w' := by
  have hil := ints_length l
  obtain ⟨A1, c1, rfl, _, _⟩ := h.form
  rw [hil] at h ⊢
  have hget := hid (fun (k : Nat) (x : Int) (hx : l[k]? = some x) => (show (ints l)[k]? = some (.int .i64 x) by simp [ints, hx]))
  have hcell := hid (fun (k : Nat) (x : Int) (hx : l[k]? = some x) => (show ∃ g, A1 = some ⟨g, 0, none⟩ ∧ ∀ W, Below w.heap.size w W → W.cell? ⟨g, k, none⟩ = some (.int .i64 x) from by
    obtain ⟨g1, c2, he, _, hg1⟩ := h.blk (fun e => by have h1 := congrArg List.length e; rw [hil] at h1; have h2 := (List.getElem?_eq_some_iff.1 hx).1; rw [List.length_nil] at h1; omega)
    injection he with e1 e2 e3
    subst e1
    exact ⟨g1, rfl, fun W hW => (h.below hW).cellAt k _ (hget.out k x hx)⟩))
  replace hcall := hid hcall
  clear h hil
  obtain ⟨R, hR⟩ : ∃ R, R = idxP p l 0 := ⟨_, rfl⟩
  rw [← hR]
  replace hR := hid hR
  generalize hn : l.length = n at *
  replace hn := hid hn
  go_enter Try.func234, Try.ntmps234
  go_wp2
  go_loopw [8] (fun i wr => ∃ k : Nat, k ≤ n ∧ i = .int .i64 k ∧ Hid (R = idxP p (l.drop k) k) ∧ Below w.heap.size w wr) (fun i _ => n - (intOf i).toNat)
  case atStart => exact ⟨0, Nat.zero_le _, rfl, hR, Below.refl _ _⟩
  case round =>
    obtain ⟨k, hk, rfl, hA, rB⟩ := hrel
    clear hR
    replace rB := hid rB
    by_cases hlt : k < n
    · obtain ⟨x, hx⟩ : ∃ x, l[k]? = some x := ⟨_, List.getElem?_eq_getElem (by rw [hn.out]; exact hlt)⟩
      obtain ⟨g, rfl, hc⟩ := hcell.out k x hx
      have d1 := hc wr rB.out
      have hcl := hid (hcall.out wr rB.out x (List.mem_of_getElem? hx))
      have hT := hid (fun hp => idxP_drop_t (p := p) hx hp k)
      have hF := hid (fun hp => idxP_drop_f (p := p) hx hp k)
      clear hc hx
      cases hp : p x with
      | true =>
        rw [hp] at hcl
        have hA2 := hid (hA.out.trans (hT.out hp))
        clear hp hT hF
        go_wp2_with (first
          | (go_at_call 171; (with_reducible refine (hcl.out).mono ?_); rintro e w1 ⟨rfl, hb⟩; replace rB := hid (rB.out.trans (hb.mono rB.out.size)); clear hb))
        go_ret
        exact ⟨retI (by rw [hA2.out]), rB.out⟩
      | false =>
        rw [hp] at hcl
        have hA2 := hid (hA.out.trans (hF.out hp))
        clear hp hT hF
        go_wp2_with (first
          | (go_at_call 171; (with_reducible refine (hcl.out).mono ?_); rintro e w1 ⟨rfl, hb⟩; replace rB := hid (rB.out.trans (hb.mono rB.out.size)); clear hb))
        go_roundw
        case rel => exact ⟨k + 1, by omega, by go_num, hA2, rB.out⟩
        case measure => simp [intOf]; omega
    · obtain rfl : k = n := by omega
      have hA2 := hid (hA.out.trans (show _ = (-1 : Int) by rw [List.drop_eq_nil_of_le (by rw [hn.out]; exact Nat.le_refl _)]; rfl))
      go_wp2
      go_ret
      exact ⟨retI (by rw [hA2.out]), rB.out⟩
set_option maxHeartbeats 1000000 in
theorem containsFuncI_gw (b : Nat) (w : World) (base : Nat) (v : Value) (l : List Int) (h : Own w base 2 v (ints l)) (hl : l.length < 2000000) (p : Int → Bool)
    (hcall : ∀ W, Below w.heap.size w W → ∀ x, x ∈ l → Calls Try.prog 171 #[.int .i64 x, .pointer (some ⟨b, 0, none⟩)] W fun e w' => e = .returned (.bool (p x)) ∧ Below W.heap.size W w') :
    Calls Try.prog 149 #[v, .func (.func 171) #[] #[.pointer (some ⟨b, 0, none⟩)]] w fun e w' => e = .returned (.bool (l.any p)) ∧ Below w.heap.size w w' := by
  have hi := hid (indexFuncI_gw b w base v l h hl p hcall)
  have ha := hid (idxP_any p l 0 (Int.le_refl _))
  clear hcall h hl
  generalize idxP p l 0 = r at *
  generalize l.any p = c at *
  go_enter Try.func149, Try.ntmps149
  go_wp2_with (first
    | (go_at_call 234; (with_reducible refine (hi.out).mono ?_); rintro e w1 ⟨rfl, hb⟩; replace hb := hid hb))
  go_ret
  refine ⟨retB ?_, hb.out⟩
  have h := ha.out
  rw [Bool.eq_iff_iff, ← h]
  simp

set_option maxHeartbeats 2000000 in
set_option maxRecDepth 4000 in
theorem IsGroupWord_any (w : World) (m : Mach) (hk : m.Ok) (base : Nat) (v : Value) (g : List Int) (h : Own w base 2 v (ints g)) (hl : g.length < 2000000) (r : Bool) (hr : Tells r (IsGw m g)) :
    Calls Try.prog 60 #[.agg (mcells m), v] w fun e w' => e = .returned (.bool r) ∧ Below w.heap.size w w' := by
  have hS := hid ((St.start w).newMB m 27)
  have hmf : ∀ (fn : Fn) (first cap : Array Value) (w : World), (Instr.makeFunc fn first cap).run Try.prog w = .ok (.func fn first cap) w := fun _ _ _ _ => rfl
  have hil := ints_length g
  obtain ⟨A, c, rfl, _, _⟩ := h.form
  rw [hil] at h ⊢
  replace h := hid h
  by_cases hm : IsM m
  · obtain ⟨l, s, gd⟩ := hm.good
    have hS2 : m.S.toNat = s := by rw [gd.S]; rfl
    have hi := hid (fun W => IsMachine_any W m hk true ⟨fun _ => hm, fun _ => rfl⟩)
    have hc := hid (fun W (hW : Below w.heap.size w W) (hmb : MB W 27 w.heap.size m) => containsFuncI_gw w.heap.size W base _ g (h.out.below hW) hl (badNum s) (fun W' hW' x _ => (gw1_any w.heap.size W' m (hmb.below hW' hmb.lt) l s gd x).mono fun e w' hh => ⟨hh.1, hh.2 ▸ Below.refl _ _⟩))
    have hb := badAny_iff s g
    have hgw : IsGw m g ↔ g.length ≤ 40 ∧ ∀ k ∈ g, isNum s k := by unfold IsGw; rw [hS2]; exact ⟨fun h => h.2, fun h => ⟨hm, h⟩⟩
    have hr2 := hr.out
    by_cases h40 : g.length ≤ 40
    · have d1 : decide ((g.length : Int) ≤ 40) = true := decide_eq_true (by omega)
      have hfin : Hid (r = !(g.any (badNum s))) := by
        refine hid ?_
        rw [Bool.eq_iff_iff, hr2, hgw]
        cases hh : g.any (badNum s)
        · rw [hh] at hb
          simp only [Bool.not_false, iff_true]
          exact ⟨h40, Classical.byContradiction fun hn => by have := hb.2 hn; cases this⟩
        · simp only [Bool.not_true, Bool.false_eq_true, iff_false]
          exact fun hn => (hb.1 hh) hn.2
      replace hk := hid hk
      clear hr hr2 hgw hb hm gd
      generalize g.any (badNum s) = bad at *
      generalize g.length = n at *
      go_enter Try.func60, Try.ntmps60
      go_wp2_with (first
        | ((with_reducible refine gate (N := 5) rfl ?_); refine load_mach rfl _ rfl w.heap.size rfl m hS.out.m0 ?_)
        | (go_at_call 77; (with_reducible refine (hi.out _).mono ?_); rintro e w1 ⟨rfl, hb⟩; replace hS := hid (hS.out.call hb); clear hb)
        | (go_at_call 149; (with_reducible refine (hc.out _ hS.out.bel hS.out.m0).mono ?_); rintro e w2 ⟨rfl, hb⟩; replace hS := hid (hS.out.call hb); clear hb))
      go_ret
      exact ⟨retB hfin.out.symm, hS.out.bel⟩
    · have d1 : decide ((g.length : Int) ≤ 40) = false := decide_eq_false (by omega)
      have hfin : Hid (r = false) := by
        refine hid ?_
        rw [Bool.eq_false_iff, Ne, hr2, hgw]
        exact fun hn => h40 hn.1
      replace hk := hid hk
      clear hr hr2 hgw hb hm gd
      generalize g.length = n at *
      go_enter Try.func60, Try.ntmps60
      go_wp2_with (first
        | ((with_reducible refine gate (N := 5) rfl ?_); refine load_mach rfl _ rfl w.heap.size rfl m hS.out.m0 ?_)
        | (go_at_call 77; (with_reducible refine (hi.out _).mono ?_); rintro e w1 ⟨rfl, hb⟩; replace hS := hid (hS.out.call hb); clear hb))
      go_ret
      exact ⟨retB hfin.out.symm, hS.out.bel⟩
  · have hi := hid (fun W => IsMachine_any W m hk false ⟨fun h => (by cases h), fun h => absurd h hm⟩)
    have hfin : Hid (r = false) := by
      refine hid ?_
      rw [Bool.eq_false_iff, Ne, hr.out]
      exact fun hn => hm hn.1
    replace hk := hid hk
    clear hr hm
    generalize g.length = n at *
    go_enter Try.func60, Try.ntmps60
    go_wp2_with (first
      | ((with_reducible refine gate (N := 5) rfl ?_); refine load_mach rfl _ rfl w.heap.size rfl m hS.out.m0 ?_)
      | (go_at_call 77; (with_reducible refine (hi.out _).mono ?_); rintro e w1 ⟨rfl, hb⟩; replace hS := hid (hS.out.call hb); clear hb))
    go_ret
    exact ⟨retB hfin.out.symm, hS.out.bel⟩
end Go.Proofs.Ythmcdfjijkecfaa

/- Trivial states: what the program's trivial answers. -/
namespace Go.Proofs.Ythmcdfjijkecfaa
open Go.RowKit
set_option linter.unusedVariables false
set_option linter.unusedSimpArgs false
-- @LONG

/-- A state is trivial: it is among states that keep all letters and go on among themselves. -/
def Tv (T : Tab) (q : Nat) : Prop := ∃ S : Nat → Prop, S q ∧ ∀ r, S r → r < T.n ∧ ∀ x, x < T.L → T.ot r x = x ∧ S (T.nx r x)
theorem Tv.keep {T : Tab} {q : Nat} (h : Tv T q) : ∀ x, x < T.L → T.ot q x = x ∧ Tv T (T.nx q x) := fun x hx => by
  obtain ⟨S, hq, hS⟩ := h
  exact ⟨((hS q hq).2 x hx).1, S, ((hS q hq).2 x hx).2, hS⟩
theorem Tv.lt {T : Tab} {q : Nat} (h : Tv T q) : q < T.n := by obtain ⟨S, hq, hS⟩ := h; exact (hS q hq).1
open Classical in
noncomputable def tvL (T : Tab) : List Bool := (List.range T.n).map fun q => decide (Tv T q)
theorem tvL_length (T : Tab) : (tvL T).length = T.n := by simp [tvL]
theorem tvL_get (T : Tab) (q : Nat) (h : q < T.n) : ∃ b, (tvL T)[q]? = some b ∧ (b = true ↔ Tv T q) := by
  classical
  exact ⟨decide (Tv T q), by simp [tvL, h], decide_eq_true_iff⟩
def bls (l : List Bool) : List Value := l.map Value.bool
theorem bls_length (l : List Bool) : (bls l).length = l.length := by simp [bls]
theorem bls_get {l : List Bool} {i : Nat} {b : Bool} (h : l[i]? = some b) : (bls l)[i]? = some (.bool b) := by simp [bls, h]
theorem bls_set (l : List Bool) (i : Nat) (b : Bool) : (bls l).set i (.bool b) = bls (l.set i b) := by simp [bls, List.map_set]

/-- What keeps all letters. -/
def kept (T : Tab) (q : Nat) : Bool := alls T.L fun x => T.ot q x == x
theorem kept_iff (T : Tab) (q : Nat) : kept T q = true ↔ ∀ x, x < T.L → T.ot q x = x := by unfold kept; rw [alls_iff]; simp
theorem Tv.kept {T : Tab} {q : Nat} (h : Tv T q) : kept T q = true := (kept_iff T q).2 fun x hx => (h.keep x hx).1
/-- What is known on the way: nothing trivial is lost, nothing that turns letters is there. -/
def TvB (T : Tab) (bl : List Bool) : Prop := bl.length = T.n ∧ (∀ q, bl[q]? = some true → Go.Proofs.Ythmcdfjijkecfaa.kept T q = true) ∧ ∀ q, Tv T q → bl[q]? = some true
/-- Those before q go on among themselves. -/
def TvC (T : Tab) (bl : List Bool) (q : Nat) : Prop := ∀ j, j < q → bl[j]? = some true → ∀ x, x < T.L → bl[T.nx j x]? = some true
/-- Some of the next states is not there. -/
def lost (T : Tab) (bl : List Bool) (q : Nat) : Bool := (rwI T.nx q T.L).any fun r => !(bl.getD r.toNat false)
theorem lost_iff {T : Tab} (hT : T.Ok) {bl : List Bool} (h : bl.length = T.n) {q : Nat} (hq : q < T.n) : lost T bl q = false ↔ ∀ x, x < T.L → bl[T.nx q x]? = some true := by
  unfold lost rwI
  rw [List.any_eq_false]
  constructor
  · intro hh x hx
    have h1 := hh ((T.nx q x : Nat) : Int) (List.mem_map.2 ⟨x, List.mem_range.2 hx, rfl⟩)
    have hlt := hT.nx q x hq hx
    rw [Int.toNat_natCast, List.getD_eq_getElem?_getD, List.getElem?_eq_getElem (by omega)] at h1
    rw [List.getElem?_eq_getElem (by omega)]
    simpa using h1
  · intro hh r hr
    obtain ⟨x, hx, rfl⟩ := List.mem_map.1 hr
    rw [Int.toNat_natCast, List.getD_eq_getElem?_getD, hh x (List.mem_range.1 hx)]
    simp
/-- How many are there. -/
def cntB : List Bool → Nat
  | [] => 0
  | b :: l => (if b then 1 else 0) + cntB l
theorem cntB_set : ∀ (l : List Bool) (q : Nat), l[q]? = some true → cntB (l.set q false) + 1 = cntB l
  | b :: l, 0, h => by simp at h; subst h; simp [cntB]; omega
  | b :: l, q + 1, h => by
    have := cntB_set l q (by simpa using h)
    simp [cntB]; omega
theorem cntB_le : ∀ l : List Bool, cntB l ≤ l.length
  | [] => Nat.le_refl _
  | b :: l => by have := cntB_le l; unfold cntB; simp; split <;> omega
theorem getE_set (l : List Bool) (q j : Nat) (b : Bool) (hq : q < l.length) : (l.set q b)[j]? = if j = q then some b else l[j]? := by
  by_cases h : j = q
  · subst h; rw [if_pos rfl, List.getElem?_set_self hq]
  · rw [if_neg h, List.getElem?_set_ne (Ne.symm h)]
/-- A state that goes on to one that is not there is none. -/
theorem TvB.strike {T : Tab} (hT : T.Ok) {bl : List Bool} (h : TvB T bl) {q : Nat} (hq : q < T.n) (hl : lost T bl q = true) : TvB T (bl.set q false) := by
  refine ⟨by rw [List.length_set]; exact h.1, fun j hj => ?_, fun j hj => ?_⟩
  · rw [getE_set _ _ _ _ (by rw [h.1]; exact hq)] at hj
    split at hj
    · simp at hj
    · exact h.2.1 j hj
  · rw [getE_set _ _ _ _ (by rw [h.1]; exact hq)]
    split
    · rename_i e
      subst e
      have : lost T bl j = false := (lost_iff hT h.1 hq).2 fun x hx => h.2.2 _ (hj.keep x hx).2
      rw [hl] at this; cases this
    · exact h.2.2 j hj
theorem TvC.more {T : Tab} (hT : T.Ok) {bl : List Bool} (hb : bl.length = T.n) {q : Nat} (hq : q < T.n) (h : TvC T bl q) (hl : bl[q]? = some true → lost T bl q = false) : TvC T bl (q + 1) := fun j hj hjt => by
  by_cases e : j = q
  · subst e; exact (lost_iff hT hb hq).1 (hl hjt)
  · exact h j (by omega) hjt
theorem TvB.done {T : Tab} {bl : List Bool} (h : TvB T bl) (hc : TvC T bl T.n) : bl = tvL T := by
  apply List.ext_getElem?
  intro q
  by_cases hq : q < T.n
  · obtain ⟨b, hb, hbi⟩ := tvL_get T q hq
    rw [hb, List.getElem?_eq_getElem (by rw [h.1]; exact hq)]
    congr 1
    rw [Bool.eq_iff_iff, hbi]
    constructor
    · intro hg
      refine ⟨fun r => bl[r]? = some true, by show bl[q]? = some true; rw [List.getElem?_eq_getElem (by rw [h.1]; exact hq), hg], fun r hr => ?_⟩
      have hrl : r < T.n := by rw [← h.1]; exact (List.getElem?_eq_some_iff.1 hr).1
      exact ⟨hrl, fun x hx => ⟨(kept_iff T r).1 (h.2.1 r hr) x hx, hc r hrl hr x hx⟩⟩
    · intro ht
      have := h.2.2 q ht
      rw [List.getElem?_eq_getElem (by rw [h.1]; exact hq)] at this
      simpa using this
  · rw [List.getElem?_eq_none (by rw [h.1]; omega), List.getElem?_eq_none (by rw [tvL_length]; omega)]
/-- The list as far as it is written: q states told, and x letters of the next one. -/
def keptL (T : Tab) (q : Nat) (n : Nat) : List Bool := (List.range n).map fun j => if j < q then Go.Proofs.Ythmcdfjijkecfaa.kept T j else false
theorem keptL_length (T : Tab) (q n : Nat) : (keptL T q n).length = n := by simp [keptL]
theorem keptL_set (T : Tab) (q n : Nat) : (keptL T q n).set q (Go.Proofs.Ythmcdfjijkecfaa.kept T q) = keptL T (q + 1) n := by
  apply List.ext_getElem?
  intro j
  by_cases hj : j < n
  · rw [List.getElem?_set]
    by_cases e : q = j
    · subst e; simp [keptL, hj]
    · have e2 : decide (j < q) = decide (j < q + 1) := decide_eq_decide.2 (by omega)
      simp [keptL, hj, e, e2]
  · rw [List.getElem?_eq_none (by simp [keptL]; omega), List.getElem?_eq_none (by simp [keptL]; omega)]
theorem keptL_done (T : Tab) : TvB T (keptL T T.n T.n) := by
  refine ⟨keptL_length _ _ _, fun q hq => ?_, fun q hq => ?_⟩
  · have h1 := (List.getElem?_eq_some_iff.1 hq).1
    rw [keptL_length] at h1
    simpa [keptL, h1] using hq
  · have h1 := hq.lt
    simp [keptL, h1, hq.kept]
theorem keptL_zero (T : Tab) (n : Nat) : bls (keptL T 0 n) = List.replicate n (.bool false) := by
  apply List.ext_getElem?
  intro j
  by_cases hj : j < n
  · simp [bls, keptL, hj]
  · rw [List.getElem?_eq_none (by simp [bls, keptL]; omega), List.getElem?_eq_none (by simp; omega)]
end Go.Proofs.Ythmcdfjijkecfaa

/- Trivial states: the program's trivial. -/
namespace Go.Proofs.Ythmcdfjijkecfaa
open Go.RowKit
set_option linter.unusedVariables false
set_option linter.unusedSimpArgs false
-- @LONG

theorem info_bool : (Try.prog.info? 4).map (fun i => (i.zero, i.size, i.bytes)) = some (some (.bool false), 1, 1) := by kernel_rfl
set_option maxHeartbeats 1000000 in
theorem triv1_any (b3 go n c r : Nat) (u : Bool) (w : World) (hb : w.cell? ⟨b3, 0, none⟩ = some (.slice (some ⟨go, 0, none⟩) n c)) (hr : r < n) (hu : w.cell? ⟨go, r, none⟩ = some (.bool u)) :
    Calls Try.prog 212 #[.int .i64 r, .pointer (some ⟨b3, 0, none⟩)] w fun e w' => e = .returned (.bool (!u)) ∧ w = w' := by
  have r0 : (0 : Int) ≤ (r : Int) := Int.natCast_nonneg _
  have r1 : (r : Int) < (n : Int) := by omega
  go_enter Try.func212, Try.ntmps212
  go_wp2
  go_ret
  exact ⟨rfl, rfl⟩
set_option maxHeartbeats 1000000 in
set_option maxRecDepth 100000 in
theorem indexFuncI_triv (b : Nat) (w : World) (base : Nat) (v : Value) (l : List Int) (h : Own w base 2 v (ints l)) (hl : l.length < 2000000) (p : Int → Bool)
    (hcall : ∀ W, Below w.heap.size w W → ∀ x, x ∈ l → Calls Try.prog 212 #[.int .i64 x, .pointer (some ⟨b, 0, none⟩)] W fun e w' => e = .returned (.bool (p x)) ∧ Below W.heap.size W w') :
    Calls Try.prog 234 #[v, .func (.func 212) #[] #[.pointer (some ⟨b, 0, none⟩)]] w fun e w' => e = .returned (.int .i64 (idxP p l 0)) ∧ Below w.heap.size w w' := by
  have hil := ints_length l
  obtain ⟨A1, c1, rfl, _, _⟩ := h.form
  rw [hil] at h ⊢
  have hget := hid (fun (k : Nat) (x : Int) (hx : l[k]? = some x) => (show (ints l)[k]? = some (.int .i64 x) by simp [ints, hx]))
  have hcell := hid (fun (k : Nat) (x : Int) (hx : l[k]? = some x) => (show ∃ g, A1 = some ⟨g, 0, none⟩ ∧ ∀ W, Below w.heap.size w W → W.cell? ⟨g, k, none⟩ = some (.int .i64 x) from by
    obtain ⟨g1, c2, he, _, hg1⟩ := h.blk (fun e => by have h1 := congrArg List.length e; rw [hil] at h1; have h2 := (List.getElem?_eq_some_iff.1 hx).1; rw [List.length_nil] at h1; omega)
    injection he with e1 e2 e3
    subst e1
    exact ⟨g1, rfl, fun W hW => (h.below hW).cellAt k _ (hget.out k x hx)⟩))
  replace hcall := hid hcall
  clear h hil
  obtain ⟨R, hR⟩ : ∃ R, R = idxP p l 0 := ⟨_, rfl⟩
  rw [← hR]
  replace hR := hid hR
  generalize hn : l.length = n at *
  replace hn := hid hn
  go_enter Try.func234, Try.ntmps234
  go_wp2
  go_loopw [8] (fun i wr => ∃ k : Nat, k ≤ n ∧ i = .int .i64 k ∧ Hid (R = idxP p (l.drop k) k) ∧ Below w.heap.size w wr) (fun i _ => n - (intOf i).toNat)
  case atStart => exact ⟨0, Nat.zero_le _, rfl, hR, Below.refl _ _⟩
  case round =>
    obtain ⟨k, hk, rfl, hA, rB⟩ := hrel
    clear hR
    replace rB := hid rB
    by_cases hlt : k < n
    · obtain ⟨x, hx⟩ : ∃ x, l[k]? = some x := ⟨_, List.getElem?_eq_getElem (by rw [hn.out]; exact hlt)⟩
      obtain ⟨g, rfl, hc⟩ := hcell.out k x hx
      have d1 := hc wr rB.out
      have hcl := hid (hcall.out wr rB.out x (List.mem_of_getElem? hx))
      have hT := hid (fun hp => idxP_drop_t (p := p) hx hp k)
      have hF := hid (fun hp => idxP_drop_f (p := p) hx hp k)
      clear hc hx
      cases hp : p x with
      | true =>
        rw [hp] at hcl
        have hA2 := hid (hA.out.trans (hT.out hp))
        clear hp hT hF
        go_wp2_with (first
          | (go_at_call 212; (with_reducible refine (hcl.out).mono ?_); rintro e w1 ⟨rfl, hb⟩; replace rB := hid (rB.out.trans (hb.mono rB.out.size)); clear hb))
        go_ret
        exact ⟨retI (by rw [hA2.out]), rB.out⟩
      | false =>
        rw [hp] at hcl
        have hA2 := hid (hA.out.trans (hF.out hp))
        clear hp hT hF
        go_wp2_with (first
          | (go_at_call 212; (with_reducible refine (hcl.out).mono ?_); rintro e w1 ⟨rfl, hb⟩; replace rB := hid (rB.out.trans (hb.mono rB.out.size)); clear hb))
        go_roundw
        case rel => exact ⟨k + 1, by omega, by go_num, hA2, rB.out⟩
        case measure => simp [intOf]; omega
    · obtain rfl : k = n := by omega
      have hA2 := hid (hA.out.trans (show _ = (-1 : Int) by rw [List.drop_eq_nil_of_le (by rw [hn.out]; exact Nat.le_refl _)]; rfl))
      go_wp2
      go_ret
      exact ⟨retI (by rw [hA2.out]), rB.out⟩
set_option maxHeartbeats 1000000 in
theorem containsFuncI_triv (b : Nat) (w : World) (base : Nat) (v : Value) (l : List Int) (h : Own w base 2 v (ints l)) (hl : l.length < 2000000) (p : Int → Bool)
    (hcall : ∀ W, Below w.heap.size w W → ∀ x, x ∈ l → Calls Try.prog 212 #[.int .i64 x, .pointer (some ⟨b, 0, none⟩)] W fun e w' => e = .returned (.bool (p x)) ∧ Below W.heap.size W w') :
    Calls Try.prog 149 #[v, .func (.func 212) #[] #[.pointer (some ⟨b, 0, none⟩)]] w fun e w' => e = .returned (.bool (l.any p)) ∧ Below w.heap.size w w' := by
  have hi := hid (indexFuncI_triv b w base v l h hl p hcall)
  have ha := hid (idxP_any p l 0 (Int.le_refl _))
  clear hcall h hl
  generalize idxP p l 0 = r at *
  generalize l.any p = c at *
  go_enter Try.func149, Try.ntmps149
  go_wp2_with (first
    | (go_at_call 234; (with_reducible refine (hi.out).mono ?_); rintro e w1 ⟨rfl, hb⟩; replace hb := hid hb))
  go_ret
  refine ⟨retB ?_, hb.out⟩
  have h := ha.out
  rw [Bool.eq_iff_iff, ← h]
  simp

set_option maxHeartbeats 8000000 in
set_option maxRecDepth 100000 in
theorem trivial_any (w : World) (G : Nat) (vN vO : Value) (T : Tab) (hT : T.Ok) (hL : T.L ≤ 3) (hL0 : 0 < T.L) (hn : T.n < 100000) (hTB : TB w G vN vO T) :
    Calls Try.prog 109 #[.pointer (some ⟨G, 0, none⟩)] w fun e w' => ∃ v, e = .returned v ∧ Own w' w.heap.size 4 v (bls (tvL T)) ∧ Below w.heap.size w w' := by
  have hpos := hT.pos
  obtain ⟨gN, cN, rfl, _, _⟩ := hTB.2.1.blk (fun e => by have h1 := congrArg List.length e; rw [tbL_length] at h1; simp at h1; omega)
  obtain ⟨gO, cO, rfl, _, _⟩ := hTB.2.2.blk (fun e => by have h1 := congrArg List.length e; rw [tbL_length] at h1; simp at h1; omega)
  rw [tbL_length, tbL_length] at hTB
  have hread := hid (fun W (hb : Below w.heap.size w W) => (show W.cell? ⟨G, 0, none⟩ = some (.slice (some ⟨gN, 0, none⟩) T.n cN) ∧ W.cell? ⟨G, 1, none⟩ = some (.slice (some ⟨gO, 0, none⟩) T.n cO) from ⟨(hTB.below hb).c0, (hTB.below hb).c1⟩))
  have hrowN := hid (fun q (hq : q < T.n) => (show ∃ g c, ∀ W, Below w.heap.size w W → W.cell? ⟨gN, q, none⟩ = some (.slice (some ⟨g, 0, none⟩) T.L c) ∧ Own W G 2 (.slice (some ⟨g, 0, none⟩) T.L c) (ints (rwI T.nx q T.L)) from by
    obtain ⟨rows, hO, hlr, hall⟩ := hTB.2.1
    have hi : q < rows.length := by rw [hlr, tbL_length]; exact hq
    obtain ⟨r, hr⟩ : ∃ r, rows[q]? = some r := ⟨_, List.getElem?_eq_getElem hi⟩
    have hrow := hall q r _ hr (tbL_get T.nx T.n T.L q hq)
    obtain ⟨g, c, rfl, _, _⟩ := hrow.blk (fun e => by have h1 := congrArg List.length e; rw [ints_length, rwI_length] at h1; simp at h1; omega)
    rw [ints_length, rwI_length] at hr hrow
    exact ⟨g, c, fun W hb => ⟨(hO.below hb).cellAt q _ hr, hrow.below hb⟩⟩))
  have hrowO := hid (fun q (hq : q < T.n) => (show ∃ g c, ∀ W, Below w.heap.size w W → W.cell? ⟨gO, q, none⟩ = some (.slice (some ⟨g, 0, none⟩) T.L c) ∧ ∀ x, x < T.L → W.cell? ⟨g, x, none⟩ = some (.int .i64 (T.ot q x : Nat)) from by
    obtain ⟨rows, hO, hlr, hall⟩ := hTB.2.2
    have hi : q < rows.length := by rw [hlr, tbL_length]; exact hq
    obtain ⟨r, hr⟩ : ∃ r, rows[q]? = some r := ⟨_, List.getElem?_eq_getElem hi⟩
    have hrow := hall q r _ hr (tbL_get T.ot T.n T.L q hq)
    obtain ⟨g, c, rfl, _, _⟩ := hrow.blk (fun e => by have h1 := congrArg List.length e; rw [ints_length, rwI_length] at h1; simp at h1; omega)
    rw [ints_length, rwI_length] at hr hrow
    exact ⟨g, c, fun W hb => ⟨(hO.below hb).cellAt q _ hr, fun x hx => (hrow.below hb).cellAt x _ (by simp [ints, rwI_get _ _ _ _ hx])⟩⟩))
  have hmk := fun W : World => run_make_row' (P := Try.prog) 103 4 (.bool false) 1 Try.underlying103 info_bool rfl .i64 .i64 T.n (by omega) (by omega) W
  have hmc := hid (toList_madeCells_one (.bool false) T.n)
  generalize madeCells #[.bool false] T.n = mc at *
  have hmcs := hid (show mc.size = T.n by rw [← Array.length_toList, hmc.out, List.length_replicate])
  have hmf : ∀ (fn : Fn) (first cap : Array Value) (w : World), (Instr.makeFunc fn first cap).run Try.prog w = .ok (.func fn first cap) w := fun _ _ _ _ => rfl
  have hS := (St.start w).newArr mc T.n hmcs.out 4 (by omega)
  rw [hmc.out, ← keptL_zero T T.n] at hS
  have hS2 := hid (hS.newBlk #[.slice (some ⟨w.heap.size, 0, none⟩) T.n T.n] 103)
  rw [heap_alloc_size] at hS2
  clear hS
  have e1 := (hread.out w (Below.refl _ _)).2
  have hkd := hid (keptL_done T)
  have hks := hid (keptL_set T)
  have hlt := hid (fun q x hq hx => hT.nx q x hq hx)
  have hgo := hid (Nat.le_refl w.heap.size)
  replace hT := hid hT; replace hTB := hid hTB; replace hmcs := hid hmcs
  generalize hnn : T.n = n at *
  generalize hLL : T.L = L at *
  replace hnn := hid hnn; replace hLL := hid hLL
  go_enter Try.func109, Try.ntmps109
  go_upto_region 2 with (fail)
  clear e1
  have e1 := (hread.out _ hS2.out.bel).2
  generalize (w.alloc (.cells mc 4)).alloc (.cells #[.slice (some ⟨w.heap.size, 0, none⟩) n n] 103) = W1 at *
  generalize hgoe : w.heap.size = go at *
  replace hgoe := hid hgoe
  go_wp2
  clear e1
  go_loopw [22] (fun i wr => ∃ q : Nat, q ≤ n ∧ i = .int .i64 q ∧ St go w [Asn.blk (go + 1) #[.slice (some ⟨go, 0, none⟩) n n] 103, Asn.own go 4 (.slice (some ⟨go, 0, none⟩) n n) (bls (keptL T q n))] wr) (fun i _ => n - (intOf i).toNat)
  case atStart => exact ⟨0, Nat.zero_le _, rfl, hS2.out⟩
  case round =>
    obtain ⟨q, hq, rfl, rS⟩ := hrel
    clear hS2
    replace rS := hid rS
    by_cases hqn : q < n
    · obtain ⟨g2, c2, hr2⟩ := hrowO.out q hqn
      have e1 := (hr2 _ rS.out.bel).1
      have cb := cell_of_row _ _ 0 _ _ _ rS.out.k0
      have hl0 := hid (show (bls (keptL T q n)).length = n by rw [bls_length, keptL_length])
      have fo := Own.frozenAt rS.out.o1 hl0.out q
      obtain ⟨u0, hu0⟩ : ∃ u, (bls (keptL T q n))[q]? = some u := ⟨_, List.getElem?_eq_getElem (by rw [hl0.out]; exact hqn)⟩
      have co := Own.cellAt rS.out.o1 q u0 hu0
      clear hu0
      have hset := hid (rS.out.f1.setOwn hl0.out q (.bool true) hqn)
      rw [bls_set] at hset
      go_upto_region 6 with (fail)
      replace hset := hid hset.out
      generalize wr.setCell ⟨go, q, none⟩ (.bool true) = wa at *
      clear e1 cb fo co rS
      go_wp2
      have hset2 := hid (show St go w [Asn.own go 4 (.slice (some ⟨go, 0, none⟩) n n) (bls ((keptL T q n).set q (alls 0 fun x => T.ot q x == x))), Asn.blk (go + 1) #[.slice (some ⟨go, 0, none⟩) n n] 103] wa from hset.out)
      clear hset
      go_loopw [32] (fun i wr => ∃ x : Nat, x ≤ L ∧ i = .int .i64 x ∧ St go w [Asn.own go 4 (.slice (some ⟨go, 0, none⟩) n n) (bls ((keptL T q n).set q (alls x fun x => T.ot q x == x))), Asn.blk (go + 1) #[.slice (some ⟨go, 0, none⟩) n n] 103] wr) (fun i _ => L - (intOf i).toNat)
      case atStart => exact ⟨0, Nat.zero_le _, rfl, hset2.out⟩
      case round =>
        obtain ⟨x, hx, rfl, yS⟩ := hrel
        clear hset2
        replace yS := hid yS
        by_cases hxL : x < L
        · have ci := (hr2 _ yS.out.bel).2 x hxL
          have cb := cell_of_row _ _ 0 _ _ _ yS.out.k1
          have hl1 := hid (show (bls ((keptL T q n).set q (alls x fun x => T.ot q x == x))).length = n by rw [bls_length, List.length_set, keptL_length])
          have hg1 := hid (show ((keptL T q n).set q (alls x fun x => T.ot q x == x))[q]? = some (alls x fun x => T.ot q x == x) by rw [List.getElem?_set_self (by rw [keptL_length]; exact hqn)])
          have hsc := hid (show alls (x + 1) (fun x => T.ot q x == x) = ((alls x fun x => T.ot q x == x) && (T.ot q x == x)) from alls_succ x _)
          have hss := hid (fun b => (show ((keptL T q n).set q (alls x fun x => T.ot q x == x)).set q b = (keptL T q n).set q b by rw [List.set_set]))
          have hnx := hid (fun b => bls_set ((keptL T q n).set q (alls x fun x => T.ot q x == x)) q b)
          generalize (keptL T q n).set q (alls x fun x => T.ot q x == x) = bl at *
          have co := Own.cellAt yS.out.o0 q _ (bls_get hg1.out)
          have fo := Own.frozenAt yS.out.o0 hl1.out q
          have hst := hid (fun b => (show St go w [Asn.own go 4 (.slice (some ⟨go, 0, none⟩) n n) (bls (bl.set q b)), Asn.blk (go + 1) #[.slice (some ⟨go, 0, none⟩) n n] 103] (wr.drew.setCell ⟨go, q, none⟩ (.bool b)) from by have h := yS.out.drew.setOwn hl1.out q (.bool b) hqn; rw [hnx.out] at h; exact h))
          by_cases hyy : T.ot q x = x
          · have hye : (((T.ot q x : Nat) : Int) == (x : Int)) = true := by simp [hyy]
            have hye2 : (T.ot q x == x) = true := by simp [hyy]
            clear hyy
            generalize T.ot q x = y at *
            cases hal : (alls x fun x => T.ot q x == x) with
            | true =>
              rw [hal] at co hsc
              clear hal
              have hfin := hid (show (keptL T q n).set q (alls (x + 1) fun x => T.ot q x == x) = bl.set q true by rw [hsc.out, hye2, hss.out]; rfl)
              have fo2 : wr.drew.frozen? ⟨go, q, none⟩ = false := fo
              have co2 : wr.drew.cell? ⟨go, q, none⟩ = some (.bool true) := co
              replace hst := hid (hst.out true)
              go_upto_region 9 with (fail)
              refine wp_region_still_tail 12 (by kernel_rfl) (by kernel_rfl) ?_
              simp only [List.take_succ_cons, List.take_zero, List.drop_succ_cons, List.drop_zero]
              repeat still_step
              try refine wpStill_nil ?_
              change wpList _ _ _ _ _ wr.drew
              clear fo co cb ci yS
              generalize wr.drew = wd at *
              go_wp2
              go_roundw
              case rel => exact ⟨x + 1, by omega, by go_num, by rw [hfin.out]; exact hst.out⟩
              case measure => simp [intOf]; omega
            | false =>
              rw [hal] at co hsc
              clear hal
              have hfin := hid (show (keptL T q n).set q (alls (x + 1) fun x => T.ot q x == x) = bl.set q false by rw [hsc.out, hye2, hss.out]; rfl)
              have fo2 : wr.drew.frozen? ⟨go, q, none⟩ = false := fo
              have co2 : wr.drew.cell? ⟨go, q, none⟩ = some (.bool false) := co
              replace hst := hid (hst.out false)
              go_upto_region 9 with (fail)
              refine wp_region_still_tail 12 (by kernel_rfl) (by kernel_rfl) ?_
              simp only [List.take_succ_cons, List.take_zero, List.drop_succ_cons, List.drop_zero]
              repeat still_step
              try refine wpStill_nil ?_
              change wpList _ _ _ _ _ wr.drew
              clear fo co cb ci yS
              generalize wr.drew = wd at *
              go_wp2
              go_roundw
              case rel => exact ⟨x + 1, by omega, by go_num, by rw [hfin.out]; exact hst.out⟩
              case measure => simp [intOf]; omega
          · have hye : (((T.ot q x : Nat) : Int) == (x : Int)) = false := by simp; omega
            have hye2 : (T.ot q x == x) = false := by simp [hyy]
            clear hyy
            generalize T.ot q x = y at *
            cases hal : (alls x fun x => T.ot q x == x) with
            | true =>
              rw [hal] at co hsc
              clear hal
              have hfin := hid (show (keptL T q n).set q (alls (x + 1) fun x => T.ot q x == x) = bl.set q false by rw [hsc.out, hye2, hss.out]; rfl)
              have fo2 : wr.drew.frozen? ⟨go, q, none⟩ = false := fo
              have co2 : wr.drew.cell? ⟨go, q, none⟩ = some (.bool true) := co
              replace hst := hid (hst.out false)
              go_upto_region 9 with (fail)
              refine wp_region_still_tail 12 (by kernel_rfl) (by kernel_rfl) ?_
              simp only [List.take_succ_cons, List.take_zero, List.drop_succ_cons, List.drop_zero]
              repeat still_step
              try refine wpStill_nil ?_
              change wpList _ _ _ _ _ wr.drew
              clear fo co cb ci yS
              generalize wr.drew = wd at *
              go_wp2
              go_roundw
              case rel => exact ⟨x + 1, by omega, by go_num, by rw [hfin.out]; exact hst.out⟩
              case measure => simp [intOf]; omega
            | false =>
              rw [hal] at co hsc
              clear hal
              have hfin := hid (show (keptL T q n).set q (alls (x + 1) fun x => T.ot q x == x) = bl.set q false by rw [hsc.out, hye2, hss.out]; rfl)
              have fo2 : wr.drew.frozen? ⟨go, q, none⟩ = false := fo
              have co2 : wr.drew.cell? ⟨go, q, none⟩ = some (.bool false) := co
              replace hst := hid (hst.out false)
              go_upto_region 9 with (fail)
              refine wp_region_still_tail 12 (by kernel_rfl) (by kernel_rfl) ?_
              simp only [List.take_succ_cons, List.take_zero, List.drop_succ_cons, List.drop_zero]
              repeat still_step
              try refine wpStill_nil ?_
              change wpList _ _ _ _ _ wr.drew
              clear fo co cb ci yS
              generalize wr.drew = wd at *
              go_wp2
              go_roundw
              case rel => exact ⟨x + 1, by omega, by go_num, by rw [hfin.out]; exact hst.out⟩
              case measure => simp [intOf]; omega
        · obtain rfl : x = L := by omega
          have hk : (keptL T q n).set q (alls x fun x => T.ot q x == x) = keptL T (q + 1) n := by rw [← hks.out q n]; unfold Go.Proofs.Ythmcdfjijkecfaa.kept; rw [hLL.out]
          rw [hk] at yS
          clear hk
          go_wp2
          go_roundw
          case rel => exact ⟨q + 1, by omega, by go_num, yS.out.f1⟩
          case measure => simp [intOf]; omega
    · obtain rfl : q = n := by omega
      have hB0 : Hid (TvB T (keptL T q q)) := hkd
      obtain ⟨bl, hbl⟩ : ∃ bl, bl = keptL T q q := ⟨_, rfl⟩
      rw [← hbl] at hB0 rS
      clear hbl hkd hks hrowO hmk hmc hmcs
      have hcb := hid (show cntB bl + 1 ≤ q + 1 from by have h1 := cntB_le bl; have h2 := hB0.out.1; rw [hnn.out] at h2; omega)
      go_wp2
      go_loopg [8] (q + 1) (fun gk a wr => ∃ (bl : List Bool) (ab : Bool), a = .bool ab ∧ Hid (TvB T bl) ∧ Hid (ab = true → cntB bl + 1 ≤ gk) ∧ Hid (ab = false → TvC T bl q) ∧ St go w [Asn.blk (go + 1) #[.slice (some ⟨go, 0, none⟩) q q] 103, Asn.own go 4 (.slice (some ⟨go, 0, none⟩) q q) (bls bl)] wr)
      case atStart => exact ⟨bl, true, rfl, hB0, fun _ => hcb.out, fun h => (by cases h), rS.out⟩
      case round =>
        obtain ⟨bl, ab, rfl, hB, hc1, hc2, yS⟩ := hrel
        clear rS hB0 hcb
        replace yS := hid yS
        cases ab with
        | false =>
          have hfin := hid (hB.out.done (by have h := hc2.out rfl; rw [← hnn.out] at h; exact h))
          clear hc1 hc2
          have cb := cell_of_row _ _ 0 _ _ _ yS.out.k0
          go_wp2
          go_ret
          exact ⟨_, rfl, by rw [← hfin.out, hgoe.out]; exact yS.out.o1, by rw [hgoe.out]; exact yS.out.bel⟩
        | true =>
          clear hc2
          have e0 := (hread.out _ yS.out.bel).1
          go_wp2
          clear e0
          go_loopw [8, 57] (fun a i wr => ∃ (j : Nat) (b2 : List Bool) (a2 : Bool), j ≤ q ∧ i = .int .i64 j ∧ a = .bool a2 ∧ Hid (TvB T b2) ∧ Hid (cntB b2 ≤ cntB bl) ∧ Hid (a2 = true → cntB b2 + 1 ≤ cntB bl) ∧ Hid (a2 = false → TvC T b2 j) ∧ St go w [Asn.blk (go + 1) #[.slice (some ⟨go, 0, none⟩) q q] 103, Asn.own go 4 (.slice (some ⟨go, 0, none⟩) q q) (bls b2)] wr) (fun _ i _ => q - (intOf i).toNat)
          case atStart => exact ⟨0, bl, false, Nat.zero_le _, rfl, rfl, hB, Nat.le_refl _, (fun h => by cases h), (fun _ j hj => absurd hj (by omega)), yS.out⟩
          case round =>
            obtain ⟨j, b2, a2, hj, rfl, rfl, hB2, hle, hd1, hd2, zS⟩ := hrel
            clear yS
            replace zS := hid zS
            by_cases hjq : j < q
            · obtain ⟨g2, c2, hr2⟩ := hrowN.out j hjq
              have e1 := (hr2 _ zS.out.bel).1
              have cb := cell_of_row _ _ 0 _ _ _ zS.out.k0
              have hbl := hid (show (bls b2).length = q by rw [bls_length, hB2.out.1, hnn.out])
              obtain ⟨u, hu⟩ : ∃ u, b2[j]? = some u := ⟨_, List.getElem?_eq_getElem (by rw [hB2.out.1, hnn.out]; exact hjq)⟩
              have co := Own.cellAt zS.out.o1 j _ (bls_get hu)
              cases u with
              | false =>
                have hC := hid (fun h => TvC.more hT.out hB2.out.1 (by rw [hnn.out]; exact hjq) (hd2.out h) (fun k => by rw [hu] at k; cases k))
                clear hu
                go_wp2
                go_roundw
                case rel => exact ⟨j + 1, b2, a2, by omega, by go_num, rfl, hB2, hle, hd1, hC, zS.out⟩
                case measure => simp [intOf]; omega
              | true =>
                have hlo : (rwI T.nx j L).any (fun r => !(b2.getD r.toNat false)) = lost T b2 j := by rw [← hLL.out]; rfl
                have hcf := hid (containsFuncI_triv (go + 1) wr G (.slice (some ⟨g2, 0, none⟩) L c2) (rwI T.nx j L) (hr2 _ zS.out.bel).2 (by rw [rwI_length]; omega) (fun r => !(b2.getD r.toNat false)) (fun W' hW' x hx => by
                  obtain ⟨k, hk, rfl⟩ := List.mem_map.1 hx
                  have hkl := hlt.out j k hjq (List.mem_range.1 hk)
                  have zS' := zS.out.call hW'
                  have hg : b2[T.nx j k]? = some (b2.getD (T.nx j k) false) := by
                    have hl2 : T.nx j k < b2.length := by rw [hB2.out.1, hnn.out]; exact hkl
                    rw [List.getD_eq_getElem?_getD, List.getElem?_eq_getElem hl2]; rfl
                  refine (triv1_any (go + 1) go q q (T.nx j k) _ W' (cell_of_row _ _ 0 _ _ _ zS'.k0) hkl (Own.cellAt zS'.o1 _ _ (bls_get hg))).mono ?_
                  rintro e w' ⟨rfl, rfl⟩
                  exact ⟨rfl, Below.refl _ _⟩))
                rw [hlo] at hcf
                cases hl : lost T b2 j with
                | false =>
                  rw [hl] at hcf
                  have hC := hid (fun h => TvC.more hT.out hB2.out.1 (by rw [hnn.out]; exact hjq) (hd2.out h) (fun _ => hl))
                  clear hu hl hlo
                  go_wp2_with (first
                    | (go_at_call 149; (with_reducible refine (hcf.out).mono ?_); rintro e w2 ⟨rfl, hb⟩; replace zS := hid (zS.out.call hb); clear hb))
                  go_roundw
                  case rel => exact ⟨j + 1, b2, a2, by omega, by go_num, rfl, hB2, hle, hd1, hC, zS.out⟩
                  case measure => simp [intOf]; omega
                | true =>
                  rw [hl] at hcf
                  have hB3 := hid (TvB.strike hT.out hB2.out (by rw [hnn.out]; exact hjq) hl)
                  have hc3 := hid (show cntB (b2.set j false) + 1 ≤ cntB bl from by have h1 := cntB_set b2 j hu; have h2 := hle.out; omega)
                  clear hl hlo
                  go_upto_region 19 with (first
                    | (go_at_call 149; (with_reducible refine (hcf.out).mono ?_); rintro e w2 ⟨rfl, hb⟩; replace zS := hid (zS.out.call hb); clear hb))
                  clear cb co e1
                  have cb := cell_of_row _ _ 0 _ _ _ zS.out.k0
                  have co := Own.cellAt zS.out.o1 j _ (bls_get hu)
                  have fo := Own.frozenAt zS.out.o1 hbl.out j
                  clear hu
                  have zS2 := hid (zS.out.f1.setOwn hbl.out j (.bool false) hjq)
                  rw [bls_set] at zS2
                  go_wp2
                  go_roundw
                  case rel => exact ⟨j + 1, b2.set j false, true, by omega, by go_num, rfl, hB3, hid (by have := hc3.out; omega), fun _ => hc3.out, (fun h => by cases h), zS2.out.f1⟩
                  case measure => simp [intOf]; omega
            · obtain rfl : j = q := by omega
              have hc4 := hid (show (a2 = true → cntB b2 + 1 ≤ (if a2 = true then cntB b2 + 1 else 0)) ∧ (if a2 = true then cntB b2 + 1 else 0) < gk from by
                have h1 := hc1.out (by first | rfl | trivial)
                cases a2 with
                | true => have h2 := hd1.out rfl; simp; omega
                | false => simp; omega)
              clear hc1
              go_wp2
              go_roundg (if a2 = true then cntB b2 + 1 else 0)
              case measure => exact hc4.out.2
              case rel => exact ⟨b2, a2, rfl, hB2, hid hc4.out.1, hd2, zS.out⟩
end Go.Proofs.Ythmcdfjijkecfaa

/- The group of a machine, in its block. -/
namespace Go.Proofs.Ythmcdfjijkecfaa
open Go.RowKit
set_option linter.unusedVariables false
set_option linter.unusedSimpArgs false
-- @LONG

/-- The cells of a group: a machine, its inverse, the least equal states, the trivial ones. -/
def gcells (m k : Mach) (v1 v2 : Value) : Array Value := mcells m ++ mcells k ++ #[v1, v2]
theorem gcells_m {m k : Mach} {v1 v2 : Value} (i : Nat) (h : i < 98) : (gcells m k v1 v2)[i]? = some (mf m i) := by
  unfold gcells
  rw [Array.append_assoc, Array.getElem?_append_left (by rw [size_mcells]; exact h)]
  exact mcells_get m i h
theorem gcells_k {m k : Mach} {v1 v2 : Value} (i : Nat) (h : i < 98) : (gcells m k v1 v2)[98 + i]? = some (mf k i) := by
  unfold gcells
  rw [Array.append_assoc, Array.getElem?_append_right (by rw [size_mcells]; omega), size_mcells, Array.getElem?_append_left (by rw [size_mcells]; omega), show 98 + i - 98 = i by omega]
  exact mcells_get k i h
theorem gcells_1 {m k : Mach} {v1 v2 : Value} : (gcells m k v1 v2)[196]? = some v1 := by
  unfold gcells
  rw [Array.getElem?_append_right (by rw [Array.size_append, size_mcells, size_mcells]; omega), Array.size_append, size_mcells, size_mcells]
  rfl
theorem gcells_2 {m k : Mach} {v1 v2 : Value} : (gcells m k v1 v2)[197]? = some v2 := by
  unfold gcells
  rw [Array.getElem?_append_right (by rw [Array.size_append, size_mcells, size_mcells]; omega), Array.size_append, size_mcells, size_mcells]
  rfl
/-- A group in its block, with what it points to. -/
structure GrB (w : World) (G base : Nat) (m : Mach) (l s : Nat) (v1 v2 : Value) : Prop where
  blk : w.heap[G]? = some (.cells (gcells m (inv m l s) v1 v2) 213 (0, 0))
  of : Own w base 2 v1 (nats ((List.range s).map (fix (tabOf m l s))))
  tr : Own w base 4 v2 (bls (tvL (tabOf m l s)))
section
variable {w w' : World} {G base : Nat} {m : Mach} {l s : Nat} {v1 v2 : Value}
theorem GrB.lt (h : GrB w G base m l s v1 v2) : G < w.heap.size := (Array.getElem?_eq_some_iff.1 h.blk).1
theorem GrB.below (h : GrB w G base m l s v1 v2) (hb : Below w.heap.size w w') : GrB w' G base m l s v1 v2 := ⟨(hb.block G h.lt).trans h.blk, h.of.below hb, h.tr.below hb⟩
theorem GrB.drewN (h : GrB w G base m l s v1 v2) (n : Nat) : GrB (w.drewN n) G base m l s v1 v2 := ⟨h.blk, h.of.drewN n, h.tr.drewN n⟩
theorem GrB.cL (h : GrB w G base m l s v1 v2) : w.cell? ⟨G, 0, none⟩ = some (.int .i64 m.L) := (cell_of_row w G 0 _ _ _ h.blk).trans (gcells_m 0 (by omega))
theorem GrB.cnx (h : GrB w G base m l s v1 v2) (q x : Nat) (hq : q < 16) (hx : x < 3) : w.cell? ⟨G, 2 + q * 3 + x, none⟩ = some (.int .u8 (m.nx (q * 3 + x) : Nat)) := by
  rw [cell_of_row w G _ _ _ _ h.blk, gcells_m _ (by omega), mf_nx m q x hq hx]
theorem GrB.cot (h : GrB w G base m l s v1 v2) (q x : Nat) (hq : q < 16) (hx : x < 3) : w.cell? ⟨G, 50 + q * 3 + x, none⟩ = some (.int .u8 (m.ot (q * 3 + x) : Nat)) := by
  rw [cell_of_row w G _ _ _ _ h.blk, gcells_m _ (by omega), mf_ot m q x]
theorem GrB.bnx (h : GrB w G base m l s v1 v2) (q x : Nat) (hq : q < 16) (hx : x < 3) : w.cell? ⟨G, 98 + (2 + q * 3 + x), none⟩ = some (.int .u8 ((inv m l s).nx (q * 3 + x) : Nat)) := by
  rw [cell_of_row w G _ _ _ _ h.blk, gcells_k _ (by omega), mf_nx _ q x hq hx]
theorem GrB.bot (h : GrB w G base m l s v1 v2) (q x : Nat) (hq : q < 16) (hx : x < 3) : w.cell? ⟨G, 98 + (50 + q * 3 + x), none⟩ = some (.int .u8 ((inv m l s).ot (q * 3 + x) : Nat)) := by
  rw [cell_of_row w G _ _ _ _ h.blk, gcells_k _ (by omega), mf_ot _ q x]
theorem GrB.c1 (h : GrB w G base m l s v1 v2) : w.cell? ⟨G, 196, none⟩ = some v1 := (cell_of_row w G 196 _ _ _ h.blk).trans gcells_1
theorem GrB.c2 (h : GrB w G base m l s v1 v2) : w.cell? ⟨G, 197, none⟩ = some v2 := (cell_of_row w G 197 _ _ _ h.blk).trans gcells_2
end
set_option maxRecDepth 100000 in
theorem built_group (m k : Mach) (A1 A2 : Option Addr) (n1 c1 n2 c2 : Nat) : Try.prog.built 213 [(0, .agg (mcells m)), (1, .agg (mcells k)), (2, .slice A1 n1 c1), (3, .slice A2 n2 c2)] = some (gcells m k (.slice A1 n1 c1) (.slice A2 n2 c2)) := by kernel_rfl
theorem exec_build {a : Act} {o : Oper} {W : World} {t : TypeId} (parts : Array (Nat × Operand)) {cells : Array Value} (ho : o.op = .build t parts) (h : Try.prog.built t (parts.map fun (i, x) => (i, a.eval x)).toList = some cells) :
    (execOp a.eval o).run Try.prog W = .ok (.value (.agg cells)) W := by
  have h2 := run_build (P := Try.prog) W t _ cells h
  unfold execOp
  simp only [ho, Sem.run_bind, h2, Result.andThen_ok, Sem.run_pure]
theorem exec_group {a : Act} {o : Oper} {W : World} (x y z u : Operand) (ho : o.op = .build 213 #[(0, x), (1, y), (2, z), (3, u)]) (m k : Mach) (A1 A2 : Option Addr) (n1 c1 n2 c2 : Nat)
    (hx : a.eval x = .agg (mcells m)) (hy : a.eval y = .agg (mcells k)) (hz : a.eval z = .slice A1 n1 c1) (hu : a.eval u = .slice A2 n2 c2) :
    (execOp a.eval o).run Try.prog W = .ok (.value (.agg (gcells m k (.slice A1 n1 c1) (.slice A2 n2 c2)))) W := by
  have e : ((#[(0, x), (1, y), (2, z), (3, u)] : Array (Nat × Operand)).map fun (i, x) => (i, a.eval x)).toList = [(0, .agg (mcells m)), (1, .agg (mcells k)), (2, .slice A1 n1 c1), (3, .slice A2 n2 c2)] := by simp [hx, hy, hz, hu]
  exact exec_build _ ho (by rw [e]; exact built_group m k A1 A2 n1 c1 n2 c2)

set_option maxHeartbeats 4000000 in
set_option maxRecDepth 100000 in
theorem newGroup_any (w : World) (m : Mach) (hk : m.Ok) (l s : Nat) (g : Good m l s) :
    Calls Try.prog 240 #[.agg (mcells m)] w fun e w' => ∃ G v1 v2, e = .returned (.pointer (some ⟨G, 0, none⟩)) ∧ w.heap.size ≤ G ∧ GrB w' G w.heap.size m l s v1 v2 ∧ Below w.heap.size w w' := by
  have hS := hid ((St.start w).newMB m 27)
  have hta := hid (fun W hW => table_any w.heap.size W m hW l s g)
  have hiv := hid (fun W hW => inverse_any w.heap.size W m hW l s g hk)
  have hle := hid (fun W G vN vO hW => least_any W G vN vO (tabOf m l s) (tabOf_ok g) (by show l < 100; have := g.l3; omega) (by show 0 < l; have := g.l2; omega) (by show s < 100000; have := g.s16; omega) hW)
  have htr := hid (fun W G vN vO hW => trivial_any W G vN vO (tabOf m l s) (tabOf_ok g) g.l3 (by show 0 < l; have := g.l2; omega) (by show s < 100000; have := g.s16; omega) hW)
  have hgb := hid (fun W G v1 v2 base h1 h2 h3 => (GrB.mk h1 h2 h3 : GrB W G base m l s v1 v2))
  replace hk := hid hk; replace g := hid g
  go_enter Try.func240, Try.ntmps240
  go_upto_region 2 with (first
    | (go_at_call 108; (with_reducible refine (hta.out _ hS.out.m0).mono ?_); rintro e w1 ⟨vN, vO, rfl, hT, hb⟩; replace hS := hid (hS.out.call hb); replace hT := hid hT; clear hb))
  rw [heap_alloc_size] at hT
  generalize w.heap.size + 1 = G1 at *
  replace hS := hid hS.out.drew
  replace hT := hid (show TB w1.drew G1 vN vO (tabOf m l s) from hT.out.below (below_drewN (Below.refl _ _) 1))
  refine wp_region_heldL (L := [(7, (fun w' : World => MB w' 27 w.heap.size m))]) (by kernel_rfl) (HeldL.cons (fun _ => hS.out.m0) HeldL.nil) (fun hHeld => ?_)
  generalize w1.drew = wa at *
  refine wpAnyL_takeP (i := 0) 7 [6] (v := (.agg (mcells m))) (fun w' : World => MB w' 27 w.heap.size m) rfl (by kernel_rfl) (by kernel_rfl) (by kernel_rfl) (by rfl) (by kernel_rfl) (by simp) (fun _ _ _ h => h) (Or.inl ⟨by rfl, ?_⟩) (by assumption) ?_
  · (intro W hW; exact exec_load _ rfl rfl (load_run hW))
  intro hHeld'
  clear hHeld; have hHeld := hHeld'; clear hHeld'
  try simp only [Act.put, List.getElem_toArray, List.getElem_cons_succ, List.getElem_cons_zero, List.setIfInBounds_toArray, List.set_cons_zero, List.set_cons_succ]
  refine wpAnyL_take0 (i := 2) (v := ?_) rfl (by kernel_rfl) (by kernel_rfl) (by kernel_rfl) (by rfl) (fun _ _ _ h => h) (Or.inl ⟨by rfl, ?_⟩) (by assumption) ?_
  rotate_left
  · (intro W _; go_simp; (with_reducible rfl))
  intro hHeld'
  clear hHeld; have hHeld := hHeld'; clear hHeld'
  try simp only [Act.put, List.getElem_toArray, List.getElem_cons_succ, List.getElem_cons_zero, List.setIfInBounds_toArray, List.set_cons_zero, List.set_cons_succ]
  refine wpAnyL_take0 (i := 4) (v := ?_) rfl (by kernel_rfl) (by kernel_rfl) (by kernel_rfl) (by rfl) (fun _ _ _ h => h) (Or.inl ⟨by rfl, ?_⟩) (by assumption) ?_
  rotate_left
  · (intro W _; go_simp; (with_reducible rfl))
  intro hHeld'
  clear hHeld; have hHeld := hHeld'; clear hHeld'
  try simp only [Act.put, List.getElem_toArray, List.getElem_cons_succ, List.getElem_cons_zero, List.setIfInBounds_toArray, List.set_cons_zero, List.set_cons_succ]
  refine wpAnyL_ready (rs := [1]) (by kernel_rfl) (by simp) ?_
  refine AllReadyL.cons rfl (fun K hK => ?_) AllReadyL.nil
  go_simp
  (with_reducible refine (hiv.out _ hS.out.m0).mono ?_)
  rintro e w2 ⟨rfl, hb⟩
  replace hS := hid (hS.out.call hb)
  replace hT := hid (hT.out.below hb)
  clear hb
  go_simp
  refine hK.out _ _ (HeldL.cons (fun _ => hS.out.m0) HeldL.nil) (fun hHeld' => ?_)
  clear hK K hHeld; have hHeld := hHeld'; clear hHeld'
  try simp only [Act.put, List.getElem_toArray, List.getElem_cons_succ, List.getElem_cons_zero, List.setIfInBounds_toArray, List.set_cons_zero, List.set_cons_succ]
  refine wpAnyL_ready (rs := [3]) (by kernel_rfl) (by simp) ?_
  refine AllReadyL.cons rfl (fun K hK => ?_) AllReadyL.nil
  go_simp
  (with_reducible refine (hle.out _ _ _ _ hT.out).mono ?_)
  rintro e w3 ⟨v1, rfl, hO1, hb⟩
  replace hS := hid (hS.out.callOwn hb hO1)
  replace hT := hid (hT.out.below hb)
  clear hb hO1
  go_simp
  refine hK.out _ _ (HeldL.cons (fun _ => hS.out.m1) HeldL.nil) (fun hHeld' => ?_)
  clear hK K hHeld; have hHeld := hHeld'; clear hHeld'
  try simp only [Act.put, List.getElem_toArray, List.getElem_cons_succ, List.getElem_cons_zero, List.setIfInBounds_toArray, List.set_cons_zero, List.set_cons_succ]
  refine wpAnyL_ready (rs := [5]) (by kernel_rfl) (by simp) ?_
  refine AllReadyL.cons rfl (fun K hK => ?_) AllReadyL.nil
  go_simp
  (with_reducible refine (htr.out _ _ _ _ hT.out).mono ?_)
  rintro e w4 ⟨v2, rfl, hO2, hb⟩
  replace hS := hid (hS.out.callOwn hb hO2)
  clear hb hO2 hT
  obtain ⟨A1, c1, rfl, _, _⟩ := hS.out.o1.form
  obtain ⟨A2, c2, rfl, _, _⟩ := hS.out.o0.form
  go_simp
  refine hK.out _ _ (HeldL.cons (fun _ => hS.out.m2) HeldL.nil) (fun hHeld' => ?_)
  clear hK K hHeld; have hHeld := hHeld'; clear hHeld'
  try simp only [Act.put, List.getElem_toArray, List.getElem_cons_succ, List.getElem_cons_zero, List.setIfInBounds_toArray, List.set_cons_zero, List.set_cons_succ]
  refine wpAnyL_take0 (i := 6) (v := (.agg (gcells m (inv m l s) (.slice A1 (nats (List.map (fix (tabOf m l s)) (List.range (tabOf m l s).n))).length c1) (.slice A2 (bls (tvL (tabOf m l s))).length c2)))) rfl (by kernel_rfl) (by kernel_rfl) (by kernel_rfl) (by rfl) (fun _ _ _ h => h) (Or.inl ⟨by rfl, ?_⟩) (by assumption) ?_
  · (intro W _; exact exec_group _ _ _ _ rfl m (inv m l s) _ _ _ _ _ _ rfl rfl rfl rfl)
  intro hHeld'
  clear hHeld; have hHeld := hHeld'; clear hHeld'
  try simp only [Act.put, List.getElem_toArray, List.getElem_cons_succ, List.getElem_cons_zero, List.setIfInBounds_toArray, List.set_cons_zero, List.set_cons_succ]
  refine wpAnyL_ready (rs := [7]) (by kernel_rfl) (by simp) ?_
  refine AllReadyL.cons rfl (fun K hK => ?_) AllReadyL.nil
  go_simp
  have hge := hid hS.out.le
  replace hS := hid (hS.out.newBlk (gcells m (inv m l s) (.slice A1 (nats (List.map (fix (tabOf m l s)) (List.range (tabOf m l s).n))).length c1) (.slice A2 (bls (tvL (tabOf m l s))).length c2)) 213)
  generalize w4.heap.size = G at *
  refine hK.out _ _ (HeldL.cons (fun h => absurd h (by decide +kernel)) HeldL.nil) (fun hHeld' => ?_)
  clear hK K hHeld; have hHeld := hHeld'; clear hHeld'
  try simp only [Act.put, List.getElem_toArray, List.getElem_cons_succ, List.getElem_cons_zero, List.setIfInBounds_toArray, List.set_cons_zero, List.set_cons_succ]
  refine wpAnyL_take0 (i := 8) (v := ?_) rfl (by kernel_rfl) (by kernel_rfl) (by kernel_rfl) (by rfl) (fun _ _ _ h => h) (Or.inl ⟨by rfl, ?_⟩) (by assumption) ?_
  rotate_left
  · (intro W _; go_simp; (with_reducible rfl))
  intro hHeld'
  clear hHeld; have hHeld := hHeld'; clear hHeld'
  try simp only [Act.put, List.getElem_toArray, List.getElem_cons_succ, List.getElem_cons_zero, List.setIfInBounds_toArray, List.set_cons_zero, List.set_cons_succ]
  refine wpAnyL_done (by kernel_rfl) ?_ _
  have hfin := hid (hgb.out _ _ _ _ _ hS.out.k0 hS.out.o2 hS.out.o1)
  go_wp2
  go_ret
  exact ⟨G, _, _, rfl, hge.out, hfin.out, hS.out.bel⟩
end Go.Proofs.Ythmcdfjijkecfaa
