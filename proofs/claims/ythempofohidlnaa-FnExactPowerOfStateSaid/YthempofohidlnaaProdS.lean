/- The product of two states: the reference's side. -/
import Derived.Test.YthempofohidlnaaProd
import Derived.Test.YthempofohidlnaaMos
namespace Go.Proofs.Ythempofohidlnaa
open Go.RowKit
set_option linter.unusedVariables false
set_option linter.unusedSimpArgs false

/-- A row of bytes that is filled. -/
def fil3b (f : Nat → Nat → Nat) (q x : Nat) : Array Value := #[.int .u8 ((if 0 < x then f q 0 else 0 : Nat) : Int), .int .u8 ((if 1 < x then f q 1 else 0 : Nat) : Int), .int .u8 ((if 2 < x then f q 2 else 0 : Nat) : Int)]
theorem fil3b_set (f : Nat → Nat → Nat) (q x : Nat) (hx : x < 3) : (fil3b f q x).setIfInBounds x (.int .u8 (f q x : Nat)) = fil3b f q (x + 1) := by
  have : x = 0 ∨ x = 1 ∨ x = 2 := by omega
  rcases this with rfl | rfl | rfl <;> simp [fil3b, Array.setIfInBounds]
theorem fil3b_all (f : Nat → Nat → Nat) (q L : Nat) : fil3b f q L = (rc1 .u8 f L q).toArray := rfl
theorem fil3b_get (f : Nat → Nat → Nat) (q x j : Nat) (hj : j < 3) : ∃ u, (fil3b f q x)[j]? = some u := ⟨_, Array.getElem?_eq_getElem (by simpa [fil3b] using hj)⟩

set_option maxHeartbeats 8000000 in
set_option maxRecDepth 100000 in
theorem l07Product_any (w : World) (m k : Mach) (l s s' : Nat) (g : Good m l s) (g' : Good k l s') (q r : Nat) (hq : q < s) (hr : r < s') :
    Calls Try.prog 69 #[.agg (mcells m), .int .i64 q, .agg (mcells k), .int .i64 r] w fun e w' => e = .returned (.tuple #[.agg (mcells (fromM (prodT m k l s s') (q * s' + r))), .bool (fromB (prodT m k l s s') (q * s' + r))]) ∧ Below w.heap.size w w' := by
  have hz := zero_mach
  have gL := hid g.L
  have gS := hid g.S
  have gS' := hid g'.S
  have l2 := g.l2
  have l3 := g.l3
  have s16 := g.s16
  have s16' := g'.s16
  have hlt := hid (fun a b x (ha : a < s) (hb : b < s') (hx : x < l) => (show m.nx (a * 3 + x) < 16 ∧ m.ot (a * 3 + x) < 3 ∧ k.nx (b * 3 + m.ot (a * 3 + x)) < 16 ∧ k.ot (b * 3 + m.ot (a * 3 + x)) < 3 from by
    have h1 := g.nx a x ha hx; have h2 := g.ot a x ha hx; have h3 := g'.nx b _ hb h2; have h4 := g'.ot b _ hb h2
    exact ⟨by omega, by omega, by omega, by omega⟩))
  have hTn := hid (show (prodT m k l s s').n = s * s' from rfl)
  have hTL := hid (show (prodT m k l s s').L = l from rfl)
  have hst := hid (fun W vN vO hW => l07Start_any W w.heap.size (q * s' + r) vN vO (prodT m k l s s') (prod_ok g g') g.l3 (by show 0 < l; omega) (Nat.lt_of_le_of_lt (prod_n g g') (by omega)) (prod_o256 g g') hW (prod_in hq hr))
  rw [hTL.out] at hst
  have eN := hid (fun a b P x => prod_nx (a := a) (b := b) (P := P) (s' := s') m k l s x)
  have eO := hid (fun a b P x => prod_ot (a := a) (b := b) (P := P) (s' := s') m k l s x)
  have hN := hid (fun L W (h : St w.heap.size w L W) => h.newMB ⟨0, 0, fun _ => 0, fun _ => 0⟩ 34)
  have hS := hid ((((((St.start w).newMB m 34).newMB k 34).newMB ⟨0, 0, fun _ => 0, fun _ => 0⟩ 34).newBlk #[.int .i64 (l : Int), .slice none 0 0, .slice none 0 0] 137).nilN 29 3)
  replace hS := hid (hS.out.nilN 138 3)
  simp only [heap_alloc_size] at hS
  have cL := hid (((MB.new w m 34).alloc (.cells (mcells k) 34)).alloc (.cells (mcells ⟨0, 0, fun _ => 0, fun _ => 0⟩) 34))
  have cL2 := cL.out.cL
  rw [gL.out] at cL2
  clear cL
  have hqs := hid hq; have hrs := hid hr
  obtain ⟨V0, hV0⟩ : ∃ V, V = q * s' := ⟨_, rfl⟩
  have hVb0 : V0 ≤ 256 := by rw [hV0]; exact Nat.mul_le_mul (Nat.le_trans (Nat.le_of_lt hq) s16) s16'
  have hu1 : IntKind.i64.wrap ((q : Int) * (s' : Int)) = (V0 : Int) := by rw [show (q : Int) * (s' : Int) = (V0 : Int) by rw [hV0]; exact (Int.natCast_mul _ _).symm]; exact IntWalk.i64_in _ (by omega)
  rw [← hV0] at hst ⊢
  replace hV0 := hid hV0
  clear g g' hq hr
  generalize fromB (prodT m k l s s') (V0 + r) = fb at *
  generalize fromM (prodT m k l s s') (V0 + r) = fm at *
  generalize hgT : prodT m k l s s' = T at *
  clear hgT
  generalize mcells ⟨0, 0, fun _ => 0, fun _ => 0⟩ = zs at *
  generalize hmc : mcells m = mc at *
  generalize hkc : mcells k = kc at *
  replace hu1 := hid hu1
  go_enter Try.func69, Try.ntmps69
  go_wp2
  clear cL2
  go_loopw [11] (fun i wr => ∃ a P : Nat, a ≤ s ∧ Hid (P = a * s') ∧ i = .int .i64 a ∧ ∃ vN vO, St w.heap.size w [Asn.ownN w.heap.size 138 3 vN P (rcs .i64 T.nx l P), Asn.ownN w.heap.size 29 3 vO P (rcs .u8 T.ot l P), Asn.blk (w.heap.size + 1 + 1 + 1) #[.int .i64 (l : Int), vN, vO] 137, Asn.mb 34 (w.heap.size + 1 + 1) ⟨0, 0, fun _ => 0, fun _ => 0⟩, Asn.mb 34 (w.heap.size + 1) k, Asn.mb 34 w.heap.size m] wr) (fun i _ => s - (intOf i).toNat)
  case atStart => exact ⟨0, 0, Nat.zero_le _, hid (Nat.zero_mul _).symm, rfl, _, _, hS.out⟩
  case round =>
    obtain ⟨a, P, ha, hP, rfl, vN, vO, rS⟩ := hrel
    clear hS
    have cS := rS.m5.cS
    rw [gS.out] at cS
    replace rS := hid rS
    by_cases has : a < s
    · have dq : decide ((a : Int) < (s : Int)) = true := decide_eq_true (by omega)
      go_wp2
      clear cS
      go_loopw [12] (fun i wr => ∃ b : Nat, b ≤ s' ∧ i = .int .i64 b ∧ ∃ vN vO, St w.heap.size w [Asn.ownN w.heap.size 138 3 vN (P + b) (rcs .i64 T.nx l (P + b)), Asn.ownN w.heap.size 29 3 vO (P + b) (rcs .u8 T.ot l (P + b)), Asn.blk (w.heap.size + 1 + 1 + 1) #[.int .i64 (l : Int), vN, vO] 137, Asn.mb 34 (w.heap.size + 1 + 1) ⟨0, 0, fun _ => 0, fun _ => 0⟩, Asn.mb 34 (w.heap.size + 1) k, Asn.mb 34 w.heap.size m] wr) (fun i _ => s' - (intOf i).toNat)
      case atStart => exact ⟨0, Nat.zero_le _, rfl, _, _, rS.out⟩
      case round =>
        obtain ⟨b, hb, rfl, vN, vO, tS⟩ := hrel
        clear rS
        have cS := tS.m4.cS
        rw [gS'.out] at cS
        replace tS := hid tS
        by_cases hbs : b < s'
        · have db : decide ((b : Int) < (s' : Int)) = true := decide_eq_true (by omega)
          have hbn2 : w.heap.size ≤ wr.heap.size := tS.out.le
          go_wp2
          have yS := hid (show St w.heap.size w (Asn.blk wr.heap.size (fil3 T.nx (P + b) 0) 138 :: Asn.blk (wr.heap.size + 1) (fil3b T.ot (P + b) 0) 29 :: _) _ from (by have h := ((tS.out.newBlk #[.int .i64 0, .int .i64 0, .int .i64 0] 138).newBlk #[.int .u8 0, .int .u8 0, .int .u8 0] 29).f1; rw [heap_alloc_size] at h; exact h))
          clear tS cS
          generalize (wr.alloc (.cells #[.int .i64 0, .int .i64 0, .int .i64 0] 138)).alloc (.cells #[.int .u8 0, .int .u8 0, .int .u8 0] 29) = wa at *
          generalize wr.heap.size = bn at *
          go_loopw [15] (fun i wr => ∃ x : Nat, x ≤ l ∧ i = .int .i64 x ∧ St w.heap.size w [Asn.blk bn (fil3 T.nx (P + b) x) 138, Asn.blk (bn + 1) (fil3b T.ot (P + b) x) 29, Asn.ownN w.heap.size 138 3 vN (P + b) (rcs .i64 T.nx l (P + b)), Asn.ownN w.heap.size 29 3 vO (P + b) (rcs .u8 T.ot l (P + b)), Asn.blk (w.heap.size + 1 + 1 + 1) #[.int .i64 (l : Int), vN, vO] 137, Asn.mb 34 (w.heap.size + 1 + 1) ⟨0, 0, fun _ => 0, fun _ => 0⟩, Asn.mb 34 (w.heap.size + 1) k, Asn.mb 34 w.heap.size m] wr) (fun i _ => l - (intOf i).toNat)
          case atStart => exact ⟨0, Nat.zero_le _, rfl, yS.out⟩
          case round =>
            obtain ⟨x, hx, rfl, zS⟩ := hrel
            clear yS
            replace zS := hid zS
            have mM := hid (show MB wr 34 w.heap.size m from zS.out.drop.g6)
            have mK := hid (show MB wr 34 (w.heap.size + 1) k from zS.out.drop.g5)
            have cL := mM.out.cL
            rw [gL.out] at cL
            by_cases hxl : x < l
            · have dx : decide ((x : Int) < (l : Int)) = true := decide_eq_true (by omega)
              obtain ⟨t1, t2, t3, t4⟩ := hlt.out a b x has hbs hxl
              have c1 := mM.out.cnx a x (by omega) (by omega)
              have c2 := mM.out.cot a x (by omega) (by omega)
              have c3 := mK.out.cnx b (m.ot (a * 3 + x)) (by omega) (by omega)
              have c4 := mK.out.cot b (m.ot (a * 3 + x)) (by omega) (by omega)
              have cS := mK.out.cS
              rw [gS'.out] at cS
              have eF := eN.out a b P x hbs hP.out
              have eG := eO.out a b P x hbs hP.out
              obtain ⟨V, hV⟩ : ∃ V, V = m.nx (a * 3 + x) * s' := ⟨_, rfl⟩
              have hVb : V ≤ 256 := by rw [hV]; exact Nat.mul_le_mul (Nat.le_of_lt t1) s16'
              have hw1 : IntKind.i64.wrap ((m.nx (a * 3 + x) : Int) * (s' : Int)) = (V : Int) := by rw [show (m.nx (a * 3 + x) : Int) * (s' : Int) = (V : Int) by rw [hV]; exact (Int.natCast_mul _ _).symm]; exact IntWalk.i64_in _ (by omega)
              rw [← hV] at eF
              clear hV
              have hy3 : m.ot (a * 3 + x) < 3 := t2
              have hmk := hid (fun W (hW : MB W 34 (w.heap.size + 1) k) => hW.cot b (m.ot (a * 3 + x)) (by omega) (by omega))
              have hset1 := hid (fil3_set T.nx (P + b) x (by omega))
              have hset2 := hid (fil3b_set T.ot (P + b) x (by omega))
              rw [eF] at hset1
              rw [eG] at hset2
              clear c4
              clear eF eG
              generalize k.ot (b * 3 + m.ot (a * 3 + x)) = o2 at *
              generalize k.nx (b * 3 + m.ot (a * 3 + x)) = v2 at *
              generalize m.ot (a * 3 + x) = y at *
              generalize m.nx (a * 3 + x) = v1 at *
              have hw2 : IntKind.i64.wrap ((V : Int) + (v2 : Int)) = ((V + v2 : Nat) : Int) := by rw [show (V : Int) + (v2 : Int) = ((V + v2 : Nat) : Int) by omega]; exact IntWalk.i64_in _ (by omega)
              have hw3 := hid (show wrap64 ((v1 : Int) * (s' : Int)) = (V : Int) by rw [← IntWalk.i64_left]; exact hw1)
              have hw4 := hid (show (V : Int) + (v2 : Int) = ((V + v2 : Nat) : Int) by omega)
              generalize V + v2 = F at *
              have x3 : (x : Int) < 3 := by omega
              have x0 : (0 : Int) ≤ (x : Int) := Int.natCast_nonneg _
              have a0 : (0 : Int) ≤ (a : Int) := Int.natCast_nonneg _
              have a1 : (a : Int) < 16 := by omega
              have b0 : (0 : Int) ≤ (b : Int) := Int.natCast_nonneg _
              have b1 : (b : Int) < 16 := by omega
              have y0 : (0 : Int) ≤ (y : Int) := Int.natCast_nonneg _
              have y1 : (y : Int) < 3 := by omega
              go_upto_region 13 with (fail)
              refine wp_region_still_tail 19 (by kernel_rfl) (by kernel_rfl) ?_
              simp only [List.take_succ_cons, List.take_zero, List.drop_succ_cons, List.drop_zero]
              repeat still_step
              try refine wpStill_nil ?_
              change wpList _ _ _ _ _ wr.drew
              replace zS := hid zS.out.drew
              clear c1 c2 c3 cS cL mM mK
              generalize wr.drew = wc at *
              obtain ⟨u1, hu1'⟩ := fil3_get T.nx (P + b) x x (by omega)
              have co : wc.cell? ⟨bn, x, none⟩ = some u1 := (cell_of_row _ _ x _ _ _ zS.out.k0).trans hu1'
              have fo := frozen_of_row _ _ x _ _ zS.out.k0
              clear hu1'
              go_upto_region 14 with (fail)
              rw [hw3.out, hw4.out]
              replace zS := hid (zS.out.setBlk hbn2 x (.int .i64 (F : Int)))
              rw [hset1.out] at zS
              clear co fo
              generalize wc.setCell ⟨bn, x, none⟩ (.int .i64 (F : Int)) = we at *
              have c4 := hmk.out we zS.out.drop.g5
              obtain ⟨u2, hu2'⟩ := fil3b_get T.ot (P + b) x x (by omega)
              have co : we.cell? ⟨bn + 1, x, none⟩ = some u2 := (cell_of_row _ _ x _ _ _ zS.out.k1).trans hu2'
              have fo := frozen_of_row _ _ x _ _ zS.out.k1
              clear hu2'
              have zS2 := hid (zS.out.f1.setBlk (Nat.le_succ_of_le hbn2) x (.int .u8 (o2 : Int)))
              rw [hset2.out] at zS2
              go_wp2
              go_roundw
              case rel => exact ⟨x + 1, by omega, by go_num, zS2.out.f1⟩
              case measure => simp [intOf]; omega
            · obtain rfl : l = x := by omega
              rw [fil3_all, fil3b_all] at zS
              have cb1 : wr.cell? ⟨w.heap.size + 1 + 1 + 1, 1, none⟩ = some vN := cell_of_row _ _ 1 _ _ _ zS.out.k4
              have rg := hid (show wr.rangeAt bn 0 (rc1 .i64 T.nx l (P + b)) from fun j u hu => by rw [Nat.zero_add, cell_of_row _ _ j _ _ _ zS.out.k0]; simpa using hu)
              have hl1 := hid (show (rc1 .i64 T.nx l (P + b)).length = 3 by simp [rc1])
              have hl2 := hid (show (rc1 .u8 T.ot l (P + b)).length = 3 by simp [rc1])
              have ho1 := hid (rc1_one .i64 T.nx l (P + b))
              have ho2 := hid (rc1_one .u8 T.ot l (P + b))
              have hs1 := hid (show rcs .i64 T.nx l (P + (b + 1)) = _ from rcs_snoc .i64 T.nx l (P + b))
              have hs2 := hid (show rcs .u8 T.ot l (P + (b + 1)) = _ from rcs_snoc .u8 T.ot l (P + b))
              have hPb : P + b ≤ 256 := by have h1 := prod_in has hbs; have h2 : s * s' ≤ 256 := Nat.mul_le_mul s16 s16'; rw [hP.out]; omega
              obtain ⟨a0, a1, a2, hr1⟩ := rc1_lit .i64 T.nx l (P + b)
              obtain ⟨b0, b1, b2, hr2⟩ := rc1_lit .u8 T.ot l (P + b)
              rw [hr1] at hl1 ho1 hs1 rg zS
              rw [hr2] at hl2 ho2 hs2 zS
              replace hr1 := hid hr1; replace hr2 := hid hr2
              go_upto_region 16 with (first
                | ((with_reducible refine gate (N := 78) rfl ?_); refine wpList_load_mid rfl 138 _ rfl bn 0 rfl _ _ rg.out Try.underlying138 rfl (by rw [hl1.out]; exact sz_r3) ?_)
                | ((with_reducible refine gate (N := 80) rfl ?_); refine St.appNw 134 138 _ 3 24 Try.underlying134 info_r3 rfl (by omega) (by omega) rfl _ _ rfl vN (P + b) _ rfl zS.out.f2 [.int .i64 (a0 : Int), .int .i64 (a1 : Int), .int .i64 (a2 : Int)] hl1.out ho1.out rfl (by omega) ?_; intro gn cn w4 zS'; replace zS := hid zS'.f1.drop.f3; clear zS' cb1 rg; have cb2 := cell_of_row _ _ 1 _ _ _ zS.out.k0; have f2 := frozen_of_row _ _ 1 _ _ zS.out.k0))
              clear cb2 f2
              replace zS := hid (show St w.heap.size w (Asn.blk (w.heap.size + 1 + 1 + 1) #[.int .i64 (l : Int), .slice (some ⟨gn, 0, none⟩) (P + b + 1) cn, vO] 137 :: _) _ from zS.out.setBlk (by omega) 1 (.slice (some ⟨gn, 0, none⟩) (P + b + 1) cn))
              rw [← hs1.out] at zS
              generalize w4.setCell ⟨w.heap.size + 1 + 1 + 1, 1, none⟩ (.slice (some ⟨gn, 0, none⟩) (P + b + 1) cn) = w5 at *
              have cb1 : w5.cell? ⟨w.heap.size + 1 + 1 + 1, 2, none⟩ = some vO := cell_of_row _ _ 2 _ _ _ zS.out.k0
              have rg := hid (show w5.rangeAt (bn + 1) 0 [.int .u8 (b0 : Int), .int .u8 (b1 : Int), .int .u8 (b2 : Int)] from fun j u hu => by rw [Nat.zero_add, cell_of_row _ _ j _ _ _ zS.out.k2]; simpa using hu)
              go_wp2_with (first
                | ((with_reducible refine gate (N := 84) rfl ?_); refine wpList_load_mid rfl 29 _ rfl (bn + 1) 0 rfl _ _ rg.out Try.underlying29 rfl (by rw [hl2.out]; exact sz_b3) ?_)
                | ((with_reducible refine gate (N := 86) rfl ?_); refine St.appNw 135 29 _ 3 3 Try.underlying135 info_b3 rfl (by omega) (by omega) rfl _ _ rfl vO (P + b) _ rfl zS.out.f3 [.int .u8 (b0 : Int), .int .u8 (b1 : Int), .int .u8 (b2 : Int)] hl2.out ho2.out rfl (by omega) ?_; intro go co w6 zS'; replace zS := hid zS'.f1; clear zS' cb1 rg; have cb2 := cell_of_row _ _ 2 _ _ _ zS.out.k0; have f2 := frozen_of_row _ _ 2 _ _ zS.out.k0))
              clear cb2 f2
              replace zS := hid (show St w.heap.size w (Asn.blk (w.heap.size + 1 + 1 + 1) #[.int .i64 (l : Int), .slice (some ⟨gn, 0, none⟩) (P + b + 1) cn, .slice (some ⟨go, 0, none⟩) (P + b + 1) co] 137 :: _) _ from zS.out.setBlk (by omega) 2 (.slice (some ⟨go, 0, none⟩) (P + b + 1) co))
              rw [← hs2.out] at zS
              go_roundw
              case rel => exact ⟨b + 1, by omega, by go_num, _, _, zS.out.f3.drop.f2.s1⟩
              case measure => simp [intOf]; omega
        · obtain rfl : s' = b := by omega
          have hP' := hid (show P + s' = (a + 1) * s' by rw [hP.out]; exact (Nat.succ_mul a s').symm)
          go_wp2
          go_roundw
          case rel => exact ⟨a + 1, P + s', by omega, hP', by go_num, _, _, tS.out⟩
          case measure => simp [intOf]; omega
    · obtain rfl : s = a := by omega
      have hlg := hid (show LG wr w.heap.size vN vO T from ⟨by have h := rS.out.n0; rw [hP.out] at h; rw [hTn.out, hTL.out]; exact h, by have h := rS.out.n1; rw [hP.out] at h; rw [hTn.out, hTL.out]; exact h⟩)
      have rg := hid (show wr.rangeAt (w.heap.size + 1 + 1 + 1) 0 [.int .i64 (l : Int), vN, vO] from fun j u hu => by rw [Nat.zero_add, cell_of_row _ _ j _ _ _ rS.out.k2]; simpa using hu)
      have cK := rS.out.m4.cS
      rw [gS'.out] at cK
      have hU1 : IntKind.i64.wrap ((q : Int) * (s' : Int)) = (V0 : Int) := hu1.out
      have hr16 : r < 16 := by have := hrs.out; omega
      have hU2 : IntKind.i64.wrap ((V0 : Int) + (r : Int)) = ((V0 + r : Nat) : Int) := by rw [show (V0 : Int) + (r : Int) = ((V0 + r : Nat) : Int) by omega]; exact IntWalk.i64_in _ (by omega)
      generalize V0 + r = n0 at *
      go_wp2_with (first
        | ((with_reducible refine gate (N := 89) rfl ?_); refine wpList_load_mid rfl 137 _ rfl (w.heap.size + 1 + 1 + 1) 0 rfl [.int .i64 (l : Int), vN, vO] _ rg.out Try.underlying137 rfl sz_large ?_)
        | (go_at_call 125; (with_reducible refine (hst.out _ _ _ hlg.out).mono ?_); rintro e w2 ⟨rfl, hb⟩; have hle2 := hid (rS.out.call hb).le; replace rS := hid (hN.out _ _ (rS.out.call hb)); clear hb hlg hst rg cK)
        | ((with_reducible refine gateOp (op := .store 34 (.tmp 17) (.tmp 97)) rfl ?_); refine store_mach rfl _ _ rfl w2.heap.size rfl fm rfl 34 _ rS.out.m0 ?_; intro W1 p3 ho hsz hbl; replace rS := hid (rS.out.setM hle2.out p3 ho hbl); clear p3 ho hsz hbl)
        | ((with_reducible refine gate (N := 99) rfl ?_); refine load_mach rfl _ rfl w2.heap.size rfl fm rS.out.m0 ?_)
        | ((with_reducible refine gateOp (op := .store 34 (.tmp 8) (.tmp 99)) rfl ?_); refine store_mach rfl _ _ rfl (w.heap.size + 1 + 1) rfl fm rfl 34 _ rS.out.m4 ?_; intro W3 p2 ho hsz hbl; have pB := hid (hbl _ _ (by omega) rS.out.bel); replace p2 := hid p2; clear ho hsz hbl))
      exact ret_mach_v rfl rfl rfl p2.out rfl ⟨rfl, pB.out⟩
end Go.Proofs.Ythempofohidlnaa
