/- What the proof of PortraitOf leans on, part 11 of 12. -/
import Derived.Test.YthempofohidlnaaZPortraitOfJ
import Derived.Laws.CopyOwn
import Derived.Laws.MakeOwn
/- The product of two states: the reference's side. -/
namespace Go.Proofs.Ythempofohidlnaa
open Go.RowKit
set_option linter.unusedVariables false
set_option linter.unusedSimpArgs false

/-- A row of bytes that is filled. -/
def fil3b (f : Nat → Nat → Nat) (q x : Nat) : Array Value := #[.int .u8 ((if 0 < x then f q 0 else 0 : Nat) : Int), .int .u8 ((if 1 < x then f q 1 else 0 : Nat) : Int), .int .u8 ((if 2 < x then f q 2 else 0 : Nat) : Int)]
theorem fil3b_set (f : Nat → Nat → Nat) (q x : Nat) (hx : x < 3) : (fil3b f q x).setIfInBounds x (.int .u8 (f q x : Nat)) = fil3b f q (x + 1) := by
  have : x = 0 ∨ x = 1 ∨ x = 2 := by omega
  rcases this with rfl | rfl | rfl <;> simp [fil3b, Array.setIfInBounds]
theorem fil3b_all (f : Nat → Nat → Nat) (q L : Nat) : fil3b f q L = (rc1 .u8 f L q).toArray := rfl
theorem fil3b_get (f : Nat → Nat → Nat) (q x j : Nat) (hj : j < 3) : ∃ u, (fil3b f q x)[j]? = some u := ⟨_, Array.getElem?_eq_getElem (by simpa [fil3b] using hj)⟩

set_option maxHeartbeats 8000000 in
set_option maxRecDepth 100000 in
theorem l07Product_any (w : World) (m k : Mach) (l s s' : Nat) (g : Good m l s) (g' : Good k l s') (q r : Nat) (hq : q < s) (hr : r < s') :
    Calls Try.prog 69 #[.agg (mcells m), .int .i64 q, .agg (mcells k), .int .i64 r] w fun e w' => e = .returned (.tuple #[.agg (mcells (fromM (prodT m k l s s') (q * s' + r))), .bool (fromB (prodT m k l s s') (q * s' + r))]) ∧ Below w.heap.size w w' := by
  have hz := zero_mach
  have gL := hid g.L
  have gS := hid g.S
  have gS' := hid g'.S
  have l2 := g.l2
  have l3 := g.l3
  have s16 := g.s16
  have s16' := g'.s16
  have hlt := hid (fun a b x (ha : a < s) (hb : b < s') (hx : x < l) => (show m.nx (a * 3 + x) < 16 ∧ m.ot (a * 3 + x) < 3 ∧ k.nx (b * 3 + m.ot (a * 3 + x)) < 16 ∧ k.ot (b * 3 + m.ot (a * 3 + x)) < 3 from by
    have h1 := g.nx a x ha hx; have h2 := g.ot a x ha hx; have h3 := g'.nx b _ hb h2; have h4 := g'.ot b _ hb h2
    exact ⟨by omega, by omega, by omega, by omega⟩))
  have hTn := hid (show (prodT m k l s s').n = s * s' from rfl)
  have hTL := hid (show (prodT m k l s s').L = l from rfl)
  have hst := hid (fun W vN vO hW => l07Start_any W w.heap.size (q * s' + r) vN vO (prodT m k l s s') (prod_ok g g') g.l3 (by show 0 < l; omega) (Nat.lt_of_le_of_lt (prod_n g g') (by omega)) (prod_o256 g g') hW (prod_in hq hr))
  rw [hTL.out] at hst
  have eN := hid (fun a b P x => prod_nx (a := a) (b := b) (P := P) (s' := s') m k l s x)
  have eO := hid (fun a b P x => prod_ot (a := a) (b := b) (P := P) (s' := s') m k l s x)
  have hN := hid (fun L W (h : St w.heap.size w L W) => h.newMB ⟨0, 0, fun _ => 0, fun _ => 0⟩ 34)
  have hS := hid ((((((St.start w).newMB m 34).newMB k 34).newMB ⟨0, 0, fun _ => 0, fun _ => 0⟩ 34).newBlk #[.int .i64 (l : Int), .slice none 0 0, .slice none 0 0] 137).nilN 29 3)
  replace hS := hid (hS.out.nilN 138 3)
  simp only [heap_alloc_size] at hS
  have cL := hid (((MB.new w m 34).alloc (.cells (mcells k) 34)).alloc (.cells (mcells ⟨0, 0, fun _ => 0, fun _ => 0⟩) 34))
  have cL2 := cL.out.cL
  rw [gL.out] at cL2
  clear cL
  have hqs := hid hq; have hrs := hid hr
  obtain ⟨V0, hV0⟩ : ∃ V, V = q * s' := ⟨_, rfl⟩
  have hVb0 : V0 ≤ 256 := by rw [hV0]; exact Nat.mul_le_mul (Nat.le_trans (Nat.le_of_lt hq) s16) s16'
  have hu1 : IntKind.i64.wrap ((q : Int) * (s' : Int)) = (V0 : Int) := by rw [show (q : Int) * (s' : Int) = (V0 : Int) by rw [hV0]; exact (Int.natCast_mul _ _).symm]; exact IntWalk.i64_in _ (by omega)
  rw [← hV0] at hst ⊢
  replace hV0 := hid hV0
  clear g g' hq hr
  generalize fromB (prodT m k l s s') (V0 + r) = fb at *
  generalize fromM (prodT m k l s s') (V0 + r) = fm at *
  generalize hgT : prodT m k l s s' = T at *
  clear hgT
  generalize mcells ⟨0, 0, fun _ => 0, fun _ => 0⟩ = zs at *
  generalize hmc : mcells m = mc at *
  generalize hkc : mcells k = kc at *
  replace hu1 := hid hu1
  go_enter Try.func69, Try.ntmps69
  go_wp2
  clear cL2
  go_loopw [11] (fun i wr => ∃ a P : Nat, a ≤ s ∧ Hid (P = a * s') ∧ i = .int .i64 a ∧ ∃ vN vO, St w.heap.size w [Asn.ownN w.heap.size 138 3 vN P (rcs .i64 T.nx l P), Asn.ownN w.heap.size 29 3 vO P (rcs .u8 T.ot l P), Asn.blk (w.heap.size + 1 + 1 + 1) #[.int .i64 (l : Int), vN, vO] 137, Asn.mb 34 (w.heap.size + 1 + 1) ⟨0, 0, fun _ => 0, fun _ => 0⟩, Asn.mb 34 (w.heap.size + 1) k, Asn.mb 34 w.heap.size m] wr) (fun i _ => s - (intOf i).toNat)
  case atStart => exact ⟨0, 0, Nat.zero_le _, hid (Nat.zero_mul _).symm, rfl, _, _, hS.out⟩
  case round =>
    obtain ⟨a, P, ha, hP, rfl, vN, vO, rS⟩ := hrel
    clear hS
    have cS := rS.m5.cS
    rw [gS.out] at cS
    replace rS := hid rS
    by_cases has : a < s
    · have dq : decide ((a : Int) < (s : Int)) = true := decide_eq_true (by omega)
      go_wp2
      clear cS
      go_loopw [12] (fun i wr => ∃ b : Nat, b ≤ s' ∧ i = .int .i64 b ∧ ∃ vN vO, St w.heap.size w [Asn.ownN w.heap.size 138 3 vN (P + b) (rcs .i64 T.nx l (P + b)), Asn.ownN w.heap.size 29 3 vO (P + b) (rcs .u8 T.ot l (P + b)), Asn.blk (w.heap.size + 1 + 1 + 1) #[.int .i64 (l : Int), vN, vO] 137, Asn.mb 34 (w.heap.size + 1 + 1) ⟨0, 0, fun _ => 0, fun _ => 0⟩, Asn.mb 34 (w.heap.size + 1) k, Asn.mb 34 w.heap.size m] wr) (fun i _ => s' - (intOf i).toNat)
      case atStart => exact ⟨0, Nat.zero_le _, rfl, _, _, rS.out⟩
      case round =>
        obtain ⟨b, hb, rfl, vN, vO, tS⟩ := hrel
        clear rS
        have cS := tS.m4.cS
        rw [gS'.out] at cS
        replace tS := hid tS
        by_cases hbs : b < s'
        · have db : decide ((b : Int) < (s' : Int)) = true := decide_eq_true (by omega)
          have hbn2 : w.heap.size ≤ wr.heap.size := tS.out.le
          go_wp2
          have yS := hid (show St w.heap.size w (Asn.blk wr.heap.size (fil3 T.nx (P + b) 0) 138 :: Asn.blk (wr.heap.size + 1) (fil3b T.ot (P + b) 0) 29 :: _) _ from (by have h := ((tS.out.newBlk #[.int .i64 0, .int .i64 0, .int .i64 0] 138).newBlk #[.int .u8 0, .int .u8 0, .int .u8 0] 29).f1; rw [heap_alloc_size] at h; exact h))
          clear tS cS
          generalize (wr.alloc (.cells #[.int .i64 0, .int .i64 0, .int .i64 0] 138)).alloc (.cells #[.int .u8 0, .int .u8 0, .int .u8 0] 29) = wa at *
          generalize wr.heap.size = bn at *
          go_loopw [15] (fun i wr => ∃ x : Nat, x ≤ l ∧ i = .int .i64 x ∧ St w.heap.size w [Asn.blk bn (fil3 T.nx (P + b) x) 138, Asn.blk (bn + 1) (fil3b T.ot (P + b) x) 29, Asn.ownN w.heap.size 138 3 vN (P + b) (rcs .i64 T.nx l (P + b)), Asn.ownN w.heap.size 29 3 vO (P + b) (rcs .u8 T.ot l (P + b)), Asn.blk (w.heap.size + 1 + 1 + 1) #[.int .i64 (l : Int), vN, vO] 137, Asn.mb 34 (w.heap.size + 1 + 1) ⟨0, 0, fun _ => 0, fun _ => 0⟩, Asn.mb 34 (w.heap.size + 1) k, Asn.mb 34 w.heap.size m] wr) (fun i _ => l - (intOf i).toNat)
          case atStart => exact ⟨0, Nat.zero_le _, rfl, yS.out⟩
          case round =>
            obtain ⟨x, hx, rfl, zS⟩ := hrel
            clear yS
            replace zS := hid zS
            have mM := hid (show MB wr 34 w.heap.size m from zS.out.drop.g6)
            have mK := hid (show MB wr 34 (w.heap.size + 1) k from zS.out.drop.g5)
            have cL := mM.out.cL
            rw [gL.out] at cL
            by_cases hxl : x < l
            · have dx : decide ((x : Int) < (l : Int)) = true := decide_eq_true (by omega)
              obtain ⟨t1, t2, t3, t4⟩ := hlt.out a b x has hbs hxl
              have c1 := mM.out.cnx a x (by omega) (by omega)
              have c2 := mM.out.cot a x (by omega) (by omega)
              have c3 := mK.out.cnx b (m.ot (a * 3 + x)) (by omega) (by omega)
              have c4 := mK.out.cot b (m.ot (a * 3 + x)) (by omega) (by omega)
              have cS := mK.out.cS
              rw [gS'.out] at cS
              have eF := eN.out a b P x hbs hP.out
              have eG := eO.out a b P x hbs hP.out
              obtain ⟨V, hV⟩ : ∃ V, V = m.nx (a * 3 + x) * s' := ⟨_, rfl⟩
              have hVb : V ≤ 256 := by rw [hV]; exact Nat.mul_le_mul (Nat.le_of_lt t1) s16'
              have hw1 : IntKind.i64.wrap ((m.nx (a * 3 + x) : Int) * (s' : Int)) = (V : Int) := by rw [show (m.nx (a * 3 + x) : Int) * (s' : Int) = (V : Int) by rw [hV]; exact (Int.natCast_mul _ _).symm]; exact IntWalk.i64_in _ (by omega)
              rw [← hV] at eF
              clear hV
              have hy3 : m.ot (a * 3 + x) < 3 := t2
              have hmk := hid (fun W (hW : MB W 34 (w.heap.size + 1) k) => hW.cot b (m.ot (a * 3 + x)) (by omega) (by omega))
              have hset1 := hid (fil3_set T.nx (P + b) x (by omega))
              have hset2 := hid (fil3b_set T.ot (P + b) x (by omega))
              rw [eF] at hset1
              rw [eG] at hset2
              clear c4
              clear eF eG
              generalize k.ot (b * 3 + m.ot (a * 3 + x)) = o2 at *
              generalize k.nx (b * 3 + m.ot (a * 3 + x)) = v2 at *
              generalize m.ot (a * 3 + x) = y at *
              generalize m.nx (a * 3 + x) = v1 at *
              have hw2 : IntKind.i64.wrap ((V : Int) + (v2 : Int)) = ((V + v2 : Nat) : Int) := by rw [show (V : Int) + (v2 : Int) = ((V + v2 : Nat) : Int) by omega]; exact IntWalk.i64_in _ (by omega)
              have hw3 := hid (show wrap64 ((v1 : Int) * (s' : Int)) = (V : Int) by rw [← IntWalk.i64_left]; exact hw1)
              have hw4 := hid (show (V : Int) + (v2 : Int) = ((V + v2 : Nat) : Int) by omega)
              generalize V + v2 = F at *
              have x3 : (x : Int) < 3 := by omega
              have x0 : (0 : Int) ≤ (x : Int) := Int.natCast_nonneg _
              have a0 : (0 : Int) ≤ (a : Int) := Int.natCast_nonneg _
              have a1 : (a : Int) < 16 := by omega
              have b0 : (0 : Int) ≤ (b : Int) := Int.natCast_nonneg _
              have b1 : (b : Int) < 16 := by omega
              have y0 : (0 : Int) ≤ (y : Int) := Int.natCast_nonneg _
              have y1 : (y : Int) < 3 := by omega
              go_upto_region 13 with (fail)
              refine wp_region_still_tail 19 (by kernel_rfl) (by kernel_rfl) ?_
              simp only [List.take_succ_cons, List.take_zero, List.drop_succ_cons, List.drop_zero]
              repeat still_step
              try refine wpStill_nil ?_
              change wpList _ _ _ _ _ wr.drew
              replace zS := hid zS.out.drew
              clear c1 c2 c3 cS cL mM mK
              generalize wr.drew = wc at *
              obtain ⟨u1, hu1'⟩ := fil3_get T.nx (P + b) x x (by omega)
              have co : wc.cell? ⟨bn, x, none⟩ = some u1 := (cell_of_row _ _ x _ _ _ zS.out.k0).trans hu1'
              have fo := frozen_of_row _ _ x _ _ zS.out.k0
              clear hu1'
              go_upto_region 14 with (fail)
              rw [hw3.out, hw4.out]
              replace zS := hid (zS.out.setBlk hbn2 x (.int .i64 (F : Int)))
              rw [hset1.out] at zS
              clear co fo
              generalize wc.setCell ⟨bn, x, none⟩ (.int .i64 (F : Int)) = we at *
              have c4 := hmk.out we zS.out.drop.g5
              obtain ⟨u2, hu2'⟩ := fil3b_get T.ot (P + b) x x (by omega)
              have co : we.cell? ⟨bn + 1, x, none⟩ = some u2 := (cell_of_row _ _ x _ _ _ zS.out.k1).trans hu2'
              have fo := frozen_of_row _ _ x _ _ zS.out.k1
              clear hu2'
              have zS2 := hid (zS.out.f1.setBlk (Nat.le_succ_of_le hbn2) x (.int .u8 (o2 : Int)))
              rw [hset2.out] at zS2
              go_wp2
              go_roundw
              case rel => exact ⟨x + 1, by omega, by go_num, zS2.out.f1⟩
              case measure => simp [intOf]; omega
            · obtain rfl : l = x := by omega
              rw [fil3_all, fil3b_all] at zS
              have cb1 : wr.cell? ⟨w.heap.size + 1 + 1 + 1, 1, none⟩ = some vN := cell_of_row _ _ 1 _ _ _ zS.out.k4
              have rg := hid (show wr.rangeAt bn 0 (rc1 .i64 T.nx l (P + b)) from fun j u hu => by rw [Nat.zero_add, cell_of_row _ _ j _ _ _ zS.out.k0]; simpa using hu)
              have hl1 := hid (show (rc1 .i64 T.nx l (P + b)).length = 3 by simp [rc1])
              have hl2 := hid (show (rc1 .u8 T.ot l (P + b)).length = 3 by simp [rc1])
              have ho1 := hid (rc1_one .i64 T.nx l (P + b))
              have ho2 := hid (rc1_one .u8 T.ot l (P + b))
              have hs1 := hid (show rcs .i64 T.nx l (P + (b + 1)) = _ from rcs_snoc .i64 T.nx l (P + b))
              have hs2 := hid (show rcs .u8 T.ot l (P + (b + 1)) = _ from rcs_snoc .u8 T.ot l (P + b))
              have hPb : P + b ≤ 256 := by have h1 := prod_in has hbs; have h2 : s * s' ≤ 256 := Nat.mul_le_mul s16 s16'; rw [hP.out]; omega
              obtain ⟨a0, a1, a2, hr1⟩ := rc1_lit .i64 T.nx l (P + b)
              obtain ⟨b0, b1, b2, hr2⟩ := rc1_lit .u8 T.ot l (P + b)
              rw [hr1] at hl1 ho1 hs1 rg zS
              rw [hr2] at hl2 ho2 hs2 zS
              replace hr1 := hid hr1; replace hr2 := hid hr2
              go_upto_region 16 with (first
                | ((with_reducible refine gate (N := 78) rfl ?_); refine wpList_load_mid rfl 138 _ rfl bn 0 rfl _ _ rg.out Try.underlying138 rfl (by rw [hl1.out]; exact sz_r3) ?_)
                | ((with_reducible refine gate (N := 80) rfl ?_); refine St.appNw 134 138 _ 3 24 Try.underlying134 info_r3 rfl (by omega) (by omega) rfl _ _ rfl vN (P + b) _ rfl zS.out.f2 [.int .i64 (a0 : Int), .int .i64 (a1 : Int), .int .i64 (a2 : Int)] hl1.out ho1.out rfl (by omega) ?_; intro gn cn w4 zS'; replace zS := hid zS'.f1.drop.f3; clear zS' cb1 rg; have cb2 := cell_of_row _ _ 1 _ _ _ zS.out.k0; have f2 := frozen_of_row _ _ 1 _ _ zS.out.k0))
              clear cb2 f2
              replace zS := hid (show St w.heap.size w (Asn.blk (w.heap.size + 1 + 1 + 1) #[.int .i64 (l : Int), .slice (some ⟨gn, 0, none⟩) (P + b + 1) cn, vO] 137 :: _) _ from zS.out.setBlk (by omega) 1 (.slice (some ⟨gn, 0, none⟩) (P + b + 1) cn))
              rw [← hs1.out] at zS
              generalize w4.setCell ⟨w.heap.size + 1 + 1 + 1, 1, none⟩ (.slice (some ⟨gn, 0, none⟩) (P + b + 1) cn) = w5 at *
              have cb1 : w5.cell? ⟨w.heap.size + 1 + 1 + 1, 2, none⟩ = some vO := cell_of_row _ _ 2 _ _ _ zS.out.k0
              have rg := hid (show w5.rangeAt (bn + 1) 0 [.int .u8 (b0 : Int), .int .u8 (b1 : Int), .int .u8 (b2 : Int)] from fun j u hu => by rw [Nat.zero_add, cell_of_row _ _ j _ _ _ zS.out.k2]; simpa using hu)
              go_wp2_with (first
                | ((with_reducible refine gate (N := 84) rfl ?_); refine wpList_load_mid rfl 29 _ rfl (bn + 1) 0 rfl _ _ rg.out Try.underlying29 rfl (by rw [hl2.out]; exact sz_b3) ?_)
                | ((with_reducible refine gate (N := 86) rfl ?_); refine St.appNw 135 29 _ 3 3 Try.underlying135 info_b3 rfl (by omega) (by omega) rfl _ _ rfl vO (P + b) _ rfl zS.out.f3 [.int .u8 (b0 : Int), .int .u8 (b1 : Int), .int .u8 (b2 : Int)] hl2.out ho2.out rfl (by omega) ?_; intro go co w6 zS'; replace zS := hid zS'.f1; clear zS' cb1 rg; have cb2 := cell_of_row _ _ 2 _ _ _ zS.out.k0; have f2 := frozen_of_row _ _ 2 _ _ zS.out.k0))
              clear cb2 f2
              replace zS := hid (show St w.heap.size w (Asn.blk (w.heap.size + 1 + 1 + 1) #[.int .i64 (l : Int), .slice (some ⟨gn, 0, none⟩) (P + b + 1) cn, .slice (some ⟨go, 0, none⟩) (P + b + 1) co] 137 :: _) _ from zS.out.setBlk (by omega) 2 (.slice (some ⟨go, 0, none⟩) (P + b + 1) co))
              rw [← hs2.out] at zS
              go_roundw
              case rel => exact ⟨b + 1, by omega, by go_num, _, _, zS.out.f3.drop.f2.s1⟩
              case measure => simp [intOf]; omega
        · obtain rfl : s' = b := by omega
          have hP' := hid (show P + s' = (a + 1) * s' by rw [hP.out]; exact (Nat.succ_mul a s').symm)
          go_wp2
          go_roundw
          case rel => exact ⟨a + 1, P + s', by omega, hP', by go_num, _, _, tS.out⟩
          case measure => simp [intOf]; omega
    · obtain rfl : s = a := by omega
      have hlg := hid (show LG wr w.heap.size vN vO T from ⟨by have h := rS.out.n0; rw [hP.out] at h; rw [hTn.out, hTL.out]; exact h, by have h := rS.out.n1; rw [hP.out] at h; rw [hTn.out, hTL.out]; exact h⟩)
      have rg := hid (show wr.rangeAt (w.heap.size + 1 + 1 + 1) 0 [.int .i64 (l : Int), vN, vO] from fun j u hu => by rw [Nat.zero_add, cell_of_row _ _ j _ _ _ rS.out.k2]; simpa using hu)
      have cK := rS.out.m4.cS
      rw [gS'.out] at cK
      have hU1 : IntKind.i64.wrap ((q : Int) * (s' : Int)) = (V0 : Int) := hu1.out
      have hr16 : r < 16 := by have := hrs.out; omega
      have hU2 : IntKind.i64.wrap ((V0 : Int) + (r : Int)) = ((V0 + r : Nat) : Int) := by rw [show (V0 : Int) + (r : Int) = ((V0 + r : Nat) : Int) by omega]; exact IntWalk.i64_in _ (by omega)
      generalize V0 + r = n0 at *
      go_wp2_with (first
        | ((with_reducible refine gate (N := 89) rfl ?_); refine wpList_load_mid rfl 137 _ rfl (w.heap.size + 1 + 1 + 1) 0 rfl [.int .i64 (l : Int), vN, vO] _ rg.out Try.underlying137 rfl sz_large ?_)
        | (go_at_call 125; (with_reducible refine (hst.out _ _ _ hlg.out).mono ?_); rintro e w2 ⟨rfl, hb⟩; have hle2 := hid (rS.out.call hb).le; replace rS := hid (hN.out _ _ (rS.out.call hb)); clear hb hlg hst rg cK)
        | ((with_reducible refine gateOp (op := .store 34 (.tmp 17) (.tmp 97)) rfl ?_); refine store_mach rfl _ _ rfl w2.heap.size rfl fm rfl 34 _ rS.out.m0 ?_; intro W1 p3 ho hsz hbl; replace rS := hid (rS.out.setM hle2.out p3 ho hbl); clear p3 ho hsz hbl)
        | ((with_reducible refine gate (N := 99) rfl ?_); refine load_mach rfl _ rfl w2.heap.size rfl fm rS.out.m0 ?_)
        | ((with_reducible refine gateOp (op := .store 34 (.tmp 8) (.tmp 99)) rfl ?_); refine store_mach rfl _ _ rfl (w.heap.size + 1 + 1) rfl fm rfl 34 _ rS.out.m4 ?_; intro W3 p2 ho hsz hbl; have pB := hid (hbl _ _ (by omega) rS.out.bel); replace p2 := hid p2; clear ho hsz hbl))
      exact ret_mach_v rfl rfl rfl p2.out rfl ⟨rfl, pB.out⟩
end Go.Proofs.Ythempofohidlnaa

/- Two machines and a state of each: their code, in the program and in the reference. -/
namespace Go.Proofs.Ythempofohidlnaa
open Go.RowKit
set_option linter.unusedVariables false
set_option linter.unusedSimpArgs false

open Classical in
/-- The code of states of two machines. -/
noncomputable def pairI (m : Mach) (q : Int) (k : Mach) (r : Int) : Int := if IsM m ∧ IsM k then if (0 ≤ q ∧ q < m.S) ∧ (0 ≤ r ∧ r < k.S) ∧ m.L = k.L then 0 else 2 else 1

theorem pairI_cases (m : Mach) (q : Int) (k : Mach) (r : Int) : (pairI m q k r = 1 ∧ ¬ (IsM m ∧ IsM k)) ∨ (pairI m q k r = 2) ∨ ∃ l s s' q' r', Good m l s ∧ Good k l s' ∧ q = ((q' : Nat) : Int) ∧ q' < s ∧ r = ((r' : Nat) : Int) ∧ r' < s' ∧ pairI m q k r = 0 := by
  unfold pairI
  by_cases h : IsM m ∧ IsM k
  · rw [if_pos h]
    by_cases hq : (0 ≤ q ∧ q < m.S) ∧ (0 ≤ r ∧ r < k.S) ∧ m.L = k.L
    · rw [if_pos hq]
      obtain ⟨l, s, g⟩ := h.1.good
      obtain ⟨l', s', g'⟩ := h.2.good
      obtain ⟨q', rfl⟩ := Int.eq_ofNat_of_zero_le hq.1.1
      obtain ⟨r', rfl⟩ := Int.eq_ofNat_of_zero_le hq.2.1.1
      have e := hq.2.2
      rw [g.L, g'.L] at e
      have e' : l' = l := by omega
      rw [e'] at g'
      have h1 := hq.1.2; have h2 := hq.2.1.2
      rw [g.S] at h1; rw [g'.S] at h2
      exact .inr (.inr ⟨l, s, s', q', r', g, g', rfl, by omega, rfl, by omega, rfl⟩)
    · rw [if_neg hq]; exact .inr (.inl rfl)
  · rw [if_neg h]; exact .inl ⟨rfl, h⟩

end Go.Proofs.Ythempofohidlnaa

/- ProductOfStates: what the program and the reference answer. -/
namespace Go.Proofs.Ythempofohidlnaa
open Go.RowKit
set_option linter.unusedVariables false
set_option linter.unusedSimpArgs false

open Classical in
/-- What ProductOfStates answers. -/
noncomputable def posAns (m : Mach) (q : Int) (k : Mach) (r : Int) : Mach × Int := if pairI m q k r = 0 then (fromM (prodT m k m.L.toNat m.S.toNat k.S.toNat) (q.toNat * k.S.toNat + r.toNat), fromC (prodT m k m.L.toNat m.S.toNat k.S.toNat) (q.toNat * k.S.toNat + r.toNat)) else (⟨0, 0, fun _ => 0, fun _ => 0⟩, pairI m q k r)
theorem posAns_0 {m k : Mach} {l s s' q r : Nat} (g : Good m l s) (g' : Good k l s') (h : pairI m q k r = 0) : posAns m q k r = (fromM (prodT m k l s s') (q * s' + r), fromC (prodT m k l s s') (q * s' + r)) := by
  unfold posAns; rw [if_pos h, g.L, g.S, g'.S]; rfl
theorem posAns_n {m : Mach} {q : Int} {k : Mach} {r c : Int} (h : pairI m q k r = c) (hc : c ≠ 0) : posAns m q k r = (⟨0, 0, fun _ => 0, fun _ => 0⟩, c) := by
  unfold posAns; rw [h, if_neg hc]
theorem from_cases (T : Tab) (q : Nat) : (fromB T q = true ∧ fromC T q = 0) ∨ (fromB T q = false ∧ fromC T q = 3 ∧ fromM T q = ⟨0, 0, fun _ => 0, fun _ => 0⟩) := by
  unfold fromB fromC fromM
  by_cases h : (fin T (fix T) q).length ≤ 16
  · exact .inl ⟨decide_eq_true h, if_pos h⟩
  · exact .inr ⟨decide_eq_false h, if_neg h, if_neg h⟩

end Go.Proofs.Ythempofohidlnaa

/- OrderByPowers: what the program and the reference answer. -/
namespace Go.Proofs.Ythempofohidlnaa
open Go.RowKit
set_option linter.unusedVariables false
set_option linter.unusedSimpArgs false

/-- The next power, and its code. -/
def nextM (m : Mach) (l s q : Nat) (now : Mach) : Mach := fromM (prodT now m l now.S.toNat s) (0 * s + q)
def nextC (m : Mach) (l s q : Nat) (now : Mach) : Int := fromC (prodT now m l now.S.toNat s) (0 * s + q)
open Classical in
/-- The search. -/
noncomputable def ordGo (m : Mach) (l s q : Nat) : Nat → Nat → Mach → Int × Int
  | 0, _, _ => (0, 4)
  | f + 1, k, now => if nextC m l s q now = 0 then (if mcells (nextM m l s q now) = mcells (trivM l) then ((k : Int), 0) else ordGo m l s q f (k + 1) (nextM m l s q now)) else (0, 3)
open Classical in
noncomputable def obpAns (m : Mach) (q n : Int) : Int × Int :=
  if codeI m { data := #[] } [q] = 0 then (if 1 ≤ n ∧ n ≤ 16 then ordGo m m.L.toNat m.S.toNat q.toNat n.toNat 1 (trivM m.L.toNat) else (0, 2)) else (0, codeI m { data := #[] } [q])
theorem obpAns_n {m : Mach} {q n c : Int} (h : codeI m { data := #[] } [q] = c) (hc : c ≠ 0) : obpAns m q n = (0, c) := by
  unfold obpAns; rw [h, if_neg hc]
theorem obpAns_r {m : Mach} {q n : Int} (h : codeI m { data := #[] } [q] = 0) (hn : ¬ (1 ≤ n ∧ n ≤ 16)) : obpAns m q n = (0, 2) := by
  unfold obpAns; rw [h, if_pos rfl, if_neg hn]
theorem obpAns_0 {m : Mach} {l s q : Nat} {n : Nat} (g : Good m l s) (h : codeI m { data := #[] } [(q : Int)] = 0) (hn : 1 ≤ n ∧ n ≤ 16) : obpAns m q n = ordGo m l s q n 1 (trivM l) := by
  unfold obpAns; rw [h, if_pos rfl, if_pos (by omega), g.L, g.S]; rfl
theorem next_cases (m : Mach) (l s q : Nat) (hq : q < s) (g : Good m l s) (now : Mach) (sN : Nat) (gN : Good now l sN) :
    (nextC m l s q now = 3 ∧ fromB (prodT now m l sN s) (0 * s + q) = false) ∨ (nextC m l s q now = 0 ∧ fromB (prodT now m l sN s) (0 * s + q) = true ∧ ∃ s2, Good (nextM m l s q now) l s2 ∧ (nextM m l s q now).Ok) := by
  have e : now.S.toNat = sN := by rw [gN.S]; rfl
  have hin := prod_in (s' := s) (show 0 < sN from gN.s1) hq
  rcases from_cases (prodT now m l sN s) (0 * s + q) with ⟨h1, h2⟩ | ⟨h1, h2, _⟩
  · refine .inr ⟨by unfold nextC; rw [e]; exact h2, h1, ?_⟩
    obtain ⟨s2, g2⟩ := fromM_good (prod_ok gN g) hin g.l2 g.l3 (prod_o gN g) (prod_inj gN g) h2
    exact ⟨s2, by unfold nextM; rw [e]; exact g2, by unfold nextM; rw [e]; exact fromM_ok (prod_ok gN g) hin (prod_o256 gN g)⟩
  · exact .inl ⟨by unfold nextC; rw [e]; exact h2, h1⟩
theorem next_M (m : Mach) (l s q : Nat) (now : Mach) (sN : Nat) (gN : Good now l sN) : fromM (prodT now m l sN s) (0 * s + q) = nextM m l s q now ∧ fromC (prodT now m l sN s) (0 * s + q) = nextC m l s q now := by
  have e : now.S.toNat = sN := by rw [gN.S]; rfl
  unfold nextM nextC; rw [e]; exact ⟨rfl, rfl⟩
open Classical in
theorem eq_triv (m : Mach) (l s2 : Nat) (g : Good m l s2) (hk : m.Ok) : ∃ b : Bool, Hid (b = true ↔ mcells m = mcells (trivM l)) ∧ ∀ W : World, (Op.equalIn 10000 34 (.agg (mcells m)) (.agg (mcells (trivM l)))).run Try.prog W = .ok b W := by
  have l3 := g.l3; have s16 := g.s16
  exact ⟨_, hid decide_eq_true_iff, fun W => eq_mach W m (trivM l) hk (trivM_ok l l3) l s2 l 1 g.L g.S rfl rfl (by omega) (by omega) (by omega) (by omega) _ decide_eq_true_iff⟩
theorem ordGo_3 {m : Mach} {l s q f k : Nat} {now : Mach} (h : nextC m l s q now = 3) : ordGo m l s q (f + 1) k now = (0, 3) := by
  unfold ordGo; rw [h, if_neg (by decide)]
theorem ordGo_t {m : Mach} {l s q f k : Nat} {now : Mach} (h : nextC m l s q now = 0) (he : mcells (nextM m l s q now) = mcells (trivM l)) : ordGo m l s q (f + 1) k now = ((k : Int), 0) := by
  unfold ordGo; rw [if_pos h, if_pos he]
theorem ordGo_n {m : Mach} {l s q f k : Nat} {now : Mach} (h : nextC m l s q now = 0) (he : ¬ mcells (nextM m l s q now) = mcells (trivM l)) : ordGo m l s q (f + 1) k now = ordGo m l s q f (k + 1) (nextM m l s q now) := by
  conv => lhs; unfold ordGo
  rw [if_pos h, if_neg he]

set_option maxHeartbeats 8000000 in
set_option maxRecDepth 4000 in
theorem implObp_any (w : World) (m : Mach) (hkm : m.Ok) (q n : Int) :
    Calls Try.prog 25 #[.agg (mcells m), .int .i64 q, .int .i64 n] w fun e w' => e = .returned (.tuple #[.int .i64 (obpAns m q n).1, .int .i64 (obpAns m q n).2]) ∧ Below w.heap.size w w' := by
  have hz := zero_mach
  have hS := hid ((St.start w).newMB m 34)
  have hcode := hid (fun W base v h => codeOf_any W m hkm { data := #[] } (by decide) base v [q] h (by simp))
  have hown := hid (hS.out.newOwn [Value.int .i64 q] 2 (by simp))
  simp only [heap_alloc_size] at hown
  rcases codeI_cases m q with h | h | ⟨l, s, q, g, rfl, hq, h⟩
  · rw [obpAns_n h (by decide)]
    rw [h] at hcode
    replace hkm := hid hkm; clear h
    go_enter Try.func25, Try.ntmps25
    go_wp2_with (first
      | ((with_reducible refine gate (N := 13) rfl ?_); refine load_mach rfl _ rfl w.heap.size rfl m hS.out.m0 ?_)
      | (go_at_call 61; (with_reducible refine (hcode.out _ _ _ hown.out.o0).mono ?_); rintro e w1 ⟨rfl, hb⟩; replace hS := hid (hown.out.call hb).drop; clear hb hcode hown))
    go_ret2
    exact ⟨rfl, hS.out.bel⟩
  · rw [obpAns_n h (by decide)]
    rw [h] at hcode
    replace hkm := hid hkm; clear h
    go_enter Try.func25, Try.ntmps25
    go_wp2_with (first
      | ((with_reducible refine gate (N := 13) rfl ?_); refine load_mach rfl _ rfl w.heap.size rfl m hS.out.m0 ?_)
      | (go_at_call 61; (with_reducible refine (hcode.out _ _ _ hown.out.o0).mono ?_); rintro e w1 ⟨rfl, hb⟩; replace hS := hid (hown.out.call hb).drop; clear hb hcode hown))
    go_ret2
    exact ⟨rfl, hS.out.bel⟩
  · by_cases hn : 1 ≤ n ∧ n ≤ 16
    · obtain ⟨n, rfl⟩ := Int.eq_ofNat_of_zero_le (show 0 ≤ n by omega)
      have hw := hid (show true = decide (1 ≤ (n : Int) ∧ (n : Int) ≤ 16) from (decide_eq_true hn).symm)
      rw [obpAns_0 g h (by omega)]
      rw [h] at hcode
      have gL := hid g.L
      have l2 := g.l2; have l3 := g.l3
      have htr := hid (fun W => trivialMachine_any W l l3)
      have hpr := hid (fun b W now sN (gN : Good now l sN) hb hm => (by have h := product_any b w.heap.size W now m hb hm l sN s gN g 0 q gN.s1 hq; rw [(next_M m l s q now sN gN).1, (next_M m l s q now sN gN).2] at h; exact h : Calls Try.prog 71 #[.pointer (some ⟨b, 0, none⟩), .int .i64 0, .pointer (some ⟨w.heap.size, 0, none⟩), .int .i64 (q : Nat)] W fun e w' => e = .returned (.tuple #[.agg (mcells (nextM m l s q now)), .int .i64 (nextC m l s q now)]) ∧ Below W.heap.size W w'))
      have hnc := hid (next_cases m l s q hq g)
      have htg := hid (trivM_good l l2 l3)
      have heqt := hid (fun M s2 (gM : Good M l s2) (hM : M.Ok) => eq_triv M l s2 gM hM)
      obtain ⟨ans, hans⟩ : ∃ a, a = ordGo m l s q n 1 (trivM l) := ⟨_, rfl⟩
      rw [← hans]
      replace hans := hid hans
      have hN := hid (fun L W M (h : St w.heap.size w L W) => h.newMB M 34)
      have hz2 := hid (fun L W (h : St w.heap.size w L W) => h.newMB ⟨0, 0, fun _ => 0, fun _ => 0⟩ 34)
      have hgd := guard_mach
      have hn1 : n ≤ 16 := by omega
      replace hkm := hid hkm; clear h; replace g := hid g; replace hn := hid hn
      generalize mcells ⟨0, 0, fun _ => 0, fun _ => 0⟩ = zs at *
      go_enter Try.func25, Try.ntmps25
      go_upto_region 6 with (first
        | ((with_reducible refine gate (N := 13) rfl ?_); refine load_mach rfl _ rfl w.heap.size rfl m hS.out.m0 ?_)
        | (go_at_call 61; (with_reducible refine (hcode.out _ _ _ hown.out.o0).mono ?_); rintro e w1 ⟨rfl, hb⟩; replace hS := hid (hown.out.call hb).drop; clear hb hcode hown)
        | (go_at_call 62; (with_reducible refine (within_any _ _ _ true hw.out _).mono ?_); rintro e w' ⟨rfl, rfl⟩))
      have cL := hS.out.m0.cL
      rw [gL.out] at cL
      go_upto_region 7 with (first
        | (go_at_call 70; (with_reducible refine (htr.out _).mono ?_); rintro e w2 ⟨rfl, hb⟩; have hle2 := hid (hS.out.call hb).le; replace hS := hid (hz2.out _ _ (hS.out.call hb)); clear hb cL)
        | ((with_reducible refine gateOp (op := .store 34 (.tmp 9) (.tmp 25)) rfl ?_); refine store_mach rfl _ _ rfl w2.heap.size rfl (trivM l) rfl 34 _ hS.out.m0 ?_; intro W1 p3 ho hsz hbl; replace hS := hid (hS.out.setM hle2.out p3 ho hbl); clear p3 ho hsz hbl))
      generalize w2.heap.size = b9 at *
      have hle3 := hid hS.out.le
      have hS0 := hS
      replace hS := hid (hz2.out _ _ hS.out)
      have hld := hid hS0.out.m0
      clear hS0
      go_upto_region 8 with (first
        | ((with_reducible refine gate (N := 26) rfl ?_); refine load_mach rfl _ rfl b9 rfl (trivM l) hld.out ?_)
        | ((with_reducible refine gateOp (op := .store 34 (.tmp 10) (.tmp 26)) rfl ?_); refine store_mach rfl _ _ rfl W1.heap.size rfl (trivM l) rfl 34 _ hS.out.m0 ?_; intro W2 p3 ho hsz hbl; replace hS := hid (hS.out.setM hle3.out p3 ho hbl); clear p3 ho hsz hbl hld))
      generalize W1.heap.size = b10 at *
      go_wp2
      go_loopw [11] (fun i wr => ∃ (c f : Nat) (now : Mach) (sN : Nat), i = .int .i64 c ∧ c + f = n + 1 ∧ Hid (Good now l sN) ∧ Hid (ans = ordGo m l s q f c now) ∧ St w.heap.size w [Asn.mb 34 b10 now, Asn.mb 34 b9 (trivM l), Asn.mb 34 w.heap.size m] wr) (fun i _ => n + 1 - (intOf i).toNat)
      case atStart => exact ⟨1, n, _, _, rfl, Nat.add_comm _ _, htg, hans, hS.out⟩
      case round =>
        obtain ⟨c, f, now, sN, rfl, hcf, gN, ha, rS⟩ := hrel
        clear hS hans
        replace rS := hid rS
        rcases f with _ | f
        · have dc : decide ((c : Int) ≤ (n : Int)) = false := decide_eq_false (by omega)
          have hA := hid (show ans = (0, 4) from ha.out)
          go_wp2
          go_ret2
          exact ⟨by first | (rw [hA.out]; done) | (rw [hA.out]; rfl), rS.out.bel⟩
        · have dc : decide ((c : Int) ≤ (n : Int)) = true := decide_eq_true (by omega)
          have hpn := hid (fun W hb hm => hpr.out b10 W now sN gN.out hb hm)
          rcases hnc.out now sN gN.out with ⟨h3, hB⟩ | ⟨h0, hB, s2, g2, k2⟩
          · have hA := hid (show ans = (0, 3) from ha.out.trans (ordGo_3 h3))
            rw [h3] at hpn
            clear h3 hB ha
            generalize nextM m l s q now = nx at *
            go_wp2_with (first
              | (go_at_call 71; (with_reducible refine (hpn.out _ rS.out.m0 rS.out.m2).mono ?_); rintro e w3 ⟨rfl, hb⟩; replace rS := hid (rS.out.call hb); clear hb hpn)
              | ((with_reducible refine gateOp (op := .store 34 (.tmp 10) (.tmp 35)) rfl ?_); refine store_mach rfl _ _ rfl b10 rfl nx rfl 34 _ rS.out.m0 ?_; intro W5 p3 ho hsz hbl; replace rS := hid (rS.out.setM hle3.out p3 ho hbl); clear p3 ho hsz hbl)
              | ((with_reducible refine gate (N := 42) rfl ?_); refine load_mach rfl _ rfl b10 rfl nx rS.out.m0 ?_)
              | ((with_reducible refine gate (N := 43) rfl ?_); refine load_mach rfl _ rfl b9 rfl (trivM l) rS.out.m1 ?_))
            go_ret2
            exact ⟨by first | (rw [hA.out]; done) | (rw [hA.out]; rfl), rS.out.bel⟩
          · obtain ⟨b, hb, heq⟩ := heqt.out _ _ g2 k2
            rw [h0] at hpn
            cases b with
            | true =>
              have hA := hid (show ans = ((c : Int), 0) from ha.out.trans (ordGo_t h0 (hb.out.1 rfl)))
              clear h0 hB ha hb g2 k2
              generalize nextM m l s q now = nx at *
              go_wp2_with (first
                | (go_at_call 71; (with_reducible refine (hpn.out _ rS.out.m0 rS.out.m2).mono ?_); rintro e w3 ⟨rfl, hb⟩; replace rS := hid (rS.out.call hb); clear hb hpn)
                | ((with_reducible refine gateOp (op := .store 34 (.tmp 10) (.tmp 35)) rfl ?_); refine store_mach rfl _ _ rfl b10 rfl nx rfl 34 _ rS.out.m0 ?_; intro W5 p3 ho hsz hbl; replace rS := hid (rS.out.setM hle3.out p3 ho hbl); clear p3 ho hsz hbl)
                | ((with_reducible refine gate (N := 42) rfl ?_); refine load_mach rfl _ rfl b10 rfl nx rS.out.m0 ?_)
                | ((with_reducible refine gate (N := 43) rfl ?_); refine load_mach rfl _ rfl b9 rfl (trivM l) rS.out.m1 ?_))
              go_ret2
              exact ⟨by first | (rw [hA.out]; done) | (rw [hA.out]; rfl), rS.out.bel⟩
            | false =>
              have hA := hid (ha.out.trans (ordGo_n h0 (fun h => by have := hb.out.2 h; cases this)))
              replace g2 := hid g2
              clear h0 hB ha hb k2
              generalize nextM m l s q now = nx at *
              go_wp2_with (first
                | (go_at_call 71; (with_reducible refine (hpn.out _ rS.out.m0 rS.out.m2).mono ?_); rintro e w3 ⟨rfl, hb⟩; replace rS := hid (rS.out.call hb); clear hb hpn)
                | ((with_reducible refine gateOp (op := .store 34 (.tmp 10) (.tmp 35)) rfl ?_); refine store_mach rfl _ _ rfl b10 rfl nx rfl 34 _ rS.out.m0 ?_; intro W5 p3 ho hsz hbl; replace rS := hid (rS.out.setM hle3.out p3 ho hbl); clear p3 ho hsz hbl)
                | ((with_reducible refine gate (N := 42) rfl ?_); refine load_mach rfl _ rfl b10 rfl nx rS.out.m0 ?_)
                | ((with_reducible refine gate (N := 43) rfl ?_); refine load_mach rfl _ rfl b9 rfl (trivM l) rS.out.m1 ?_))
              go_roundw
              case rel => exact ⟨c + 1, f, nx, s2, by go_num, by omega, g2, hA, rS.out⟩
              case measure => simp [intOf]; omega
    · rw [obpAns_r h hn]
      have hw := hid (show false = decide (1 ≤ n ∧ n ≤ 16) from (decide_eq_false hn).symm)
      rw [h] at hcode
      replace hkm := hid hkm; clear h hn; replace g := hid g
      go_enter Try.func25, Try.ntmps25
      go_wp2_with (first
        | ((with_reducible refine gate (N := 13) rfl ?_); refine load_mach rfl _ rfl w.heap.size rfl m hS.out.m0 ?_)
        | (go_at_call 61; (with_reducible refine (hcode.out _ _ _ hown.out.o0).mono ?_); rintro e w1 ⟨rfl, hb⟩; replace hS := hid (hown.out.call hb).drop; clear hb hcode hown)
        | (go_at_call 62; (with_reducible refine (within_any _ _ _ false hw.out _).mono ?_); rintro e w' ⟨rfl, rfl⟩))
      go_ret2
      exact ⟨rfl, hS.out.bel⟩
set_option maxHeartbeats 8000000 in
set_option maxRecDepth 4000 in
theorem specObp_any (w : World) (m : Mach) (hkm : m.Ok) (q n : Int) :
    Calls Try.prog 24 #[.agg (mcells m), .int .i64 q, .int .i64 n] w fun e w' => e = .returned (.tuple #[.int .i64 (obpAns m q n).1, .int .i64 (obpAns m q n).2]) ∧ Below w.heap.size w w' := by
  have hz := zero_mach
  have hS := hid ((St.start w).newMB m 34)
  have hcode := hid (fun W => l07State_any W m hkm q)
  rcases codeI_cases m q with h | h | ⟨l, s, q, g, rfl, hq, h⟩
  · rw [obpAns_n h (by decide)]
    rw [h] at hcode
    replace hkm := hid hkm; clear h
    go_enter Try.func24, Try.ntmps24
    go_wp2_with (first
      | ((with_reducible refine gate (N := 14) rfl ?_); refine load_mach rfl _ rfl w.heap.size rfl m hS.out.m0 ?_)
      | (go_at_call 67; (with_reducible refine (hcode.out _).mono ?_); rintro e w1 ⟨rfl, hb⟩; replace hS := hid (hS.out.call hb); clear hb hcode))
    go_ret2
    exact ⟨rfl, hS.out.bel⟩
  · rw [obpAns_n h (by decide)]
    rw [h] at hcode
    replace hkm := hid hkm; clear h
    go_enter Try.func24, Try.ntmps24
    go_wp2_with (first
      | ((with_reducible refine gate (N := 14) rfl ?_); refine load_mach rfl _ rfl w.heap.size rfl m hS.out.m0 ?_)
      | (go_at_call 67; (with_reducible refine (hcode.out _).mono ?_); rintro e w1 ⟨rfl, hb⟩; replace hS := hid (hS.out.call hb); clear hb hcode))
    go_ret2
    exact ⟨rfl, hS.out.bel⟩
  · by_cases hn : 1 ≤ n ∧ n ≤ 16
    · obtain ⟨n, rfl⟩ := Int.eq_ofNat_of_zero_le (show 0 ≤ n by omega)
      have hw := hid (show true = decide (1 ≤ (n : Int) ∧ (n : Int) ≤ 16) from (decide_eq_true hn).symm)
      rw [obpAns_0 g h (by omega)]
      rw [h] at hcode
      have gL := hid g.L
      have l2 := g.l2; have l3 := g.l3
      have htr := hid (fun W => l07Trivial_any W l l3)
      have hpr := hid (fun W now sN (gN : Good now l sN) => (by have h := l07Product_any W now m l sN s gN g 0 q gN.s1 hq; rw [(next_M m l s q now sN gN).1] at h; exact h : Calls Try.prog 69 #[.agg (mcells now), .int .i64 0, .agg (mcells m), .int .i64 (q : Nat)] W fun e w' => e = .returned (.tuple #[.agg (mcells (nextM m l s q now)), .bool (fromB (prodT now m l sN s) (0 * s + q))]) ∧ Below W.heap.size W w'))
      have hnc := hid (next_cases m l s q hq g)
      have htg := hid (trivM_good l l2 l3)
      have heqt := hid (fun M s2 (gM : Good M l s2) (hM : M.Ok) => eq_triv M l s2 gM hM)
      obtain ⟨ans, hans⟩ : ∃ a, a = ordGo m l s q n 1 (trivM l) := ⟨_, rfl⟩
      rw [← hans]
      replace hans := hid hans
      have hN := hid (fun L W M (h : St w.heap.size w L W) => h.newMB M 34)
      have hz2 := hid (fun L W (h : St w.heap.size w L W) => h.newMB ⟨0, 0, fun _ => 0, fun _ => 0⟩ 34)
      have hgd := guard_mach
      have hn1 : n ≤ 16 := by omega
      replace hkm := hid hkm; clear h; replace g := hid g; replace hn := hid hn
      generalize mcells ⟨0, 0, fun _ => 0, fun _ => 0⟩ = zs at *
      go_enter Try.func24, Try.ntmps24
      go_upto_region 6 with (first
        | ((with_reducible refine gate (N := 14) rfl ?_); refine load_mach rfl _ rfl w.heap.size rfl m hS.out.m0 ?_)
        | (go_at_call 67; (with_reducible refine (hcode.out _).mono ?_); rintro e w1 ⟨rfl, hb⟩; replace hS := hid (hS.out.call hb); clear hb hcode)
        | (go_at_call 58; (with_reducible refine (l01In_any n 1 16 true hw.out _).mono ?_); rintro e w' ⟨rfl, rfl⟩))
      have cL := hS.out.m0.cL
      rw [gL.out] at cL
      go_upto_region 7 with (first
        | (go_at_call 68; (with_reducible refine (htr.out _).mono ?_); rintro e w2 ⟨rfl, hb⟩; have hle2 := hid (hS.out.call hb).le; replace hS := hid (hz2.out _ _ (hS.out.call hb)); clear hb cL)
        | ((with_reducible refine gateOp (op := .store 34 (.tmp 9) (.tmp 29)) rfl ?_); refine store_mach rfl _ _ rfl w2.heap.size rfl (trivM l) rfl 34 _ hS.out.m0 ?_; intro W1 p3 ho hsz hbl; replace hS := hid (hS.out.setM hle2.out p3 ho hbl); clear p3 ho hsz hbl))
      generalize w2.heap.size = b9 at *
      have hle3 := hid hS.out.le
      have hS0 := hS
      replace hS := hid (hz2.out _ _ hS.out)
      have hld := hid hS0.out.m0
      clear hS0
      go_upto_region 8 with (first
        | ((with_reducible refine gate (N := 30) rfl ?_); refine load_mach rfl _ rfl b9 rfl (trivM l) hld.out ?_)
        | ((with_reducible refine gateOp (op := .store 34 (.tmp 10) (.tmp 30)) rfl ?_); refine store_mach rfl _ _ rfl W1.heap.size rfl (trivM l) rfl 34 _ hS.out.m0 ?_; intro W2 p3 ho hsz hbl; replace hS := hid (hS.out.setM hle3.out p3 ho hbl); clear p3 ho hsz hbl hld))
      generalize W1.heap.size = b10 at *
      go_wp2
      go_loopw [11] (fun i wr => ∃ (c f : Nat) (now : Mach) (sN : Nat), i = .int .i64 c ∧ c + f = n + 1 ∧ Hid (Good now l sN) ∧ Hid (ans = ordGo m l s q f c now) ∧ St w.heap.size w [Asn.mb 34 b10 now, Asn.mb 34 b9 (trivM l), Asn.mb 34 w.heap.size m] wr) (fun i _ => n + 1 - (intOf i).toNat)
      case atStart => exact ⟨1, n, _, _, rfl, Nat.add_comm _ _, htg, hans, hS.out⟩
      case round =>
        obtain ⟨c, f, now, sN, rfl, hcf, gN, ha, rS⟩ := hrel
        clear hS hans
        replace rS := hid rS
        rcases f with _ | f
        · have dc : decide ((c : Int) ≤ (n : Int)) = false := decide_eq_false (by omega)
          have hA := hid (show ans = (0, 4) from ha.out)
          go_wp2
          go_ret2
          exact ⟨by first | (rw [hA.out]; done) | (rw [hA.out]; rfl), rS.out.bel⟩
        · have dc : decide ((c : Int) ≤ (n : Int)) = true := decide_eq_true (by omega)
          have hpn := hid (fun W => hpr.out W now sN gN.out)
          rcases hnc.out now sN gN.out with ⟨h3, hB⟩ | ⟨h0, hB, s2, g2, k2⟩
          · have hA := hid (show ans = (0, 3) from ha.out.trans (ordGo_3 h3))
            rw [hB] at hpn
            clear h3 hB ha
            generalize nextM m l s q now = nx at *
            go_wp2_with (first
              | ((with_reducible refine gate (N := 37) rfl ?_); refine load_mach rfl _ rfl b10 rfl now rS.out.m0 ?_)
              | ((with_reducible refine gate (N := 38) rfl ?_); refine load_mach rfl _ rfl w.heap.size rfl m rS.out.m2 ?_)
              | (go_at_call 69; (with_reducible refine (hpn.out _).mono ?_); rintro e w3 ⟨rfl, hb⟩; have hle5 := hid (rS.out.call hb).le; replace rS := hid (hz2.out _ _ (rS.out.call hb)); clear hb hpn)
              | ((with_reducible refine gateOp (op := .store 34 (.tmp 12) (.tmp 41)) rfl ?_); refine store_mach rfl _ _ rfl w3.heap.size rfl nx rfl 34 _ rS.out.m0 ?_; intro W5 p3 ho hsz hbl; replace rS := hid (rS.out.setM hle5.out p3 ho hbl); clear p3 ho hsz hbl)
              | ((with_reducible refine gate (N := 45) rfl ?_); refine load_mach rfl _ rfl w3.heap.size rfl nx rS.out.m0 ?_)
              | ((with_reducible refine gate (N := 46) rfl ?_); refine load_mach rfl _ rfl b9 rfl (trivM l) rS.out.m2 ?_))
            go_ret2
            exact ⟨by first | (rw [hA.out]; done) | (rw [hA.out]; rfl), rS.out.bel⟩
          · obtain ⟨b, hb, heq⟩ := heqt.out _ _ g2 k2
            rw [hB] at hpn
            cases b with
            | true =>
              have hA := hid (show ans = ((c : Int), 0) from ha.out.trans (ordGo_t h0 (hb.out.1 rfl)))
              clear h0 hB ha hb g2 k2
              generalize nextM m l s q now = nx at *
              go_wp2_with (first
                | ((with_reducible refine gate (N := 37) rfl ?_); refine load_mach rfl _ rfl b10 rfl now rS.out.m0 ?_)
                | ((with_reducible refine gate (N := 38) rfl ?_); refine load_mach rfl _ rfl w.heap.size rfl m rS.out.m2 ?_)
                | (go_at_call 69; (with_reducible refine (hpn.out _).mono ?_); rintro e w3 ⟨rfl, hb⟩; have hle5 := hid (rS.out.call hb).le; replace rS := hid (hz2.out _ _ (rS.out.call hb)); clear hb hpn)
                | ((with_reducible refine gateOp (op := .store 34 (.tmp 12) (.tmp 41)) rfl ?_); refine store_mach rfl _ _ rfl w3.heap.size rfl nx rfl 34 _ rS.out.m0 ?_; intro W5 p3 ho hsz hbl; replace rS := hid (rS.out.setM hle5.out p3 ho hbl); clear p3 ho hsz hbl)
                | ((with_reducible refine gate (N := 45) rfl ?_); refine load_mach rfl _ rfl w3.heap.size rfl nx rS.out.m0 ?_)
                | ((with_reducible refine gate (N := 46) rfl ?_); refine load_mach rfl _ rfl b9 rfl (trivM l) rS.out.m2 ?_))
              go_ret2
              exact ⟨by first | (rw [hA.out]; done) | (rw [hA.out]; rfl), rS.out.bel⟩
            | false =>
              have hA := hid (ha.out.trans (ordGo_n h0 (fun h => by have := hb.out.2 h; cases this)))
              replace g2 := hid g2
              clear h0 hB ha hb k2
              generalize nextM m l s q now = nx at *
              go_wp2_with (first
                | ((with_reducible refine gate (N := 37) rfl ?_); refine load_mach rfl _ rfl b10 rfl now rS.out.m0 ?_)
                | ((with_reducible refine gate (N := 38) rfl ?_); refine load_mach rfl _ rfl w.heap.size rfl m rS.out.m2 ?_)
                | (go_at_call 69; (with_reducible refine (hpn.out _).mono ?_); rintro e w3 ⟨rfl, hb⟩; have hle5 := hid (rS.out.call hb).le; replace rS := hid (hz2.out _ _ (rS.out.call hb)); clear hb hpn)
                | ((with_reducible refine gateOp (op := .store 34 (.tmp 12) (.tmp 41)) rfl ?_); refine store_mach rfl _ _ rfl w3.heap.size rfl nx rfl 34 _ rS.out.m0 ?_; intro W5 p3 ho hsz hbl; replace rS := hid (rS.out.setM hle5.out p3 ho hbl); clear p3 ho hsz hbl)
                | ((with_reducible refine gate (N := 45) rfl ?_); refine load_mach rfl _ rfl w3.heap.size rfl nx rS.out.m0 ?_)
                | ((with_reducible refine gate (N := 46) rfl ?_); refine load_mach rfl _ rfl b9 rfl (trivM l) rS.out.m2 ?_)
                | ((with_reducible refine gate (N := 49) rfl ?_); refine load_mach rfl _ rfl w3.heap.size rfl nx rS.out.m0 ?_)
                | ((with_reducible refine gateOp (op := .store 34 (.tmp 10) (.tmp 49)) rfl ?_); refine store_mach rfl _ _ rfl b10 rfl nx rfl 34 _ rS.out.m1 ?_; intro W6 p3 ho hsz hbl; replace rS := hid (rS.out.drop.setM hle3.out p3 ho hbl); clear p3 ho hsz hbl))
              go_roundw
              case rel => exact ⟨c + 1, f, nx, s2, by go_num, by omega, g2, hA, rS.out⟩
              case measure => simp [intOf]; omega
    · rw [obpAns_r h hn]
      have hw := hid (show false = decide (1 ≤ n ∧ n ≤ 16) from (decide_eq_false hn).symm)
      rw [h] at hcode
      replace hkm := hid hkm; clear h hn; replace g := hid g
      go_enter Try.func24, Try.ntmps24
      go_wp2_with (first
        | ((with_reducible refine gate (N := 14) rfl ?_); refine load_mach rfl _ rfl w.heap.size rfl m hS.out.m0 ?_)
        | (go_at_call 67; (with_reducible refine (hcode.out _).mono ?_); rintro e w1 ⟨rfl, hb⟩; replace hS := hid (hS.out.call hb); clear hb hcode)
        | (go_at_call 58; (with_reducible refine (l01In_any n 1 16 false hw.out _).mono ?_); rintro e w' ⟨rfl, rfl⟩))
      go_ret2
      exact ⟨rfl, hS.out.bel⟩
end Go.Proofs.Ythempofohidlnaa

/- Products of lists of states: the program's productOf. -/
namespace Go.Proofs.Ythempofohidlnaa
open Go.RowKit
set_option linter.unusedVariables false
set_option linter.unusedSimpArgs false

/-- The product of a list, from what has been made: fs i is (machine, its states, the state). -/
def chn (fs : Nat → Mach × Nat × Nat) (l : Nat) : Nat → Nat → Mach → Mach × Int
  | 0, _, now => (now, 0)
  | f + 1, i, now => if nextC (fs i).1 l (fs i).2.1 (fs i).2.2 now = 0 then chn fs l f (i + 1) (nextM (fs i).1 l (fs i).2.1 (fs i).2.2 now) else (⟨0, 0, fun _ => 0, fun _ => 0⟩, 3)
theorem chn_3 {fs : Nat → Mach × Nat × Nat} {l f i : Nat} {now : Mach} (h : nextC (fs i).1 l (fs i).2.1 (fs i).2.2 now = 3) : chn fs l (f + 1) i now = (⟨0, 0, fun _ => 0, fun _ => 0⟩, 3) := by
  unfold chn; rw [h, if_neg (by decide)]
theorem chn_0 {fs : Nat → Mach × Nat × Nat} {l f i : Nat} {now : Mach} (h : nextC (fs i).1 l (fs i).2.1 (fs i).2.2 now = 0) : chn fs l (f + 1) i now = chn fs l f (i + 1) (nextM (fs i).1 l (fs i).2.1 (fs i).2.2 now) := by
  conv => lhs; unfold chn
  rw [if_pos h]

theorem sz_factor : (Try.prog.info? 88).map (·.size) = some 2 := by kernel_rfl
set_option maxHeartbeats 4000000 in
set_option maxRecDepth 4000 in
theorem productOf_any (w : World) (g cap n l : Nat) (fs : Nat → Mach × Nat × Nat) (bs : Nat → Nat) (l2 : 2 ≤ l) (l3 : l ≤ 3) (hn : n ≤ 1000)
    (hrd : ∀ W, Below w.heap.size w W → ∀ i, i < n → W.rangeAt g (i * 2) [.pointer (some ⟨bs i, 0, none⟩), .int .i64 ((fs i).2.2 : Nat)] ∧ MB W 34 (bs i) (fs i).1)
    (hgd : ∀ i, i < n → Good (fs i).1 l (fs i).2.1 ∧ (fs i).2.2 < (fs i).2.1) :
    Calls Try.prog 74 #[.int .i64 l, .slice (some ⟨g, 0, none⟩) n cap] w fun e w' => e = .returned (.tuple #[.agg (mcells (chn fs l n 0 (trivM l)).1), .int .i64 (chn fs l n 0 (trivM l)).2]) ∧ Below w.heap.size w w' := by
  have hz := zero_mach
  have hS := hid ((St.start w).newMB ⟨0, 0, fun _ => 0, fun _ => 0⟩ 34)
  replace hrd := hid hrd
  replace hgd := hid hgd
  have htr := hid (fun W => trivialMachine_any W l l3)
  have hpr := hid (fun i (hi : i < n) b W now sN (gN : Good now l sN) hb hm => (by have h := product_any b (bs i) W now (fs i).1 hb hm l sN (fs i).2.1 gN (hgd.out i hi).1 0 (fs i).2.2 gN.s1 (hgd.out i hi).2; rw [(next_M (fs i).1 l (fs i).2.1 (fs i).2.2 now sN gN).1, (next_M (fs i).1 l (fs i).2.1 (fs i).2.2 now sN gN).2] at h; exact h : Calls Try.prog 71 #[.pointer (some ⟨b, 0, none⟩), .int .i64 0, .pointer (some ⟨bs i, 0, none⟩), .int .i64 ((fs i).2.2 : Nat)] W fun e w' => e = .returned (.tuple #[.agg (mcells (nextM (fs i).1 l (fs i).2.1 (fs i).2.2 now)), .int .i64 (nextC (fs i).1 l (fs i).2.1 (fs i).2.2 now)]) ∧ Below W.heap.size W w'))
  have hnc := hid (fun i (hi : i < n) now sN gN => next_cases (fs i).1 l (fs i).2.1 (fs i).2.2 (hgd.out i hi).2 (hgd.out i hi).1 now sN gN)
  have htg := hid (trivM_good l l2 l3)
  have hz2 := hid (fun L W (h : St w.heap.size w L W) => h.newMB ⟨0, 0, fun _ => 0, fun _ => 0⟩ 34)
  obtain ⟨ans, hans⟩ : ∃ a, a = chn fs l n 0 (trivM l) := ⟨_, rfl⟩
  rw [← hans]
  replace hans := hid hans
  generalize hzs : mcells ⟨0, 0, fun _ => 0, fun _ => 0⟩ = zs at *
  replace hzs := hid hzs
  go_enter Try.func74, Try.ntmps74
  go_upto_region 2 with (first
    | (go_at_call 70; (with_reducible refine (htr.out _).mono ?_); rintro e w2 ⟨rfl, hb⟩; have hle2 := hid (hS.out.call hb).le; replace hS := hid (hz2.out _ _ (hS.out.call hb)); clear hb)
    | ((with_reducible refine gateOp (op := .store 34 (.tmp 6) (.tmp 11)) rfl ?_); refine store_mach rfl _ _ rfl w2.heap.size rfl (trivM l) rfl 34 _ hS.out.m0 ?_; intro W1 p3 ho hsz hbl; replace hS := hid (hS.out.setM hle2.out p3 ho hbl); clear p3 ho hsz hbl))
  generalize w2.heap.size = b6 at *
  go_wp2
  go_loopw [14] (fun j wr => ∃ (i f : Nat) (now : Mach) (sN : Nat), j = .int .i64 i ∧ i + f = n ∧ Hid (Good now l sN) ∧ Hid (ans = chn fs l f i now) ∧ St w.heap.size w [Asn.mb 34 b6 now, Asn.mb 34 w.heap.size ⟨0, 0, fun _ => 0, fun _ => 0⟩] wr) (fun j _ => n - (intOf j).toNat)
  case atStart => exact ⟨0, n, _, _, rfl, Nat.zero_add _, htg, hans, hS.out⟩
  case round =>
    obtain ⟨i, f, now, sN, rfl, hcf, gN, ha, rS⟩ := hrel
    clear hS hans
    replace rS := hid rS
    rcases f with _ | f
    · have dc : decide ((i : Int) < (n : Int)) = false := decide_eq_false (by omega)
      have hA := hid (show ans = (now, 0) from ha.out)
      go_wp2_with (first
        | ((with_reducible refine gate (N := 31) rfl ?_); refine load_mach rfl _ rfl b6 rfl now rS.out.m0 ?_)
        | ((with_reducible refine gateOp (op := .store 34 (.tmp 4) (.tmp 31)) rfl ?_); refine store_mach rfl _ _ rfl w.heap.size rfl now rfl 34 _ rS.out.m1 ?_; intro W3 p2 ho hsz hbl; have pB := hid (hbl _ _ (Nat.le_refl _) rS.out.bel); replace p2 := hid p2; clear ho hsz hbl))
      exact ret_mach_i rfl rfl rfl p2.out rfl ⟨by rw [hA.out], pB.out⟩
    · have dc : decide ((i : Int) < (n : Int)) = true := decide_eq_true (by omega)
      have hin : i < n := by omega
      have i0 : (0 : Int) ≤ (i : Int) := Int.natCast_nonneg _
      have i1 : (i : Int) < (n : Int) := by omega
      have rg := hid (hrd.out _ rS.out.bel i hin).1
      have hmb := hid (fun W hW => (hrd.out W hW i hin).2)
      have hpn := hid (fun W hb hm => hpr.out i hin b6 W now sN gN.out hb hm)
      have hle6 := hid (show w.heap.size ≤ b6 from hle2.out)
      rcases hnc.out i hin now sN gN.out with ⟨h3, hB⟩ | ⟨h0, hB, s2, g2, k2⟩
      · have hA := hid (show ans = _ from ha.out.trans (chn_3 h3))
        rw [h3] at hpn
        clear h3 hB ha
        generalize nextM (fs i).1 l (fs i).2.1 (fs i).2.2 now = nx at *
        generalize (fs i).2.2 = qi at *
        generalize bs i = bi at *
        go_wp2_with (first
          | ((with_reducible refine gate (N := 17) rfl ?_); refine wpList_load_mid rfl 88 _ rfl g (i * 2) rfl _ _ rg.out Try.underlying88 rfl sz_factor ?_; replace rS := hid (rS.out.newBlk #[.pointer (some ⟨bi, 0, none⟩), .int .i64 (qi : Int)] 88); clear rg)
          | (go_at_call 71; (with_reducible refine (hpn.out _ rS.out.m1 (hmb.out _ rS.out.bel)).mono ?_); rintro e w3 ⟨rfl, hb⟩; replace rS := hid (rS.out.call hb).drop; clear hb hpn)
          | ((with_reducible refine gateOp (op := .store 34 (.tmp 6) (.tmp 24)) rfl ?_); refine store_mach rfl _ _ rfl b6 rfl nx rfl 34 _ rS.out.m0 ?_; intro W5 p3 ho hsz hbl; replace rS := hid (rS.out.setM hle6.out p3 ho hbl); clear p3 ho hsz hbl)
          | ((with_reducible refine gate (N := 28) rfl ?_); refine build_zero rfl rfl ?_)
          | ((with_reducible refine gateOp (op := .store 34 (.tmp 4) (.tmp 28)) rfl ?_); refine store_mach rfl _ _ rfl w.heap.size rfl ⟨0, 0, fun _ => 0, fun _ => 0⟩ rfl 34 _ rS.out.m1 ?_; intro W3 p2 ho hsz hbl; have pB := hid (hbl _ _ (Nat.le_refl _) rS.out.bel); replace p2 := hid p2; clear ho hsz hbl))
        exact ret_mach_i rfl rfl rfl p2.out rfl ⟨by rw [hA.out], pB.out⟩
      · have hA := hid (ha.out.trans (chn_0 h0))
        replace g2 := hid g2
        rw [h0] at hpn
        clear h0 hB ha k2
        generalize nextM (fs i).1 l (fs i).2.1 (fs i).2.2 now = nx at *
        generalize (fs i).2.2 = qi at *
        generalize bs i = bi at *
        go_wp2_with (first
          | ((with_reducible refine gate (N := 17) rfl ?_); refine wpList_load_mid rfl 88 _ rfl g (i * 2) rfl _ _ rg.out Try.underlying88 rfl sz_factor ?_; replace rS := hid (rS.out.newBlk #[.pointer (some ⟨bi, 0, none⟩), .int .i64 (qi : Int)] 88); clear rg)
          | (go_at_call 71; (with_reducible refine (hpn.out _ rS.out.m1 (hmb.out _ rS.out.bel)).mono ?_); rintro e w3 ⟨rfl, hb⟩; replace rS := hid (rS.out.call hb).drop; clear hb hpn)
          | ((with_reducible refine gateOp (op := .store 34 (.tmp 6) (.tmp 24)) rfl ?_); refine store_mach rfl _ _ rfl b6 rfl nx rfl 34 _ rS.out.m0 ?_; intro W5 p3 ho hsz hbl; replace rS := hid (rS.out.setM hle6.out p3 ho hbl); clear p3 ho hsz hbl))
        go_roundw
        case rel => exact ⟨i + 1, f, nx, s2, by go_num, by omega, g2, hA, rS.out⟩
        case measure => simp [intOf]; omega
end Go.Proofs.Ythempofohidlnaa

/- Powers: the reference's l07Power. -/
namespace Go.Proofs.Ythempofohidlnaa
open Go.RowKit
set_option linter.unusedVariables false
set_option linter.unusedSimpArgs false

/-- The machine whose powers are made. -/
def powB (m : Mach) (l s : Nat) (n : Int) : Mach := if n < 0 then inv m l s else m
theorem powB_good {m : Mach} {l s : Nat} (g : Good m l s) (n : Int) : Good (powB m l s n) l s := by
  unfold powB; split
  · exact inv_good g
  · exact g
/-- A power. -/
def powR (m : Mach) (l s q : Nat) (n : Int) : Mach × Int := chn (fun _ => (powB m l s n, s, q)) l n.natAbs 0 (trivM l)

set_option maxHeartbeats 8000000 in
set_option maxRecDepth 4000 in
theorem l07Power_any (w : World) (m : Mach) (hk : m.Ok) (l s q : Nat) (g : Good m l s) (hq : q < s) (n : Int) (hn : -16 ≤ n ∧ n ≤ 16) :
    Calls Try.prog 76 #[.agg (mcells m), .int .i64 q, .int .i64 n] w fun e w' => e = .returned (.tuple #[.agg (mcells (powR m l s q n).1), .bool (decide ((powR m l s q n).2 = 0))]) ∧ Below w.heap.size w w' := by
  have hz := zero_mach
  have hS := hid (((St.start w).newMB m 34).newMB ⟨0, 0, fun _ => 0, fun _ => 0⟩ 34)
  rw [heap_alloc_size] at hS
  have l2 := g.l2; have l3 := g.l3
  have gB := powB_good g n
  have gL := hid gB.L
  have htr := hid (fun W => l07Trivial_any W l l3)
  have hpr := hid (fun W now sN (gN : Good now l sN) => (by have h := l07Product_any W now (powB m l s n) l sN s gN gB 0 q gN.s1 hq; rw [(next_M (powB m l s n) l s q now sN gN).1] at h; exact h : Calls Try.prog 69 #[.agg (mcells now), .int .i64 0, .agg (mcells (powB m l s n)), .int .i64 (q : Nat)] W fun e w' => e = .returned (.tuple #[.agg (mcells (nextM (powB m l s n) l s q now)), .bool (fromB (prodT now (powB m l s n) l sN s) (0 * s + q))]) ∧ Below W.heap.size W w'))
  have hnc := hid (next_cases (powB m l s n) l s q hq gB)
  have htg := hid (trivM_good l l2 l3)
  have hz2 := hid (fun L W (h : St w.heap.size w L W) => h.newMB ⟨0, 0, fun _ => 0, fun _ => 0⟩ 34)
  have hin := hid (fun W => l01Inverse_any W m l s g hk)
  have hans : powR m l s q n = chn (fun _ => (powB m l s n, s, q)) l n.natAbs 0 (trivM l) := rfl
  generalize powR m l s q n = ans at *
  clear g gB hk
  generalize hzs : mcells ⟨0, 0, fun _ => 0, fun _ => 0⟩ = zs at *
  replace hzs := hid hzs
  by_cases hneg : n < 0
  · have hB : powB m l s n = inv m l s := if_pos hneg
    rw [hB] at hpr hnc hans gL
    have hn0 : decide (n < 0) = true := decide_eq_true hneg
    clear hB
    obtain ⟨f0, hf0⟩ : ∃ f0 : Nat, -n = f0 := ⟨n.natAbs, by omega⟩
    have e0 : n.natAbs = f0 := by omega
    have e1 : IntKind.i64.wrap (-n) = (f0 : Int) := by rw [hf0]; exact IntWalk.i64_in _ (by omega)
    rw [e0] at hans
    have h16 : f0 ≤ 16 := by omega
    clear e0 hneg
    replace hans := hid hans
    replace hf0 := hid hf0
    go_enter Try.func76, Try.ntmps76
    go_upto_region 4 with (first
      | ((with_reducible refine gate (N := 13) rfl ?_); refine load_mach rfl _ rfl w.heap.size rfl m hS.out.m1 ?_)
      | (go_at_call 72; (with_reducible refine (hin.out _).mono ?_); rintro e w1 ⟨rfl, hb⟩; replace hS := hid (hS.out.call hb).f1; clear hb hin)
      | ((with_reducible refine gateOp (op := .store 34 (.tmp 3) (.tmp 14)) rfl ?_); refine store_mach rfl _ _ rfl w.heap.size rfl (inv m l s) rfl 34 _ hS.out.m0 ?_; intro W1 p3 ho hsz hbl; replace hS := hid (hS.out.setM (Nat.le_refl _) p3 ho hbl).f1; clear p3 ho hsz hbl))
    have cL := hS.out.m1.cL
    rw [gL.out] at cL
    go_wp2_with (first
      | (go_at_call 68; (with_reducible refine (htr.out _).mono ?_); rintro e w2 ⟨rfl, hb⟩; have hle2 := hid (hS.out.call hb).le; replace hS := hid (hz2.out _ _ (hS.out.call hb)); clear hb cL)
      | ((with_reducible refine gateOp (op := .store 34 (.tmp 8) (.tmp 19)) rfl ?_); refine store_mach rfl _ _ rfl w2.heap.size rfl (trivM l) rfl 34 _ hS.out.m0 ?_; intro W2 p3 ho hsz hbl; replace hS := hid (hS.out.setM hle2.out p3 ho hbl); clear p3 ho hsz hbl))
    generalize w2.heap.size = b8 at *
    simp only [Act.put]
    go_loopw [2] (fun j wr => ∃ (i f : Nat) (now : Mach) (sN : Nat), j = .int .i64 f ∧ i + f = f0 ∧ Hid (Good now l sN) ∧ Hid (ans = chn (fun _ => ((inv m l s), s, q)) l f i now) ∧ St w.heap.size w [Asn.mb 34 b8 now, Asn.mb 34 (w.heap.size + 1) ⟨0, 0, fun _ => 0, fun _ => 0⟩, Asn.mb 34 w.heap.size (inv m l s)] wr) (fun j _ => (intOf j).toNat)
    case atStart => exact ⟨0, f0, _, _, rfl, Nat.zero_add _, htg, hans, hS.out⟩
    case round =>
      obtain ⟨i, f, now, sN, rfl, hcf, gN, ha, rS⟩ := hrel
      clear hS hans
      replace rS := hid rS
      have hle6 := hid (show w.heap.size ≤ b8 from hle2.out)
      rcases f with _ | f
      · have hA := hid (show ans = (now, 0) from ha.out)
        go_wp2_with (first
          | ((with_reducible refine gate (N := 35) rfl ?_); refine load_mach rfl _ rfl b8 rfl now rS.out.m0 ?_)
          | ((with_reducible refine gateOp (op := .store 34 (.tmp 6) (.tmp 35)) rfl ?_); refine store_mach rfl _ _ rfl (w.heap.size + 1) rfl now rfl 34 _ rS.out.m1 ?_; intro W3 p2 ho hsz hbl; have pB := hid (hbl _ _ (Nat.le_succ _) rS.out.bel); replace p2 := hid p2; clear ho hsz hbl))
        exact ret_mach_v rfl rfl rfl p2.out rfl ⟨by rw [hA.out]; rfl, pB.out⟩
      · have dc : decide ((0 : Int) < ((f + 1 : Nat) : Int)) = true := decide_eq_true (by omega)
        have hpn := hid (fun W => hpr.out W now sN gN.out)
        rcases hnc.out now sN gN.out with ⟨h3, hB⟩ | ⟨h0, hB, s2, g2, k2⟩
        · have hA := hid (show ans = _ from ha.out.trans (chn_3 h3))
          rw [hB] at hpn
          clear h3 hB ha
          generalize nextM (inv m l s) l s q now = nx at *
          go_wp2_with (first
            | ((with_reducible refine gate (N := 25) rfl ?_); refine load_mach rfl _ rfl b8 rfl now rS.out.m0 ?_)
            | ((with_reducible refine gate (N := 26) rfl ?_); refine load_mach rfl _ rfl w.heap.size rfl (inv m l s) rS.out.m2 ?_)
            | (go_at_call 69; (with_reducible refine (hpn.out _).mono ?_); rintro e w3 ⟨rfl, hb⟩; have hle5 := hid (rS.out.call hb).le; replace rS := hid (hz2.out _ _ (rS.out.call hb)); clear hb hpn)
            | ((with_reducible refine gateOp (op := .store 34 (.tmp 9) (.tmp 29)) rfl ?_); refine store_mach rfl _ _ rfl w3.heap.size rfl nx rfl 34 _ rS.out.m0 ?_; intro W5 p3 ho hsz hbl; replace rS := hid (rS.out.setM hle5.out p3 ho hbl); clear p3 ho hsz hbl)
            | ((with_reducible refine gate (N := 33) rfl ?_); refine build_zero rfl rfl ?_)
            | ((with_reducible refine gateOp (op := .store 34 (.tmp 6) (.tmp 33)) rfl ?_); refine store_mach rfl _ _ rfl (w.heap.size + 1) rfl ⟨0, 0, fun _ => 0, fun _ => 0⟩ rfl 34 _ rS.out.m2 ?_; intro W3 p2 ho hsz hbl; have pB := hid (hbl _ _ (Nat.le_succ _) rS.out.bel); replace p2 := hid p2; clear ho hsz hbl))
          exact ret_mach_v rfl rfl rfl p2.out rfl ⟨by rw [hA.out]; rfl, pB.out⟩
        · have hA := hid (ha.out.trans (chn_0 h0))
          replace g2 := hid g2
          rw [hB] at hpn
          clear h0 hB ha k2
          have hsub := hid (show ((f + 1 : Nat) : Int) - 1 = (f : Int) by omega)
          generalize nextM (inv m l s) l s q now = nx at *
          go_wp2_with (first
            | ((with_reducible refine gate (N := 25) rfl ?_); refine load_mach rfl _ rfl b8 rfl now rS.out.m0 ?_)
            | ((with_reducible refine gate (N := 26) rfl ?_); refine load_mach rfl _ rfl w.heap.size rfl (inv m l s) rS.out.m2 ?_)
            | (go_at_call 69; (with_reducible refine (hpn.out _).mono ?_); rintro e w3 ⟨rfl, hb⟩; have hle5 := hid (rS.out.call hb).le; replace rS := hid (hz2.out _ _ (rS.out.call hb)); clear hb hpn)
            | ((with_reducible refine gateOp (op := .store 34 (.tmp 9) (.tmp 29)) rfl ?_); refine store_mach rfl _ _ rfl w3.heap.size rfl nx rfl 34 _ rS.out.m0 ?_; intro W5 p3 ho hsz hbl; replace rS := hid (rS.out.setM hle5.out p3 ho hbl); clear p3 ho hsz hbl)
            | ((with_reducible refine gate (N := 34) rfl ?_); refine load_mach rfl _ rfl w3.heap.size rfl nx rS.out.m0 ?_)
            | ((with_reducible refine gateOp (op := .store 34 (.tmp 8) (.tmp 34)) rfl ?_); refine store_mach rfl _ _ rfl b8 rfl nx rfl 34 _ rS.out.m1 ?_; intro W6 p3 ho hsz hbl; replace rS := hid (rS.out.drop.setM hle6.out p3 ho hbl); clear p3 ho hsz hbl))
          go_roundw
          case rel => exact ⟨i + 1, f, nx, s2, by go_num, by omega, g2, hA, rS.out⟩
          case measure => simp [intOf] <;> omega
  · have hB : powB m l s n = m := if_neg hneg
    rw [hB] at hpr hnc hans gL
    have hn0 : decide (n < 0) = false := decide_eq_false hneg
    clear hB
    obtain ⟨f0, hf0⟩ : ∃ f0 : Nat, n = f0 := ⟨n.natAbs, by omega⟩
    have e0 : n.natAbs = f0 := by omega
    rw [e0] at hans
    have h16 : f0 ≤ 16 := by omega
    clear e0 hneg
    subst hf0
    replace hans := hid hans
    go_enter Try.func76, Try.ntmps76
    go_upto_region 4 with (fail)
    have cL := hS.out.m1.cL
    rw [gL.out] at cL
    go_wp2_with (first
      | (go_at_call 68; (with_reducible refine (htr.out _).mono ?_); rintro e w2 ⟨rfl, hb⟩; have hle2 := hid (hS.out.call hb).le; replace hS := hid (hz2.out _ _ (hS.out.call hb)); clear hb cL)
      | ((with_reducible refine gateOp (op := .store 34 (.tmp 8) (.tmp 19)) rfl ?_); refine store_mach rfl _ _ rfl w2.heap.size rfl (trivM l) rfl 34 _ hS.out.m0 ?_; intro W2 p3 ho hsz hbl; replace hS := hid (hS.out.setM hle2.out p3 ho hbl); clear p3 ho hsz hbl))
    generalize w2.heap.size = b8 at *
    simp only [Act.put]
    go_loopw [2] (fun j wr => ∃ (i f : Nat) (now : Mach) (sN : Nat), j = .int .i64 f ∧ i + f = f0 ∧ Hid (Good now l sN) ∧ Hid (ans = chn (fun _ => (m, s, q)) l f i now) ∧ St w.heap.size w [Asn.mb 34 b8 now, Asn.mb 34 (w.heap.size + 1) ⟨0, 0, fun _ => 0, fun _ => 0⟩, Asn.mb 34 w.heap.size m] wr) (fun j _ => (intOf j).toNat)
    case atStart => exact ⟨0, f0, _, _, rfl, Nat.zero_add _, htg, hans, hS.out⟩
    case round =>
      obtain ⟨i, f, now, sN, rfl, hcf, gN, ha, rS⟩ := hrel
      clear hS hans
      replace rS := hid rS
      have hle6 := hid (show w.heap.size ≤ b8 from hle2.out)
      rcases f with _ | f
      · have hA := hid (show ans = (now, 0) from ha.out)
        go_wp2_with (first
          | ((with_reducible refine gate (N := 35) rfl ?_); refine load_mach rfl _ rfl b8 rfl now rS.out.m0 ?_)
          | ((with_reducible refine gateOp (op := .store 34 (.tmp 6) (.tmp 35)) rfl ?_); refine store_mach rfl _ _ rfl (w.heap.size + 1) rfl now rfl 34 _ rS.out.m1 ?_; intro W3 p2 ho hsz hbl; have pB := hid (hbl _ _ (Nat.le_succ _) rS.out.bel); replace p2 := hid p2; clear ho hsz hbl))
        exact ret_mach_v rfl rfl rfl p2.out rfl ⟨by rw [hA.out]; rfl, pB.out⟩
      · have dc : decide ((0 : Int) < ((f + 1 : Nat) : Int)) = true := decide_eq_true (by omega)
        have hpn := hid (fun W => hpr.out W now sN gN.out)
        rcases hnc.out now sN gN.out with ⟨h3, hB⟩ | ⟨h0, hB, s2, g2, k2⟩
        · have hA := hid (show ans = _ from ha.out.trans (chn_3 h3))
          rw [hB] at hpn
          clear h3 hB ha
          generalize nextM m l s q now = nx at *
          go_wp2_with (first
            | ((with_reducible refine gate (N := 25) rfl ?_); refine load_mach rfl _ rfl b8 rfl now rS.out.m0 ?_)
            | ((with_reducible refine gate (N := 26) rfl ?_); refine load_mach rfl _ rfl w.heap.size rfl m rS.out.m2 ?_)
            | (go_at_call 69; (with_reducible refine (hpn.out _).mono ?_); rintro e w3 ⟨rfl, hb⟩; have hle5 := hid (rS.out.call hb).le; replace rS := hid (hz2.out _ _ (rS.out.call hb)); clear hb hpn)
            | ((with_reducible refine gateOp (op := .store 34 (.tmp 9) (.tmp 29)) rfl ?_); refine store_mach rfl _ _ rfl w3.heap.size rfl nx rfl 34 _ rS.out.m0 ?_; intro W5 p3 ho hsz hbl; replace rS := hid (rS.out.setM hle5.out p3 ho hbl); clear p3 ho hsz hbl)
            | ((with_reducible refine gate (N := 33) rfl ?_); refine build_zero rfl rfl ?_)
            | ((with_reducible refine gateOp (op := .store 34 (.tmp 6) (.tmp 33)) rfl ?_); refine store_mach rfl _ _ rfl (w.heap.size + 1) rfl ⟨0, 0, fun _ => 0, fun _ => 0⟩ rfl 34 _ rS.out.m2 ?_; intro W3 p2 ho hsz hbl; have pB := hid (hbl _ _ (Nat.le_succ _) rS.out.bel); replace p2 := hid p2; clear ho hsz hbl))
          exact ret_mach_v rfl rfl rfl p2.out rfl ⟨by rw [hA.out]; rfl, pB.out⟩
        · have hA := hid (ha.out.trans (chn_0 h0))
          replace g2 := hid g2
          rw [hB] at hpn
          clear h0 hB ha k2
          have hsub := hid (show ((f + 1 : Nat) : Int) - 1 = (f : Int) by omega)
          generalize nextM m l s q now = nx at *
          go_wp2_with (first
            | ((with_reducible refine gate (N := 25) rfl ?_); refine load_mach rfl _ rfl b8 rfl now rS.out.m0 ?_)
            | ((with_reducible refine gate (N := 26) rfl ?_); refine load_mach rfl _ rfl w.heap.size rfl m rS.out.m2 ?_)
            | (go_at_call 69; (with_reducible refine (hpn.out _).mono ?_); rintro e w3 ⟨rfl, hb⟩; have hle5 := hid (rS.out.call hb).le; replace rS := hid (hz2.out _ _ (rS.out.call hb)); clear hb hpn)
            | ((with_reducible refine gateOp (op := .store 34 (.tmp 9) (.tmp 29)) rfl ?_); refine store_mach rfl _ _ rfl w3.heap.size rfl nx rfl 34 _ rS.out.m0 ?_; intro W5 p3 ho hsz hbl; replace rS := hid (rS.out.setM hle5.out p3 ho hbl); clear p3 ho hsz hbl)
            | ((with_reducible refine gate (N := 34) rfl ?_); refine load_mach rfl _ rfl w3.heap.size rfl nx rS.out.m0 ?_)
            | ((with_reducible refine gateOp (op := .store 34 (.tmp 8) (.tmp 34)) rfl ?_); refine store_mach rfl _ _ rfl b8 rfl nx rfl 34 _ rS.out.m1 ?_; intro W6 p3 ho hsz hbl; replace rS := hid (rS.out.drop.setM hle6.out p3 ho hbl); clear p3 ho hsz hbl))
          go_roundw
          case rel => exact ⟨i + 1, f, nx, s2, by go_num, by omega, g2, hA, rS.out⟩
          case measure => simp [intOf] <;> omega
end Go.Proofs.Ythempofohidlnaa

/- copy of elements of any size, between rows. -/
namespace Go.Proofs.Ythempofohidlnaa
open Go.RowKit
set_option linter.unusedVariables false
set_option linter.unusedSimpArgs false

/-- As many elements as the shorter of the two has go over, sz cells each. -/
theorem run_copy_N {P : Program} (w : World) (dT sT ty elem : TypeId) (sz g o dLen dCap : Nat) (a : Addr) (sLen sCap : Nat) (cur : Array Value) (t : TypeId) (cs : List Value)
    (hu : P.underlying dT = some (.slice elem)) (hs : (P.info? elem).map (·.size) = some sz)
    (hg : w.heap[g]? = some (.cells cur t (0, 0))) (hn : cs.length = Nat.min sLen dLen * sz)
    (hsrc : ∀ j v, cs[j]? = some v → w.cell? (a.add j) = some v) (hfit : o + cs.length ≤ cur.size) (h1 : ∀ v ∈ cs, v.oneCell' = true) :
    (Builtin.copy_ #[dT, sT] ty #[.slice (some ⟨g, o, none⟩) dLen dCap, .slice (some a) sLen sCap]).run P w =
      .ok (goInt (Nat.min sLen dLen)) (w.setRow g (cur.toList.take o ++ cs ++ cur.toList.drop (o + cs.length)).toArray) := by
  have hl := run_loadCells_list (P := P) w a cs hsrc
  have hst := run_storeCells_at P g o t cs 0 cur w hg (by simpa using hfit) h1
  cases hq : P.info? elem with
  | none => simp [hq] at hs
  | some i =>
    have hi : i.size = sz := by simpa [hq] using hs
    rw [hn] at hl
    simp [Builtin.copy_, run_underlying hu, Builtin.lenOf, Builtin.firstCells, sizeOf, typeInfo, hq, hi, hl, hst]

/-- .. as a law for the walk. -/
theorem wpList_copy_N {P : Program} {w : World} {ops : Array Oper} {rest : List Oper} {o : Oper} {a : Act} {Q : Exit → Act → World → Prop} (hgd : o.guard = none) (d s : Operand) (dT sT : TypeId)
    (ho : o.op = .call { callee := .builtin .copy, args := #[d, s], argTypes := #[dT, sT] }) (elem : TypeId) (sz : Nat) (hu : P.underlying dT = some (.slice elem)) (hsz : (P.info? elem).map (·.size) = some sz)
    (g off dLen dCap : Nat) (ad : Addr) (sLen sCap : Nat) (hd : a.eval d = .slice (some ⟨g, off, none⟩) dLen dCap) (hs : a.eval s = .slice (some ad) sLen sCap)
    (cur : List Value) (t : TypeId) (hg : w.heap[g]? = some (.cells cur.toArray t (0, 0))) (cs : List Value) (hn : cs.length = Nat.min sLen dLen * sz)
    (hsrc : ∀ j v, cs[j]? = some v → w.cell? (ad.add j) = some v) (hfit : off + cs.length ≤ cur.length) (h1 : ∀ v ∈ cs, v.oneCell' = true)
    (h : wpList P ops Q rest (a.put o.dst (goInt (Nat.min sLen dLen))) (w.setRow g (splice cur off cs).toArray)) : wpList P ops Q (o :: rest) a w := by
  refine wpList_plain hgd fun K hK => ?_
  have hrun := run_copy_N (P := P) w dT sT o.type elem sz g off dLen dCap ad sLen sCap cur.toArray t cs hu hsz hg hn hsrc (by simpa using hfit) h1
  unfold Oper.wp
  simp [execOp, ho, resolve, invoke, builtin, hd, hs, hrun, Result.andThen]
  have e : w.setRow g (splice cur off cs).toArray = w.setRow g (List.take off cur ++ (cs ++ List.drop (off + cs.length) cur)).toArray := rfl
  first
    | exact hK _ _ h
    | (rw [e] at h; simpa using hK _ _ h)
end Go.Proofs.Ythempofohidlnaa

/- bits.Mul at 1 and small numbers. -/
namespace Go.Proofs.Ythempofohidlnaa
open Go.RowKit
set_option linter.unusedVariables false
set_option linter.unusedSimpArgs false
set_option maxRecDepth 4000 in
theorem bitsMul64_small (w : World) (n : Nat) (hn : n ≤ 16) :
    Calls Try.prog 157 #[.int .u64 1, .int .u64 n] w fun e w' => e = .returned (.tuple #[.int .u64 0, .int .u64 n]) ∧ w = w' := by
  have h : n = 0 ∨ n = 1 ∨ n = 2 ∨ n = 3 ∨ n = 4 ∨ n = 5 ∨ n = 6 ∨ n = 7 ∨ n = 8 ∨ n = 9 ∨ n = 10 ∨ n = 11 ∨ n = 12 ∨ n = 13 ∨ n = 14 ∨ n = 15 ∨ n = 16 := by omega
  clear hn
  rcases h with rfl | rfl | rfl | rfl | rfl | rfl | rfl | rfl | rfl | rfl | rfl | rfl | rfl | rfl | rfl | rfl | rfl <;>
  · go_enter Try.func157, Try.ntmps157
    go_wp2
    go_ret2
    exact ⟨rfl, rfl⟩
theorem bitsMul_small (w : World) (n : Nat) (hn : n ≤ 16) :
    Calls Try.prog 128 #[.int .u64 1, .int .u64 n] w fun e w' => e = .returned (.tuple #[.int .u64 0, .int .u64 n]) ∧ w = w' := by
  have hm := hid (fun W => bitsMul64_small W n hn)
  have xn : (n : Int) % 18446744073709551616 = n := by omega
  clear hn
  go_enter Try.func128, Try.ntmps128
  go_wp2_with (first
    | (go_at_call 157; (with_reducible refine (hm.out _).mono ?_); rintro e w1 ⟨rfl, rfl⟩))
  go_ret2
  exact ⟨rfl, rfl⟩
end Go.Proofs.Ythempofohidlnaa
