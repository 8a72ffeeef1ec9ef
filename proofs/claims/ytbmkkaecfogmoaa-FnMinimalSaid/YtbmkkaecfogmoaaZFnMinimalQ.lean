/- What the proof of FnMinimal leans on, part 17 of 21. -/
import Derived.Test.YtbmkkaecfogmoaaZFnMinimalP
/- The machine of a text: the reference's l01Read. -/
namespace Go.Proofs.Ytbmkkaecfogmoaa
open Go.RowKit
set_option linter.unusedVariables false
set_option linter.unusedSimpArgs false
-- @LONG

/-- A text begins like a machine's. -/
def HeadOk (t : ByteArray) : Prop := 2 ≤ t.size ∧ bt t 1 = 58 ∧ (bt t 0 = 50 ∨ bt t 0 = 51)
/-- A part is that of a state. -/
def PartOk (L : Nat) (p : ByteArray) : Prop := p.size = 2 * L ∧ ∀ x, x < L → (48 ≤ bt p (2 * x) ∧ bt p (2 * x) ≤ 50) ∧ 97 ≤ bt p (2 * x + 1) ∧ bt p (2 * x + 1) ≤ 112
def bpt (ps : List ByteArray) (q : Nat) : ByteArray := ps.getD q { data := #[] }
def rdP (L : Nat) (ps : List ByteArray) (q x : Nat) : Mach := filP L ps.length (fun q x => bt (bpt ps q) (2 * x + 1) - 97) (fun q x => bt (bpt ps q) (2 * x) - 48) q x
/-- The machine of parts. -/
def rdM (L : Nat) (ps : List ByteArray) : Mach := rdP L ps ps.length 0
def rdS (t : ByteArray) : List ByteArray := splL (t.extract 2 t.size) 44
open Classical in
/-- What l01Read answers. -/
noncomputable def rdAns (t : ByteArray) : Mach × Bool :=
  if HeadOk t ∧ (rdS t).length ≤ 16 ∧ ∀ p ∈ rdS t, PartOk (bt t 0 - 48) p then (rdM (bt t 0 - 48) (rdS t), decide (IsM (rdM (bt t 0 - 48) (rdS t)))) else (zeroM, false)
theorem rdP_ok (L : Nat) (ps : List ByteArray) (q x : Nat) : (rdP L ps q x).Ok := filP_ok (fun q x => by have := bt_lt (bpt ps q) (2 * x + 1); omega) (fun q x => by have := bt_lt (bpt ps q) (2 * x); omega) q x
theorem zeroM_ok : zeroM.Ok := fun _ => ⟨by show 0 < 256; omega, by show 0 < 256; omega⟩
theorem rdAns_ok (t : ByteArray) : (rdAns t).1.Ok := by
  unfold rdAns; split
  · exact rdP_ok _ _ _ _
  · exact zeroM_ok
open Classical in
set_option maxHeartbeats 4000000 in
set_option maxRecDepth 100000 in
theorem l01Read_any (w : World) (t : ByteArray) (hs : t.size ≤ 100000) :
    Calls Try.prog 167 #[.string t] w fun e w' => e = .returned (.tuple #[.agg (mcells (rdAns t).1), .bool (rdAns t).2]) ∧ Below w.heap.size w w' := by
  have hz := zeroM_run
  have hS := hid ((St.start w).newMB zeroM 27)
  by_cases h2 : 2 ≤ t.size
  · have hb1 : (t[1]'(by omega)).toNat = bt t 1 := bt_eq (by omega)
    have hb0 : (t[0]'(by omega)).toNat = bt t 0 := bt_eq (by omega)
    by_cases h58 : bt t 1 = 58
    · by_cases h50 : bt t 0 = 50 ∨ bt t 0 = 51
      · rcases h50 with h50 | h50
        · have hq : bt t 0 - 48 = 2 := by omega
          have h50' : bt t 0 = 50 ∨ bt t 0 = 51 := .inl h50
          rw [h50] at hb0
          have hb0 : (t[0]'(by omega)).toNat = 50 := hb0
          have hH : HeadOk t := ⟨h2, h58, h50'⟩
          have hAf := hid (fun (h : ¬ ((rdS t).length ≤ 16 ∧ ∀ p ∈ rdS t, PartOk 2 p)) => (show rdAns t = (zeroM, false) from by unfold rdAns; rw [if_neg (fun h' => h (by have h3 := h'.2; rw [hq] at h3; exact h3))]))
          have hAt := hid (fun (h16 : (rdS t).length ≤ 16) (hp : ∀ p ∈ rdS t, PartOk 2 p) => (show rdAns t = (rdM 2 (rdS t), decide (IsM (rdM 2 (rdS t)))) from by unfold rdAns; rw [hq, if_pos ⟨hH, h16, hp⟩]))
          have hsp := hid (fun W => l01Split_any W (t.extract 2 t.size) (by rw [ByteArray.size_extract]; omega) 44)
          simp only [show ((44 : Nat) : Int) = 44 from rfl] at hsp
          have hsp' := hid (show splL (t.extract 2 t.size) 44 = rdS t from rfl)
          rw [hsp'.out] at hsp
          have hpl := hid (splL_len (t.extract 2 t.size) 44)
          have hpz := hid (splL_sz (t.extract 2 t.size) 44)
          rw [hsp'.out] at hpl hpz
          have hxz : (t.extract 2 t.size).size ≤ 100000 := by rw [ByteArray.size_extract]; omega
          have d2 : decide ((t.size : Int) < 2) = false := decide_eq_false (by omega)
          have hz2 := hid (fun L W (h : St w.heap.size w L W) => h.newMB zeroM 27)
          have hil := hid (strs_length (rdS t))
          have hpn : 1 ≤ (rdS t).length := hpl.out.2
          have hpm : (rdS t).length ≤ 100001 := by have := hpl.out.1; omega
          rw [h58] at hb1
          clear hsp' h58 hH hq h50'
          generalize rdAns t = ans at *
          generalize rdS t = ps at *
          go_enter Try.func167, Try.ntmps167
          go_upto_region 5 with (first
            | (go_at_call 235; (with_reducible refine (hsp.out _).mono ?_); rintro e w1 ⟨v, rfl, hO, hb⟩; (obtain ⟨g, c, rfl, _, _⟩ := hO.blk (fun e => by have h1 := congrArg List.length e; rw [hil.out, List.length_nil] at h1; omega)); rw [hil.out] at hO ⊢; have hle2 := hid ((hS.out.call hb).le); replace hS := hid (hz2.out _ _ (hS.out.callOwn hb hO)); clear hb hO hsp)
            | ((with_reducible refine gate (N := 38) rfl ?_); refine build_mach rfl _ _ rfl 2 (ps.length : Int) rfl rfl ?_)
            | ((with_reducible refine gateOp (op := .store 27 (.tmp 5) (.tmp 38)) rfl ?_); refine store_mach rfl _ _ rfl w1.heap.size rfl ⟨2, (ps.length : Int), fun _ => 0, fun _ => 0⟩ rfl 27 _ hS.out.m0 ?_; intro w2 p3 ho hsz hbl; replace hS := hid (hS.out.setM hle2.out p3 ho hbl); clear p3 ho hsz hbl))
          generalize w1.heap.size = b5 at *
          by_cases h16 : ps.length ≤ 16
          · have d16 : decide ((ps.length : Int) > 16) = false := decide_eq_false (by omega)
            replace hS := hid (show St w.heap.size w [Asn.mb 27 b5 (rdP 2 ps 0 0), Asn.own w.heap.size 9 (.slice (some ⟨g, 0, none⟩) ps.length c) (strs ps), Asn.mb 27 w.heap.size zeroM] w2 from by
              rw [show rdP 2 ps 0 0 = ⟨2, (ps.length : Int), fun _ => 0, fun _ => 0⟩ from filP_zero]; exact hS.out)
            go_wp2
            go_loopw [6] (fun i wr => ∃ q : Nat, q ≤ ps.length ∧ i = .int .i64 q ∧ Hid (∀ p ∈ ps.take q, PartOk 2 p) ∧ St w.heap.size w [Asn.mb 27 b5 (rdP 2 ps q 0), Asn.own w.heap.size 9 (.slice (some ⟨g, 0, none⟩) ps.length c) (strs ps), Asn.mb 27 w.heap.size zeroM] wr) (fun i _ => ps.length - (intOf i).toNat)
            case atStart => exact ⟨0, Nat.zero_le _, rfl, hid (fun p hp => by simp at hp), hS.out⟩
            case round =>
              obtain ⟨q, hq, rfl, hpk, rS⟩ := hrel
              clear hS hb0 hb1 d2 d16
              have cL : wr.cell? ⟨b5, 0, none⟩ = some (.int .i64 2) := rS.m0.cL
              replace rS := hid rS
              by_cases hlt : q < ps.length
              · have dq : decide ((q : Int) < (ps.length : Int)) = true := decide_eq_true (by omega)
                obtain ⟨p, hp⟩ : ∃ p, ps[q]? = some p := ⟨_, List.getElem?_eq_getElem hlt⟩
                have cp := rS.out.o1.cellAt q (.string p) (by simp [strs, hp])
                have hpm' := hid (List.mem_of_getElem? hp)
                have hpsz : p.size ≤ 100000 := Nat.le_trans (hpz.out p hpm'.out) hxz
                have hbp := hid (show bpt ps q = p by simp [bpt, List.getD_eq_getElem?_getD, hp])
                have q0 : (0 : Int) ≤ (q : Int) := Int.natCast_nonneg _
                have q1 : (q : Int) < (ps.length : Int) := by omega
                replace hp := hid hp
                by_cases hsz : p.size = 2 * 2
                · have dsz : ((p.size : Int) != 2 * 2) = false := by simp; omega
                  go_upto_region 10 with (fail)
                  go_quiet (fail)
                  replace rS := hid (rS.out.drewN nq)
                  generalize World.drewN wr nq = wx at *
                  clear cp cL dsz
                  go_wp2
                  go_loopw [7] (fun i wr => ∃ x : Nat, x ≤ 2 ∧ i = .int .i64 x ∧ Hid (∀ y, y < x → (48 ≤ bt p (2 * y) ∧ bt p (2 * y) ≤ 50) ∧ 97 ≤ bt p (2 * y + 1) ∧ bt p (2 * y + 1) ≤ 112) ∧ St w.heap.size w [Asn.mb 27 b5 (rdP 2 ps q x), Asn.own w.heap.size 9 (.slice (some ⟨g, 0, none⟩) ps.length c) (strs ps), Asn.mb 27 w.heap.size zeroM] wr) (fun i _ => 2 - (intOf i).toNat)
                  case atStart => exact ⟨0, Nat.zero_le _, rfl, hid (fun y hy => absurd hy (Nat.not_lt_zero y)), rS.out⟩
                  case round =>
                    obtain ⟨x, hx, rfl, hch, rS⟩ := hrel
                    have cL : wr.cell? ⟨b5, 0, none⟩ = some (.int .i64 2) := rS.m0.cL
                    have cp := rS.o1.cellAt q (.string p) (by have h := hp.out; simp [strs, h])
                    replace rS := hid rS
                    by_cases hlx : x < 2
                    · have dx : decide ((x : Int) < 2) = true := decide_eq_true (by omega)
                      have g1 : IntKind.i64.wrap (2 * (x : Int)) = ((2 * x : Nat) : Int) := by rw [IntWalk.i64_in _ (by omega)]; omega
                      have g2 : IntKind.i64.wrap (IntKind.i64.wrap (2 * (x : Int)) + 1) = ((2 * x + 1 : Nat) : Int) := by rw [g1, IntWalk.i64_in _ (by omega)]; omega
                      replace g1 := hid g1; replace g2 := hid g2
                      have k1 : 2 * x < p.size := by omega
                      have k2 : 2 * x + 1 < p.size := by omega
                      go_upto_region 15 with (fail)
                      refine wp_region_quiet_lit (by kernel_rfl) (by kernel_rfl) ?_
                      iterate 6 (quiet_step (fail))
                      refine quiet_idx rfl _ _ _ rfl Try.underlying9 p (2 * x) _ rfl rfl g1.out k1 ?_
                      iterate 7 (quiet_step (fail))
                      refine quiet_idx rfl _ _ _ rfl Try.underlying9 p (2 * x + 1) _ rfl rfl g2.out k2 ?_
                      iterate 2 (quiet_step (fail))
                      refine wpQuiet_nil ?_
                      rintro _ ⟨nr, rfl⟩
                      replace rS := hid (rS.out.drewN nr)
                      generalize World.drewN wr nr = wy at *
                      have hB1 := bt_lt p (2 * x)
                      have hB2 := bt_lt p (2 * x + 1)
                      have hch2 := hid (fun (h : (48 ≤ bt p (2 * x) ∧ bt p (2 * x) ≤ 50) ∧ 97 ≤ bt p (2 * x + 1) ∧ bt p (2 * x + 1) ≤ 112) y (hy : y < x + 1) => (show (48 ≤ bt p (2 * y) ∧ bt p (2 * y) ≤ 50) ∧ 97 ≤ bt p (2 * y + 1) ∧ bt p (2 * y + 1) ≤ 112 from by
                        by_cases e : y = x
                        · subst e; exact h
                        · exact hch.out y (by omega)))
                      have hno := hid (fun (h : ¬ ((48 ≤ bt p (2 * x) ∧ bt p (2 * x) ≤ 50) ∧ 97 ≤ bt p (2 * x + 1) ∧ bt p (2 * x + 1) ≤ 112)) => hAf.out (fun h' => h ((h'.2 p hpm'.out).2 x hlx)))
                      have hst := hid (filP_step (L := 2) (n := ps.length) (f := fun q x => bt (bpt ps q) (2 * x + 1) - 97) (g := fun q x => bt (bpt ps q) (2 * x) - 48) q x hlx (by omega))
                      simp only [hbp.out] at hst
                      clear cp cL
                      generalize bt p (2 * x) = B1 at *
                      generalize bt p (2 * x + 1) = B2 at *
                      by_cases c1 : 48 ≤ B1
                      · by_cases c2 : B1 ≤ 50
                        · by_cases c3 : 97 ≤ B2
                          · by_cases c4 : B2 ≤ 112
                            · replace hch2 := hid (hch2.out ⟨⟨c1, c2⟩, c3, c4⟩)
                              obtain ⟨y1, rfl⟩ := Nat.exists_eq_add_of_le c1
                              obtain ⟨y2, rfl⟩ := Nat.exists_eq_add_of_le c3
                              have d1 : decide ((48 + (y1 : Int)) < 48) = false := decide_eq_false (by omega)
                              have d2 : decide ((48 + (y1 : Int)) > 50) = false := decide_eq_false (by omega)
                              have d3 : decide ((97 + (y2 : Int)) < 97) = false := decide_eq_false (by omega)
                              have d4 : decide ((97 + (y2 : Int)) > 112) = false := decide_eq_false (by omega)
                              have e1 : 48 + (y1 : Int) - 48 = y1 := by omega
                              have e2 : 97 + (y2 : Int) - 97 = y2 := by omega
                              obtain ⟨vo, co⟩ : ∃ u, wy.cell? ⟨b5, 50 + q * 3 + x, none⟩ = some u := ⟨_, rS.out.m0.cot q x (by omega) (by omega)⟩
                              have fo : wy.frozen? ⟨b5, 50 + q * 3 + x, none⟩ = false := World.rowIs.frozen rS.out.m0 _
                              obtain ⟨vn, cn⟩ : ∃ u, wy.cell? ⟨b5, 2 + q * 3 + x, none⟩ = some u := ⟨_, rS.out.m0.cnx q x (by omega) (by omega)⟩
                              have fn : wy.frozen? ⟨b5, 2 + q * 3 + x, none⟩ = false := World.rowIs.frozen rS.out.m0 _
                              go_wp2
                              go_roundw
                              case rel =>
                                refine ⟨x + 1, by omega, by go_num, hid hch2.out, ?_⟩
                                have e := hst.out
                                rw [Nat.add_sub_cancel_left, Nat.add_sub_cancel_left] at e
                                rw [show rdP 2 ps q (x + 1) = { rdP 2 ps q x with nx := upd (rdP 2 ps q x).nx (q * 3 + x) y2, ot := upd (rdP 2 ps q x).ot (q * 3 + x) y1 } from e]
                                exact (rS.out.setOt hle2.out q x y1 (by omega) (by omega)).setNx hle2.out q x y2 (by omega) (by omega)
                              case measure => simp [intOf]; omega
                            · have hA := hid (hno.out (fun h => by omega))
                              have d1 : decide ((B1 : Int) < 48) = false := decide_eq_false (by omega)
                              have d2 : decide ((B1 : Int) > 50) = false := decide_eq_false (by omega)
                              have d3 : decide ((B2 : Int) < 97) = false := decide_eq_false (by omega)
                              have d4 : decide ((B2 : Int) > 112) = true := decide_eq_true (by omega)
                              go_wp2_with (first
                                | ((with_reducible refine gate (N := 94) rfl ?_); refine build_zero rfl rfl ?_)
                                | ((with_reducible refine gateOp (op := .store 27 (.tmp 2) (.tmp 94)) rfl ?_); refine store_mach rfl _ _ rfl w.heap.size rfl zeroM rfl 27 _ rS.out.m2 ?_; intro W3 p2 ho hsz hbl; have pB := hid (hbl _ _ (Nat.le_refl _) rS.out.bel); replace p2 := hid p2; clear ho hsz hbl))
                              exact ret_mach_v rfl rfl rfl p2.out rfl ⟨by rw [hA.out]; rfl, pB.out⟩
                          · have hA := hid (hno.out (fun h => by omega))
                            have d1 : decide ((B1 : Int) < 48) = false := decide_eq_false (by omega)
                            have d2 : decide ((B1 : Int) > 50) = false := decide_eq_false (by omega)
                            have d3 : decide ((B2 : Int) < 97) = true := decide_eq_true (by omega)
                            go_wp2_with (first
                              | ((with_reducible refine gate (N := 94) rfl ?_); refine build_zero rfl rfl ?_)
                              | ((with_reducible refine gateOp (op := .store 27 (.tmp 2) (.tmp 94)) rfl ?_); refine store_mach rfl _ _ rfl w.heap.size rfl zeroM rfl 27 _ rS.out.m2 ?_; intro W3 p2 ho hsz hbl; have pB := hid (hbl _ _ (Nat.le_refl _) rS.out.bel); replace p2 := hid p2; clear ho hsz hbl))
                            exact ret_mach_v rfl rfl rfl p2.out rfl ⟨by rw [hA.out]; rfl, pB.out⟩
                        · have hA := hid (hno.out (fun h => by omega))
                          have d1 : decide ((B1 : Int) < 48) = false := decide_eq_false (by omega)
                          have d2 : decide ((B1 : Int) > 50) = true := decide_eq_true (by omega)
                          go_wp2_with (first
                            | ((with_reducible refine gate (N := 94) rfl ?_); refine build_zero rfl rfl ?_)
                            | ((with_reducible refine gateOp (op := .store 27 (.tmp 2) (.tmp 94)) rfl ?_); refine store_mach rfl _ _ rfl w.heap.size rfl zeroM rfl 27 _ rS.out.m2 ?_; intro W3 p2 ho hsz hbl; have pB := hid (hbl _ _ (Nat.le_refl _) rS.out.bel); replace p2 := hid p2; clear ho hsz hbl))
                          exact ret_mach_v rfl rfl rfl p2.out rfl ⟨by rw [hA.out]; rfl, pB.out⟩
                      · have hA := hid (hno.out (fun h => by omega))
                        have d1 : decide ((B1 : Int) < 48) = true := decide_eq_true (by omega)
                        go_wp2_with (first
                          | ((with_reducible refine gate (N := 94) rfl ?_); refine build_zero rfl rfl ?_)
                          | ((with_reducible refine gateOp (op := .store 27 (.tmp 2) (.tmp 94)) rfl ?_); refine store_mach rfl _ _ rfl w.heap.size rfl zeroM rfl 27 _ rS.out.m2 ?_; intro W3 p2 ho hsz hbl; have pB := hid (hbl _ _ (Nat.le_refl _) rS.out.bel); replace p2 := hid p2; clear ho hsz hbl))
                        exact ret_mach_v rfl rfl rfl p2.out rfl ⟨by rw [hA.out]; rfl, pB.out⟩
                    · have hxl : x = 2 := by omega
                      subst hxl
                      have hpk2 := hid (show ∀ p' ∈ ps.take (q + 1), PartOk 2 p' from fun p' hp' => by
                        rw [List.take_add_one, hp.out] at hp'
                        rcases List.mem_append.1 hp' with h | h
                        · exact hpk.out p' h
                        · obtain rfl : p' = p := by simpa using h
                          exact ⟨hsz, hch.out⟩)
                      clear cp
                      go_wp2
                      go_roundw
                      case rel => exact ⟨q + 1, by omega, by go_num, hpk2, by rw [show rdP 2 ps (q + 1) 0 = rdP 2 ps q 2 from (filP_row q (by omega)).symm]; exact rS.out⟩
                      case measure => simp [intOf]; omega
                · have dsz : ((p.size : Int) != 2 * 2) = true := by simp; omega
                  have hA := hid (hAf.out (fun h => hsz (h.2 p hpm'.out).1))
                  go_upto_region 10 with (fail)
                  go_quiet (fail)
                  replace rS := hid (rS.out.drewN nq)
                  generalize World.drewN wr nq = wx at *
                  clear cp cL
                  go_wp2_with (first
                    | ((with_reducible refine gate (N := 58) rfl ?_); refine build_zero rfl rfl ?_)
                    | ((with_reducible refine gateOp (op := .store 27 (.tmp 2) (.tmp 58)) rfl ?_); refine store_mach rfl _ _ rfl w.heap.size rfl zeroM rfl 27 _ rS.out.m2 ?_; intro W3 p2 ho hsz hbl; have pB := hid (hbl _ _ (Nat.le_refl _) rS.out.bel); replace p2 := hid p2; clear ho hsz hbl))
                  exact ret_mach_v rfl rfl rfl p2.out rfl ⟨by rw [hA.out]; rfl, pB.out⟩
              · obtain rfl : q = ps.length := by omega
                have hpk3 := hpk.out
                rw [List.take_length] at hpk3
                have hA := hid (hAt.out h16 hpk3)
                have hok := hid (rdP_ok 2 ps ps.length 0)
                have hM := hid (show rdP 2 ps ps.length 0 = rdM 2 ps from rfl)
                rw [hM.out] at rS hok
                have hLS := hid (fun W => l01Is_any W (rdM 2 ps) hok.out (decide (IsM (rdM 2 ps))) decide_eq_true_iff)
                clear hM hpk hpk3 hAf hAt cL
                generalize hrm : rdM 2 ps = M at *
                generalize decide (IsM M) = bM at *
                replace hrm := hid hrm
                go_upto_region 20 with (fail)
                replace rS := hid rS.out.drew
                refine wp_region_heldL (L := [(3, (fun w' : World => MB w' 27 b5 M))]) (by kernel_rfl) (HeldL.cons (fun _ => rS.out.m0) HeldL.nil) (fun hHeld => ?_)
                generalize World.drew wr = wa at *
                refine wpAnyL_takeP (i := 0) 3 [] (v := (.agg (mcells M))) (fun w' : World => MB w' 27 b5 M) rfl (by kernel_rfl) (by kernel_rfl) (by kernel_rfl) (by rfl) (by kernel_rfl) (by simp) (fun _ _ _ h => h) (Or.inl ⟨by rfl, ?_⟩) (by assumption) ?_
                · (intro W hW; exact exec_load _ rfl rfl (load_run hW))
                intro hHeld'
                clear hHeld; have hHeld := hHeld'; clear hHeld'
                try simp only [Act.put, List.getElem_toArray, List.getElem_cons_succ, List.getElem_cons_zero, List.setIfInBounds_toArray, List.set_cons_zero, List.set_cons_succ]
                refine wpAnyL_takeP (i := 1) 3 [2] (v := (.agg (mcells M))) (fun w' : World => MB w' 27 b5 M) rfl (by kernel_rfl) (by kernel_rfl) (by kernel_rfl) (by rfl) (by kernel_rfl) (by simp) (fun _ _ _ h => h) (Or.inl ⟨by rfl, ?_⟩) (by assumption) ?_
                · (intro W hW; exact exec_load _ rfl rfl (load_run hW))
                intro hHeld'
                clear hHeld; have hHeld := hHeld'; clear hHeld'
                try simp only [Act.put, List.getElem_toArray, List.getElem_cons_succ, List.getElem_cons_zero, List.setIfInBounds_toArray, List.set_cons_zero, List.set_cons_succ]
                refine wpAnyL_ready (rs := [2]) (by kernel_rfl) (by simp) ?_
                refine AllReadyL.cons rfl (fun K hK => ?_) AllReadyL.nil
                go_simp
                (with_reducible refine (hLS.out _).mono ?_)
                rintro e w4 ⟨rfl, hb⟩
                replace rS := hid (rS.out.call hb)
                clear hb
                go_simp
                refine hK.out _ _ (HeldL.cons (fun _ => rS.out.m0) HeldL.nil) (fun hHeld' => ?_)
                clear hK K hHeld; have hHeld := hHeld'; clear hHeld'
                try simp only [Act.put, List.getElem_toArray, List.getElem_cons_succ, List.getElem_cons_zero, List.setIfInBounds_toArray, List.set_cons_zero, List.set_cons_succ]
                refine wpAnyL_ready (rs := [3]) (by kernel_rfl) (by simp) ?_
                refine AllReadyL.cons rfl (fun K hK => ?_) AllReadyL.nil
                refine step_store_mach rfl _ _ rfl _ rfl M rfl _ _ rS.out.m2 ?_
                intro W9 p2 ho hbl
                have pB := hid (hbl _ _ (Nat.le_refl _) rS.out.bel)
                replace p2 := hid p2
                clear ho hbl
                refine hK.out _ _ (HeldL.cons (fun h => absurd h (by decide +kernel)) HeldL.nil) (fun hHeld' => ?_)
                clear hK K hHeld; have hHeld := hHeld'; clear hHeld'
                try simp only [Act.put, List.getElem_toArray, List.getElem_cons_succ, List.getElem_cons_zero, List.setIfInBounds_toArray, List.set_cons_zero, List.set_cons_succ]
                refine wpAnyL_take0 (i := 4) (v := ?_) rfl (by kernel_rfl) (by kernel_rfl) (by kernel_rfl) (by rfl) (fun _ _ _ h => h) (Or.inl ⟨by rfl, ?_⟩) (by assumption) ?_
                rotate_left
                · (intro W _; go_simp; (with_reducible rfl))
                intro hHeld'
                clear hHeld; have hHeld := hHeld'; clear hHeld'
                try simp only [Act.put, List.getElem_toArray, List.getElem_cons_succ, List.getElem_cons_zero, List.setIfInBounds_toArray, List.set_cons_zero, List.set_cons_succ]
                refine wpAnyL_done (by kernel_rfl) ?_ _
                go_wp2
                exact ret_mach_v rfl rfl rfl p2.out rfl ⟨by rw [hA.out]; rfl, pB.out⟩
          · have hA := hid (hAf.out (fun h => h16 h.1))
            have d16 : decide ((ps.length : Int) > 16) = true := decide_eq_true (by omega)
            go_wp2_with (first
              | ((with_reducible refine gate (N := 42) rfl ?_); refine build_zero rfl rfl ?_)
              | ((with_reducible refine gateOp (op := .store 27 (.tmp 2) (.tmp 42)) rfl ?_); refine store_mach rfl _ _ rfl w.heap.size rfl zeroM rfl 27 _ hS.out.m2 ?_; intro W3 p2 ho hsz hbl; have pB := hid (hbl _ _ (Nat.le_refl _) hS.out.bel); replace p2 := hid p2; clear ho hsz hbl))
            exact ret_mach_v rfl rfl rfl p2.out rfl ⟨by rw [hA.out]; rfl, pB.out⟩
        · have hq : bt t 0 - 48 = 3 := by omega
          have h50' : bt t 0 = 50 ∨ bt t 0 = 51 := .inr h50
          rw [h50] at hb0
          have hb0 : (t[0]'(by omega)).toNat = 51 := hb0
          have hH : HeadOk t := ⟨h2, h58, h50'⟩
          have hAf := hid (fun (h : ¬ ((rdS t).length ≤ 16 ∧ ∀ p ∈ rdS t, PartOk 3 p)) => (show rdAns t = (zeroM, false) from by unfold rdAns; rw [if_neg (fun h' => h (by have h3 := h'.2; rw [hq] at h3; exact h3))]))
          have hAt := hid (fun (h16 : (rdS t).length ≤ 16) (hp : ∀ p ∈ rdS t, PartOk 3 p) => (show rdAns t = (rdM 3 (rdS t), decide (IsM (rdM 3 (rdS t)))) from by unfold rdAns; rw [hq, if_pos ⟨hH, h16, hp⟩]))
          have hsp := hid (fun W => l01Split_any W (t.extract 2 t.size) (by rw [ByteArray.size_extract]; omega) 44)
          simp only [show ((44 : Nat) : Int) = 44 from rfl] at hsp
          have hsp' := hid (show splL (t.extract 2 t.size) 44 = rdS t from rfl)
          rw [hsp'.out] at hsp
          have hpl := hid (splL_len (t.extract 2 t.size) 44)
          have hpz := hid (splL_sz (t.extract 2 t.size) 44)
          rw [hsp'.out] at hpl hpz
          have hxz : (t.extract 2 t.size).size ≤ 100000 := by rw [ByteArray.size_extract]; omega
          have d2 : decide ((t.size : Int) < 2) = false := decide_eq_false (by omega)
          have hz2 := hid (fun L W (h : St w.heap.size w L W) => h.newMB zeroM 27)
          have hil := hid (strs_length (rdS t))
          have hpn : 1 ≤ (rdS t).length := hpl.out.2
          have hpm : (rdS t).length ≤ 100001 := by have := hpl.out.1; omega
          rw [h58] at hb1
          clear hsp' h58 hH hq h50'
          generalize rdAns t = ans at *
          generalize rdS t = ps at *
          go_enter Try.func167, Try.ntmps167
          go_upto_region 5 with (first
            | (go_at_call 235; (with_reducible refine (hsp.out _).mono ?_); rintro e w1 ⟨v, rfl, hO, hb⟩; (obtain ⟨g, c, rfl, _, _⟩ := hO.blk (fun e => by have h1 := congrArg List.length e; rw [hil.out, List.length_nil] at h1; omega)); rw [hil.out] at hO ⊢; have hle2 := hid ((hS.out.call hb).le); replace hS := hid (hz2.out _ _ (hS.out.callOwn hb hO)); clear hb hO hsp)
            | ((with_reducible refine gate (N := 38) rfl ?_); refine build_mach rfl _ _ rfl 3 (ps.length : Int) rfl rfl ?_)
            | ((with_reducible refine gateOp (op := .store 27 (.tmp 5) (.tmp 38)) rfl ?_); refine store_mach rfl _ _ rfl w1.heap.size rfl ⟨3, (ps.length : Int), fun _ => 0, fun _ => 0⟩ rfl 27 _ hS.out.m0 ?_; intro w2 p3 ho hsz hbl; replace hS := hid (hS.out.setM hle2.out p3 ho hbl); clear p3 ho hsz hbl))
          generalize w1.heap.size = b5 at *
          by_cases h16 : ps.length ≤ 16
          · have d16 : decide ((ps.length : Int) > 16) = false := decide_eq_false (by omega)
            replace hS := hid (show St w.heap.size w [Asn.mb 27 b5 (rdP 3 ps 0 0), Asn.own w.heap.size 9 (.slice (some ⟨g, 0, none⟩) ps.length c) (strs ps), Asn.mb 27 w.heap.size zeroM] w2 from by
              rw [show rdP 3 ps 0 0 = ⟨3, (ps.length : Int), fun _ => 0, fun _ => 0⟩ from filP_zero]; exact hS.out)
            go_wp2
            go_loopw [6] (fun i wr => ∃ q : Nat, q ≤ ps.length ∧ i = .int .i64 q ∧ Hid (∀ p ∈ ps.take q, PartOk 3 p) ∧ St w.heap.size w [Asn.mb 27 b5 (rdP 3 ps q 0), Asn.own w.heap.size 9 (.slice (some ⟨g, 0, none⟩) ps.length c) (strs ps), Asn.mb 27 w.heap.size zeroM] wr) (fun i _ => ps.length - (intOf i).toNat)
            case atStart => exact ⟨0, Nat.zero_le _, rfl, hid (fun p hp => by simp at hp), hS.out⟩
            case round =>
              obtain ⟨q, hq, rfl, hpk, rS⟩ := hrel
              clear hS hb0 hb1 d2 d16
              have cL : wr.cell? ⟨b5, 0, none⟩ = some (.int .i64 3) := rS.m0.cL
              replace rS := hid rS
              by_cases hlt : q < ps.length
              · have dq : decide ((q : Int) < (ps.length : Int)) = true := decide_eq_true (by omega)
                obtain ⟨p, hp⟩ : ∃ p, ps[q]? = some p := ⟨_, List.getElem?_eq_getElem hlt⟩
                have cp := rS.out.o1.cellAt q (.string p) (by simp [strs, hp])
                have hpm' := hid (List.mem_of_getElem? hp)
                have hpsz : p.size ≤ 100000 := Nat.le_trans (hpz.out p hpm'.out) hxz
                have hbp := hid (show bpt ps q = p by simp [bpt, List.getD_eq_getElem?_getD, hp])
                have q0 : (0 : Int) ≤ (q : Int) := Int.natCast_nonneg _
                have q1 : (q : Int) < (ps.length : Int) := by omega
                replace hp := hid hp
                by_cases hsz : p.size = 2 * 3
                · have dsz : ((p.size : Int) != 2 * 3) = false := by simp; omega
                  go_upto_region 10 with (fail)
                  go_quiet (fail)
                  replace rS := hid (rS.out.drewN nq)
                  generalize World.drewN wr nq = wx at *
                  clear cp cL dsz
                  go_wp2
                  go_loopw [7] (fun i wr => ∃ x : Nat, x ≤ 3 ∧ i = .int .i64 x ∧ Hid (∀ y, y < x → (48 ≤ bt p (2 * y) ∧ bt p (2 * y) ≤ 50) ∧ 97 ≤ bt p (2 * y + 1) ∧ bt p (2 * y + 1) ≤ 112) ∧ St w.heap.size w [Asn.mb 27 b5 (rdP 3 ps q x), Asn.own w.heap.size 9 (.slice (some ⟨g, 0, none⟩) ps.length c) (strs ps), Asn.mb 27 w.heap.size zeroM] wr) (fun i _ => 3 - (intOf i).toNat)
                  case atStart => exact ⟨0, Nat.zero_le _, rfl, hid (fun y hy => absurd hy (Nat.not_lt_zero y)), rS.out⟩
                  case round =>
                    obtain ⟨x, hx, rfl, hch, rS⟩ := hrel
                    have cL : wr.cell? ⟨b5, 0, none⟩ = some (.int .i64 3) := rS.m0.cL
                    have cp := rS.o1.cellAt q (.string p) (by have h := hp.out; simp [strs, h])
                    replace rS := hid rS
                    by_cases hlx : x < 3
                    · have dx : decide ((x : Int) < 3) = true := decide_eq_true (by omega)
                      have g1 : IntKind.i64.wrap (2 * (x : Int)) = ((2 * x : Nat) : Int) := by rw [IntWalk.i64_in _ (by omega)]; omega
                      have g2 : IntKind.i64.wrap (IntKind.i64.wrap (2 * (x : Int)) + 1) = ((2 * x + 1 : Nat) : Int) := by rw [g1, IntWalk.i64_in _ (by omega)]; omega
                      replace g1 := hid g1; replace g2 := hid g2
                      have k1 : 2 * x < p.size := by omega
                      have k2 : 2 * x + 1 < p.size := by omega
                      go_upto_region 15 with (fail)
                      refine wp_region_quiet_lit (by kernel_rfl) (by kernel_rfl) ?_
                      iterate 6 (quiet_step (fail))
                      refine quiet_idx rfl _ _ _ rfl Try.underlying9 p (2 * x) _ rfl rfl g1.out k1 ?_
                      iterate 7 (quiet_step (fail))
                      refine quiet_idx rfl _ _ _ rfl Try.underlying9 p (2 * x + 1) _ rfl rfl g2.out k2 ?_
                      iterate 2 (quiet_step (fail))
                      refine wpQuiet_nil ?_
                      rintro _ ⟨nr, rfl⟩
                      replace rS := hid (rS.out.drewN nr)
                      generalize World.drewN wr nr = wy at *
                      have hB1 := bt_lt p (2 * x)
                      have hB2 := bt_lt p (2 * x + 1)
                      have hch2 := hid (fun (h : (48 ≤ bt p (2 * x) ∧ bt p (2 * x) ≤ 50) ∧ 97 ≤ bt p (2 * x + 1) ∧ bt p (2 * x + 1) ≤ 112) y (hy : y < x + 1) => (show (48 ≤ bt p (2 * y) ∧ bt p (2 * y) ≤ 50) ∧ 97 ≤ bt p (2 * y + 1) ∧ bt p (2 * y + 1) ≤ 112 from by
                        by_cases e : y = x
                        · subst e; exact h
                        · exact hch.out y (by omega)))
                      have hno := hid (fun (h : ¬ ((48 ≤ bt p (2 * x) ∧ bt p (2 * x) ≤ 50) ∧ 97 ≤ bt p (2 * x + 1) ∧ bt p (2 * x + 1) ≤ 112)) => hAf.out (fun h' => h ((h'.2 p hpm'.out).2 x hlx)))
                      have hst := hid (filP_step (L := 3) (n := ps.length) (f := fun q x => bt (bpt ps q) (2 * x + 1) - 97) (g := fun q x => bt (bpt ps q) (2 * x) - 48) q x hlx (by omega))
                      simp only [hbp.out] at hst
                      clear cp cL
                      generalize bt p (2 * x) = B1 at *
                      generalize bt p (2 * x + 1) = B2 at *
                      by_cases c1 : 48 ≤ B1
                      · by_cases c2 : B1 ≤ 50
                        · by_cases c3 : 97 ≤ B2
                          · by_cases c4 : B2 ≤ 112
                            · replace hch2 := hid (hch2.out ⟨⟨c1, c2⟩, c3, c4⟩)
                              obtain ⟨y1, rfl⟩ := Nat.exists_eq_add_of_le c1
                              obtain ⟨y2, rfl⟩ := Nat.exists_eq_add_of_le c3
                              have d1 : decide ((48 + (y1 : Int)) < 48) = false := decide_eq_false (by omega)
                              have d2 : decide ((48 + (y1 : Int)) > 50) = false := decide_eq_false (by omega)
                              have d3 : decide ((97 + (y2 : Int)) < 97) = false := decide_eq_false (by omega)
                              have d4 : decide ((97 + (y2 : Int)) > 112) = false := decide_eq_false (by omega)
                              have e1 : 48 + (y1 : Int) - 48 = y1 := by omega
                              have e2 : 97 + (y2 : Int) - 97 = y2 := by omega
                              obtain ⟨vo, co⟩ : ∃ u, wy.cell? ⟨b5, 50 + q * 3 + x, none⟩ = some u := ⟨_, rS.out.m0.cot q x (by omega) (by omega)⟩
                              have fo : wy.frozen? ⟨b5, 50 + q * 3 + x, none⟩ = false := World.rowIs.frozen rS.out.m0 _
                              obtain ⟨vn, cn⟩ : ∃ u, wy.cell? ⟨b5, 2 + q * 3 + x, none⟩ = some u := ⟨_, rS.out.m0.cnx q x (by omega) (by omega)⟩
                              have fn : wy.frozen? ⟨b5, 2 + q * 3 + x, none⟩ = false := World.rowIs.frozen rS.out.m0 _
                              go_wp2
                              go_roundw
                              case rel =>
                                refine ⟨x + 1, by omega, by go_num, hid hch2.out, ?_⟩
                                have e := hst.out
                                rw [Nat.add_sub_cancel_left, Nat.add_sub_cancel_left] at e
                                rw [show rdP 3 ps q (x + 1) = { rdP 3 ps q x with nx := upd (rdP 3 ps q x).nx (q * 3 + x) y2, ot := upd (rdP 3 ps q x).ot (q * 3 + x) y1 } from e]
                                exact (rS.out.setOt hle2.out q x y1 (by omega) (by omega)).setNx hle2.out q x y2 (by omega) (by omega)
                              case measure => simp [intOf]; omega
                            · have hA := hid (hno.out (fun h => by omega))
                              have d1 : decide ((B1 : Int) < 48) = false := decide_eq_false (by omega)
                              have d2 : decide ((B1 : Int) > 50) = false := decide_eq_false (by omega)
                              have d3 : decide ((B2 : Int) < 97) = false := decide_eq_false (by omega)
                              have d4 : decide ((B2 : Int) > 112) = true := decide_eq_true (by omega)
                              go_wp2_with (first
                                | ((with_reducible refine gate (N := 94) rfl ?_); refine build_zero rfl rfl ?_)
                                | ((with_reducible refine gateOp (op := .store 27 (.tmp 2) (.tmp 94)) rfl ?_); refine store_mach rfl _ _ rfl w.heap.size rfl zeroM rfl 27 _ rS.out.m2 ?_; intro W3 p2 ho hsz hbl; have pB := hid (hbl _ _ (Nat.le_refl _) rS.out.bel); replace p2 := hid p2; clear ho hsz hbl))
                              exact ret_mach_v rfl rfl rfl p2.out rfl ⟨by rw [hA.out]; rfl, pB.out⟩
                          · have hA := hid (hno.out (fun h => by omega))
                            have d1 : decide ((B1 : Int) < 48) = false := decide_eq_false (by omega)
                            have d2 : decide ((B1 : Int) > 50) = false := decide_eq_false (by omega)
                            have d3 : decide ((B2 : Int) < 97) = true := decide_eq_true (by omega)
                            go_wp2_with (first
                              | ((with_reducible refine gate (N := 94) rfl ?_); refine build_zero rfl rfl ?_)
                              | ((with_reducible refine gateOp (op := .store 27 (.tmp 2) (.tmp 94)) rfl ?_); refine store_mach rfl _ _ rfl w.heap.size rfl zeroM rfl 27 _ rS.out.m2 ?_; intro W3 p2 ho hsz hbl; have pB := hid (hbl _ _ (Nat.le_refl _) rS.out.bel); replace p2 := hid p2; clear ho hsz hbl))
                            exact ret_mach_v rfl rfl rfl p2.out rfl ⟨by rw [hA.out]; rfl, pB.out⟩
                        · have hA := hid (hno.out (fun h => by omega))
                          have d1 : decide ((B1 : Int) < 48) = false := decide_eq_false (by omega)
                          have d2 : decide ((B1 : Int) > 50) = true := decide_eq_true (by omega)
                          go_wp2_with (first
                            | ((with_reducible refine gate (N := 94) rfl ?_); refine build_zero rfl rfl ?_)
                            | ((with_reducible refine gateOp (op := .store 27 (.tmp 2) (.tmp 94)) rfl ?_); refine store_mach rfl _ _ rfl w.heap.size rfl zeroM rfl 27 _ rS.out.m2 ?_; intro W3 p2 ho hsz hbl; have pB := hid (hbl _ _ (Nat.le_refl _) rS.out.bel); replace p2 := hid p2; clear ho hsz hbl))
                          exact ret_mach_v rfl rfl rfl p2.out rfl ⟨by rw [hA.out]; rfl, pB.out⟩
                      · have hA := hid (hno.out (fun h => by omega))
                        have d1 : decide ((B1 : Int) < 48) = true := decide_eq_true (by omega)
                        go_wp2_with (first
                          | ((with_reducible refine gate (N := 94) rfl ?_); refine build_zero rfl rfl ?_)
                          | ((with_reducible refine gateOp (op := .store 27 (.tmp 2) (.tmp 94)) rfl ?_); refine store_mach rfl _ _ rfl w.heap.size rfl zeroM rfl 27 _ rS.out.m2 ?_; intro W3 p2 ho hsz hbl; have pB := hid (hbl _ _ (Nat.le_refl _) rS.out.bel); replace p2 := hid p2; clear ho hsz hbl))
                        exact ret_mach_v rfl rfl rfl p2.out rfl ⟨by rw [hA.out]; rfl, pB.out⟩
                    · have hxl : x = 3 := by omega
                      subst hxl
                      have hpk2 := hid (show ∀ p' ∈ ps.take (q + 1), PartOk 3 p' from fun p' hp' => by
                        rw [List.take_add_one, hp.out] at hp'
                        rcases List.mem_append.1 hp' with h | h
                        · exact hpk.out p' h
                        · obtain rfl : p' = p := by simpa using h
                          exact ⟨hsz, hch.out⟩)
                      clear cp
                      go_wp2
                      go_roundw
                      case rel => exact ⟨q + 1, by omega, by go_num, hpk2, by rw [show rdP 3 ps (q + 1) 0 = rdP 3 ps q 3 from (filP_row q (by omega)).symm]; exact rS.out⟩
                      case measure => simp [intOf]; omega
                · have dsz : ((p.size : Int) != 2 * 3) = true := by simp; omega
                  have hA := hid (hAf.out (fun h => hsz (h.2 p hpm'.out).1))
                  go_upto_region 10 with (fail)
                  go_quiet (fail)
                  replace rS := hid (rS.out.drewN nq)
                  generalize World.drewN wr nq = wx at *
                  clear cp cL
                  go_wp2_with (first
                    | ((with_reducible refine gate (N := 58) rfl ?_); refine build_zero rfl rfl ?_)
                    | ((with_reducible refine gateOp (op := .store 27 (.tmp 2) (.tmp 58)) rfl ?_); refine store_mach rfl _ _ rfl w.heap.size rfl zeroM rfl 27 _ rS.out.m2 ?_; intro W3 p2 ho hsz hbl; have pB := hid (hbl _ _ (Nat.le_refl _) rS.out.bel); replace p2 := hid p2; clear ho hsz hbl))
                  exact ret_mach_v rfl rfl rfl p2.out rfl ⟨by rw [hA.out]; rfl, pB.out⟩
              · obtain rfl : q = ps.length := by omega
                have hpk3 := hpk.out
                rw [List.take_length] at hpk3
                have hA := hid (hAt.out h16 hpk3)
                have hok := hid (rdP_ok 3 ps ps.length 0)
                have hM := hid (show rdP 3 ps ps.length 0 = rdM 3 ps from rfl)
                rw [hM.out] at rS hok
                have hLS := hid (fun W => l01Is_any W (rdM 3 ps) hok.out (decide (IsM (rdM 3 ps))) decide_eq_true_iff)
                clear hM hpk hpk3 hAf hAt cL
                generalize hrm : rdM 3 ps = M at *
                generalize decide (IsM M) = bM at *
                replace hrm := hid hrm
                go_upto_region 20 with (fail)
                replace rS := hid rS.out.drew
                refine wp_region_heldL (L := [(3, (fun w' : World => MB w' 27 b5 M))]) (by kernel_rfl) (HeldL.cons (fun _ => rS.out.m0) HeldL.nil) (fun hHeld => ?_)
                generalize World.drew wr = wa at *
                refine wpAnyL_takeP (i := 0) 3 [] (v := (.agg (mcells M))) (fun w' : World => MB w' 27 b5 M) rfl (by kernel_rfl) (by kernel_rfl) (by kernel_rfl) (by rfl) (by kernel_rfl) (by simp) (fun _ _ _ h => h) (Or.inl ⟨by rfl, ?_⟩) (by assumption) ?_
                · (intro W hW; exact exec_load _ rfl rfl (load_run hW))
                intro hHeld'
                clear hHeld; have hHeld := hHeld'; clear hHeld'
                try simp only [Act.put, List.getElem_toArray, List.getElem_cons_succ, List.getElem_cons_zero, List.setIfInBounds_toArray, List.set_cons_zero, List.set_cons_succ]
                refine wpAnyL_takeP (i := 1) 3 [2] (v := (.agg (mcells M))) (fun w' : World => MB w' 27 b5 M) rfl (by kernel_rfl) (by kernel_rfl) (by kernel_rfl) (by rfl) (by kernel_rfl) (by simp) (fun _ _ _ h => h) (Or.inl ⟨by rfl, ?_⟩) (by assumption) ?_
                · (intro W hW; exact exec_load _ rfl rfl (load_run hW))
                intro hHeld'
                clear hHeld; have hHeld := hHeld'; clear hHeld'
                try simp only [Act.put, List.getElem_toArray, List.getElem_cons_succ, List.getElem_cons_zero, List.setIfInBounds_toArray, List.set_cons_zero, List.set_cons_succ]
                refine wpAnyL_ready (rs := [2]) (by kernel_rfl) (by simp) ?_
                refine AllReadyL.cons rfl (fun K hK => ?_) AllReadyL.nil
                go_simp
                (with_reducible refine (hLS.out _).mono ?_)
                rintro e w4 ⟨rfl, hb⟩
                replace rS := hid (rS.out.call hb)
                clear hb
                go_simp
                refine hK.out _ _ (HeldL.cons (fun _ => rS.out.m0) HeldL.nil) (fun hHeld' => ?_)
                clear hK K hHeld; have hHeld := hHeld'; clear hHeld'
                try simp only [Act.put, List.getElem_toArray, List.getElem_cons_succ, List.getElem_cons_zero, List.setIfInBounds_toArray, List.set_cons_zero, List.set_cons_succ]
                refine wpAnyL_ready (rs := [3]) (by kernel_rfl) (by simp) ?_
                refine AllReadyL.cons rfl (fun K hK => ?_) AllReadyL.nil
                refine step_store_mach rfl _ _ rfl _ rfl M rfl _ _ rS.out.m2 ?_
                intro W9 p2 ho hbl
                have pB := hid (hbl _ _ (Nat.le_refl _) rS.out.bel)
                replace p2 := hid p2
                clear ho hbl
                refine hK.out _ _ (HeldL.cons (fun h => absurd h (by decide +kernel)) HeldL.nil) (fun hHeld' => ?_)
                clear hK K hHeld; have hHeld := hHeld'; clear hHeld'
                try simp only [Act.put, List.getElem_toArray, List.getElem_cons_succ, List.getElem_cons_zero, List.setIfInBounds_toArray, List.set_cons_zero, List.set_cons_succ]
                refine wpAnyL_take0 (i := 4) (v := ?_) rfl (by kernel_rfl) (by kernel_rfl) (by kernel_rfl) (by rfl) (fun _ _ _ h => h) (Or.inl ⟨by rfl, ?_⟩) (by assumption) ?_
                rotate_left
                · (intro W _; go_simp; (with_reducible rfl))
                intro hHeld'
                clear hHeld; have hHeld := hHeld'; clear hHeld'
                try simp only [Act.put, List.getElem_toArray, List.getElem_cons_succ, List.getElem_cons_zero, List.setIfInBounds_toArray, List.set_cons_zero, List.set_cons_succ]
                refine wpAnyL_done (by kernel_rfl) ?_ _
                go_wp2
                exact ret_mach_v rfl rfl rfl p2.out rfl ⟨by rw [hA.out]; rfl, pB.out⟩
          · have hA := hid (hAf.out (fun h => h16 h.1))
            have d16 : decide ((ps.length : Int) > 16) = true := decide_eq_true (by omega)
            go_wp2_with (first
              | ((with_reducible refine gate (N := 42) rfl ?_); refine build_zero rfl rfl ?_)
              | ((with_reducible refine gateOp (op := .store 27 (.tmp 2) (.tmp 42)) rfl ?_); refine store_mach rfl _ _ rfl w.heap.size rfl zeroM rfl 27 _ hS.out.m2 ?_; intro W3 p2 ho hsz hbl; have pB := hid (hbl _ _ (Nat.le_refl _) hS.out.bel); replace p2 := hid p2; clear ho hsz hbl))
            exact ret_mach_v rfl rfl rfl p2.out rfl ⟨by rw [hA.out]; rfl, pB.out⟩
      · have hA := hid (show rdAns t = (zeroM, false) by unfold rdAns; rw [if_neg (fun h => h50 h.1.2.2)])
        rw [hA.out]
        have hn0 : ¬ bt t 0 = 50 := fun h => h50 (.inl h)
        have hn1 : ¬ bt t 0 = 51 := fun h => h50 (.inr h)
        have d2 : decide ((t.size : Int) < 2) = false := decide_eq_false (by omega)
        rw [h58] at hb1
        generalize bt t 0 = b0 at *
        have e0 : ((b0 : Int) != 50) = true := by simp; omega
        have e1 : ((b0 : Int) != 51) = true := by simp; omega
        clear h58 hn0 hn1 h50
        go_enter Try.func167, Try.ntmps167
        go_wp2_with (first
          | ((with_reducible refine gate (N := 28) rfl ?_); refine build_zero rfl rfl ?_)
          | ((with_reducible refine gateOp (op := .store 27 (.tmp 2) (.tmp 28)) rfl ?_); refine store_mach rfl _ _ rfl w.heap.size rfl zeroM rfl 27 _ hS.out.m0 ?_; intro W3 p2 ho hsz hbl; have pB := hid (hbl _ _ (Nat.le_refl _) hS.out.bel); replace p2 := hid p2; clear ho hsz hbl))
        exact ret_mach_v rfl rfl rfl p2.out rfl ⟨rfl, pB.out⟩
    · have hA := hid (show rdAns t = (zeroM, false) by unfold rdAns; rw [if_neg (fun h => h58 h.1.2.1)])
      rw [hA.out]
      have d2 : decide ((t.size : Int) < 2) = false := decide_eq_false (by omega)
      clear hb0
      generalize bt t 1 = b1 at *
      have e0 : ((b1 : Int) != 58) = true := by simp; omega
      clear h58
      go_enter Try.func167, Try.ntmps167
      go_wp2_with (first
        | ((with_reducible refine gate (N := 28) rfl ?_); refine build_zero rfl rfl ?_)
        | ((with_reducible refine gateOp (op := .store 27 (.tmp 2) (.tmp 28)) rfl ?_); refine store_mach rfl _ _ rfl w.heap.size rfl zeroM rfl 27 _ hS.out.m0 ?_; intro W3 p2 ho hsz hbl; have pB := hid (hbl _ _ (Nat.le_refl _) hS.out.bel); replace p2 := hid p2; clear ho hsz hbl))
      exact ret_mach_v rfl rfl rfl p2.out rfl ⟨rfl, pB.out⟩
  · have hA := hid (show rdAns t = (zeroM, false) by unfold rdAns; rw [if_neg (fun h => h2 h.1.1)])
    rw [hA.out]
    have d2 : decide ((t.size : Int) < 2) = true := decide_eq_true (by omega)
    go_enter Try.func167, Try.ntmps167
    go_wp2_with (first
      | ((with_reducible refine gate (N := 28) rfl ?_); refine build_zero rfl rfl ?_)
      | ((with_reducible refine gateOp (op := .store 27 (.tmp 2) (.tmp 28)) rfl ?_); refine store_mach rfl _ _ rfl w.heap.size rfl zeroM rfl 27 _ hS.out.m0 ?_; intro W3 p2 ho hsz hbl; have pB := hid (hbl _ _ (Nat.le_refl _) hS.out.bel); replace p2 := hid p2; clear ho hsz hbl))
    exact ret_mach_v rfl rfl rfl p2.out rfl ⟨rfl, pB.out⟩
end Go.Proofs.Ytbmkkaecfogmoaa

/- Arrays in blocks of their own, as parts of what a call holds. -/
namespace Go.Proofs.Ytbmkkaecfogmoaa
open Go.RowKit
set_option linter.unusedVariables false
set_option linter.unusedSimpArgs false

def Asn.vec (b t n : Nat) (f : Nat → Value) : Asn := ⟨fun k => k = b, fun w => w.rowIs b t n f, fun h hk => World.rowIs.of_block h (hk b rfl), fun h k hk => hk ▸ World.rowIs.lt h⟩
section
variable {w w0 : World} {L : List Asn} {base b t n : Nat} {f : Nat → Value} {a c d : Asn}
theorem St.v0 (h : St base w0 (Asn.vec b t n f :: L) w) : w.rowIs b t n f := h.g0
theorem St.v1 (h : St base w0 (a :: Asn.vec b t n f :: L) w) : w.rowIs b t n f := h.g1
theorem St.v2 (h : St base w0 (a :: c :: Asn.vec b t n f :: L) w) : w.rowIs b t n f := h.g2
theorem St.v3 (h : St base w0 (a :: c :: d :: Asn.vec b t n f :: L) w) : w.rowIs b t n f := h.g3
theorem St.newVec (h : St base w0 L w) (t n : Nat) (f : Nat → Value) : St base w0 (Asn.vec w.heap.size t n f :: L) (w.alloc (.cells (rowL n f).toArray t)) :=
  h.allocPush (a := Asn.vec w.heap.size t n f) _ (rowIs_new w n t f) fun _ hk => hk
theorem St.setVec (h : St base w0 (Asn.vec b t n f :: L) w) (hb : base ≤ b) (i : Nat) (u : Value) (g : Nat → Value) (hg : ∀ j, j < n → (if j = i then u else f j) = g j) : St base w0 (Asn.vec b t n g :: L) (w.setCell ⟨b, i, none⟩ u) :=
  h.turn (a' := Asn.vec b t n g) (World.rowIs.congr (World.rowIs.set h.v0 i u) (fun j hj => by have := hg j hj; first | exact this | exact this.symm)) (fun k hk => .inl hk) (fun k hk => (show k = b from hk) ▸ hb) ((Below.refl _ _).setCell hb _)
    fun k _ hk => heap_setCell_other w ⟨b, i, none⟩ k _ hk
theorem St.turnVec {w' : World} {g : Nat → Value} (h : St base w0 (Asn.vec b t n f :: L) w) (hb : base ≤ b) (hv : w'.rowIs b t n g) (ho : ∀ k, k ≠ b → w'.heap[k]? = w.heap[k]?) (hbl : ∀ (B : Nat) (a : World), B ≤ b → Below B a w → Below B a w') : St base w0 (Asn.vec b t n g :: L) w' :=
  h.turn (a' := Asn.vec b t n g) hv (fun k hk => .inl hk) (fun k hk => (show k = b from hk) ▸ hb) (hbl base w hb (Below.refl _ _)) fun k _ hk => ho k hk
theorem St.vecEq {g : Nat → Value} (h : St base w0 (Asn.vec b t n f :: L) w) (e : f = g) : St base w0 (Asn.vec b t n g :: L) w := by subst e; exact h
theorem St.newI16 (h : St base w0 L w) (t : Nat) : St base w0 (Asn.vec w.heap.size t 16 (fun _ => .int .i64 0) :: L) (w.alloc (.cells #[.int .i64 0, .int .i64 0, .int .i64 0, .int .i64 0, .int .i64 0, .int .i64 0, .int .i64 0, .int .i64 0, .int .i64 0, .int .i64 0, .int .i64 0, .int .i64 0, .int .i64 0, .int .i64 0, .int .i64 0, .int .i64 0] t)) := h.newVec t 16 fun _ => .int .i64 0
theorem St.newB16 (h : St base w0 L w) (t : Nat) : St base w0 (Asn.vec w.heap.size t 16 (fun _ => .bool false) :: L) (w.alloc (.cells #[.bool false, .bool false, .bool false, .bool false, .bool false, .bool false, .bool false, .bool false, .bool false, .bool false, .bool false, .bool false, .bool false, .bool false, .bool false, .bool false] t)) := h.newVec t 16 fun _ => .bool false
theorem St.ownVecB (h : St base w0 L w) (t1 t2 : Nat) : St base w0 (Asn.vec (w.heap.size + 1) t2 16 (fun _ => .bool false) :: Asn.own base t1 (.slice (some ⟨w.heap.size, 0, none⟩) 0 0) [] :: L) ((w.alloc (.cells #[] t1)).alloc (.cells #[.bool false, .bool false, .bool false, .bool false, .bool false, .bool false, .bool false, .bool false, .bool false, .bool false, .bool false, .bool false, .bool false, .bool false, .bool false, .bool false] t2)) := by
  have h2 := (h.newOwn [] t1 (by simp)).newB16 t2
  rw [heap_alloc_size] at h2
  exact h2
end
section
variable {ops : Array Oper} {rest : List Oper} {o : Oper} {a : Act} {w : World} {Q : Exit → Act → World → Prop}
theorem sz_i16 : (Try.prog.info? 87).map (·.size) = some 16 := by kernel_rfl
/-- An array read whole. -/
theorem load_i16 (hgd : o.guard = none) (x : Operand) (ho : o.op = .load 87 x) (b : Nat) (hx : a.eval x = .pointer (some ⟨b, 0, none⟩)) (t : Nat) (f : Nat → Value) (hv : w.rowIs b t 16 f)
    (h : wpList Try.prog ops Q rest (a.put o.dst (.agg (rowL 16 f).toArray)) w) : wpList Try.prog ops Q (o :: rest) a w :=
  wpList_load_row hgd 87 x ho b hx t _ (0, 0) _ (rowIs_heap hv) Try.underlying87 rfl (by rw [rowL_size]; exact sz_i16) h
theorem load_i16_run {b t : Nat} {f : Nat → Value} (hv : w.rowIs b t 16 f) : (loadVar 87 ⟨b, 0, none⟩).run Try.prog w = .ok (.agg (rowL 16 f).toArray) w := by
  have := run_loadVar_mid (P := Try.prog) w b 0 87 (rowL 16 f) _ (fun j v hj => by
    have h1 : j < 16 := by have := (List.getElem?_eq_some_iff.1 hj).1; rwa [rowL_length] at this
    rw [rowL_get _ _ _ h1] at hj
    rw [Nat.zero_add, ← Option.some.inj hj]
    exact World.rowIs.cell hv h1) Try.underlying87 rfl (by rw [rowL_length]; exact sz_i16)
  simpa using this
theorem sz_b16 : (Try.prog.info? 94).map (·.size) = some 16 := by kernel_rfl
theorem load_b16 (hgd : o.guard = none) (x : Operand) (ho : o.op = .load 94 x) (b : Nat) (hx : a.eval x = .pointer (some ⟨b, 0, none⟩)) (t : Nat) (f : Nat → Value) (hv : w.rowIs b t 16 f)
    (h : wpList Try.prog ops Q rest (a.put o.dst (.agg (rowL 16 f).toArray)) w) : wpList Try.prog ops Q (o :: rest) a w :=
  wpList_load_row hgd 94 x ho b hx t _ (0, 0) _ (rowIs_heap hv) Try.underlying94 rfl (by rw [rowL_size]; exact sz_b16) h
/-- An array stored whole. -/
theorem store_vec (hgd : o.guard = none) (ty : TypeId) (x y : Operand) (ho : o.op = .store ty x y) (b : Nat) (hx : a.eval x = .pointer (some ⟨b, 0, none⟩)) (n : Nat) (g : Nat → Value) (hy : a.eval y = .agg (rowL n g).toArray) (t : Nat) (f : Nat → Value) (hv : w.rowIs b t n f)
    (hi : (Try.prog.info? ty).map (·.size) = some n) (hone : ∀ i, (g i).oneCell' = true)
    (h : ∀ w', w'.rowIs b t n g → (∀ k, k ≠ b → w'.heap[k]? = w.heap[k]?) → (∀ (B : Nat) (a : World), B ≤ b → Below B a w → Below B a w') → wpList Try.prog ops Q rest (a.put o.dst undef) w') : wpList Try.prog ops Q (o :: rest) a w := by
  refine wpList_store_mid hgd ty x y ho b 0 (rowL n g).toArray hx hy (by rw [rowL_size]; exact rowIs_there hv _ _ (by omega)) (by rw [rowL_size]; exact hi) (all_oneCell_toArray fun v hv => by unfold rowL at hv; obtain ⟨i, _, rfl⟩ := List.mem_map.1 hv; exact hone i) ?_
  exact h _ (World.rowIs.congr (rowIs_setCells _ _ _ _ hv) fun i hi => put_all _ _ _ _ hi) (fun k hk => block_setCells hk _ _ _) (fun B a hB hb => below_setCells hB _ _ hb)
end
end Go.Proofs.Ytbmkkaecfogmoaa

/- Classes of equal states over an array: the reference's l01Same, l01Classes. -/
namespace Go.Proofs.Ytbmkkaecfogmoaa
open Go.RowKit
set_option linter.unusedVariables false
set_option linter.unusedSimpArgs false
-- @LONG

/-- Numbers in an array. -/
def vI (f : Nat → Nat) (j : Nat) : Value := .int .i64 (f j : Nat)
theorem vI_one (f : Nat → Nat) (i : Nat) : (vI f i).oneCell' = true := rfl
def cv (T : Tab) (k : Nat) (j : Nat) : Nat := if j < T.n then cls T k j else 0
theorem cv_in {T : Tab} {k j : Nat} (h : j < T.n) : cv T k j = cls T k j := by unfold cv; rw [if_pos h]
/-- As far as it is written. -/
def fl (f : Nat → Nat) (q : Nat) (j : Nat) : Nat := if j < q then f j else 0
set_option maxHeartbeats 4000000 in
set_option maxRecDepth 100000 in
theorem l01Same_any (w : World) (m : Mach) (l s : Nat) (g : Good m l s) (hk : m.Ok) (f : Nat → Nat) (q r : Nat) (hq : q < s) (hr : r < s) (R : Bool) (hR : Tells R ((∀ x, x < l → m.ot (q * 3 + x) = m.ot (r * 3 + x)) ∧ ∀ x, x < l → f (m.nx (q * 3 + x)) = f (m.nx (r * 3 + x)))) :
    Calls Try.prog 194 #[.agg (mcells m), .agg (rowL 16 (vI f)).toArray, .int .i64 q, .int .i64 r] w fun e w' => e = .returned (.bool R) ∧ Below w.heap.size w w' := by
  have hS := (((St.start w).newMB m 27).newVec 87 16 (vI f))
  rw [heap_alloc_size] at hS
  replace hS := hid hS
  have l2 := g.l2; have l3 := g.l3; have s16 := g.s16
  have gL := hid g.L
  have hnx := hid (fun q x (hq : q < s) (hx : x < l) => (show m.nx (q * 3 + x) < 16 from by have := g.nx q x hq hx; omega))
  have hot := hid (fun q x (hq : q < s) (hx : x < l) => (show m.ot (q * 3 + x) < 3 from by have := g.ot q x hq hx; omega))
  replace hR := hid hR
  replace hk := hid hk
  clear g
  generalize (rowL 16 (vI f)).toArray = RW at *
  go_enter Try.func194, Try.ntmps194
  go_wp2
  go_loopw [9] (fun i wr => ∃ x : Nat, x ≤ l ∧ i = .int .i64 x ∧ Hid (∀ y, y < x → m.ot (q * 3 + y) = m.ot (r * 3 + y) ∧ f (m.nx (q * 3 + y)) = f (m.nx (r * 3 + y))) ∧ St w.heap.size w [Asn.vec (w.heap.size + 1) 87 16 (vI f), Asn.mb 27 w.heap.size m] wr) (fun i _ => l - (intOf i).toNat)
  case atStart => exact ⟨0, Nat.zero_le _, rfl, hid (fun y h => absurd h (Nat.not_lt_zero _)), hS.out⟩
  case round =>
    obtain ⟨x, hx, rfl, hp, rS⟩ := hrel
    clear hS
    have cL := rS.m1.cL
    rw [gL.out] at cL
    by_cases hlx : x < l
    · have dx : decide ((x : Int) < (l : Int)) = true := decide_eq_true (by omega)
      have n1 := hnx.out q x hq hlx
      have n2 := hnx.out r x hr hlx
      have o1 := hot.out q x hq hlx
      have o2 := hot.out r x hr hlx
      have c1 := rS.m1.cot q x (by omega) (by omega)
      have c2 := rS.m1.cot r x (by omega) (by omega)
      have c3 := rS.m1.cnx q x (by omega) (by omega)
      have c4 := rS.m1.cnx r x (by omega) (by omega)
      have c5 : wr.cell? ⟨w.heap.size + 1, m.nx (q * 3 + x), none⟩ = some (.int .i64 (f (m.nx (q * 3 + x)) : Nat)) := rS.v0.cell n1
      have c6 : wr.cell? ⟨w.heap.size + 1, m.nx (r * 3 + x), none⟩ = some (.int .i64 (f (m.nx (r * 3 + x)) : Nat)) := rS.v0.cell n2
      have hno1 := hid (fun (h : m.ot (q * 3 + x) ≠ m.ot (r * 3 + x)) => (show R = false from by
        cases R with
        | false => rfl
        | true => exact absurd ((hR.out.out.1 rfl).1 x hlx) h))
      have hno2 := hid (fun (h : f (m.nx (q * 3 + x)) ≠ f (m.nx (r * 3 + x))) => (show R = false from by
        cases R with
        | false => rfl
        | true => exact absurd ((hR.out.out.1 rfl).2 x hlx) h))
      have hp2 := hid (fun (h1 : m.ot (q * 3 + x) = m.ot (r * 3 + x)) (h2 : f (m.nx (q * 3 + x)) = f (m.nx (r * 3 + x))) y (hy : y < x + 1) => (show m.ot (q * 3 + y) = m.ot (r * 3 + y) ∧ f (m.nx (q * 3 + y)) = f (m.nx (r * 3 + y)) from by
        by_cases e : y = x
        · subst e; exact ⟨h1, h2⟩
        · exact hp.out y (by omega)))
      generalize f (m.nx (q * 3 + x)) = f1 at *
      generalize f (m.nx (r * 3 + x)) = f2 at *
      generalize m.nx (q * 3 + x) = v1 at *
      generalize m.nx (r * 3 + x) = v2 at *
      generalize m.ot (q * 3 + x) = y1 at *
      generalize m.ot (r * 3 + x) = y2 at *
      have x0 : (0 : Int) ≤ (x : Int) := Int.natCast_nonneg _
      have x1 : (x : Int) < 3 := by omega
      have q0 : (0 : Int) ≤ (q : Int) := Int.natCast_nonneg _
      have q1 : (q : Int) < 16 := by omega
      have r0 : (0 : Int) ≤ (r : Int) := Int.natCast_nonneg _
      have r1 : (r : Int) < 16 := by omega
      have v10 : (0 : Int) ≤ (v1 : Int) := Int.natCast_nonneg _
      have v11 : (v1 : Int) < 16 := by omega
      have v20 : (0 : Int) ≤ (v2 : Int) := Int.natCast_nonneg _
      have v21 : (v2 : Int) < 16 := by omega
      replace rS := hid rS
      by_cases e1 : y1 = y2
      · subst e1
        have d1 : (((y1 : Nat) : Int) != ((y1 : Nat) : Int)) = false := by simp
        by_cases e2 : f1 = f2
        · subst e2
          have d2 : (((f1 : Nat) : Int) != ((f1 : Nat) : Int)) = false := by simp
          go_upto_region 4 with (fail)
          go_quiet (fail)
          replace rS := hid (rS.out.drewN nq)
          clear c1 c2 c3 c4 c5 c6 cL
          go_wp2
          go_roundw
          case rel => exact ⟨x + 1, by omega, by go_num, hid (hp2.out rfl rfl), rS.out⟩
          case measure => simp [intOf]; omega
        · have d2 : (((f1 : Nat) : Int) != ((f2 : Nat) : Int)) = true := by simp; omega
          have hRf := hid (hno2.out e2)
          go_upto_region 4 with (fail)
          go_quiet (fail)
          replace rS := hid (rS.out.drewN nq)
          clear c1 c2 c3 c4 c5 c6 cL
          go_wp2
          go_ret
          exact ⟨retB hRf.out.symm, rS.out.bel⟩
      · have d1 : (((y1 : Nat) : Int) != ((y2 : Nat) : Int)) = true := by simp; omega
        have hRf := hid (hno1.out e1)
        go_upto_region 4 with (fail)
        go_quiet (fail)
        replace rS := hid (rS.out.drewN nq)
        clear c1 c2 c3 c4 c5 c6 cL
        go_wp2
        go_ret
        exact ⟨retB hRf.out.symm, rS.out.bel⟩
    · obtain rfl : x = l := by omega
      have dx : decide ((x : Int) < (x : Int)) = false := decide_eq_false (by omega)
      have hRt := hid (show R = true from hR.out.out.2 ⟨fun y hy => (hp.out y hy).1, fun y hy => (hp.out y hy).2⟩)
      replace rS := hid rS
      go_wp2
      go_ret
      exact ⟨retB hRt.out.symm, rS.out.bel⟩
set_option maxHeartbeats 8000000 in
set_option maxRecDepth 100000 in
theorem l01Classes_any (w : World) (m : Mach) (l s : Nat) (g : Good m l s) (hk : m.Ok) :
    Calls Try.prog 92 #[.agg (mcells m)] w fun e w' => e = .returned (.agg (rowL 16 (vI (cv (tabOf m l s) (s + 1)))).toArray) ∧ Below w.heap.size w w' := by
  obtain ⟨T, hTe⟩ : ∃ T, T = tabOf m l s := ⟨_, rfl⟩
  have hTn : T.n = s := by rw [hTe]; rfl
  have hTL : T.L = l := by rw [hTe]; rfl
  have hsm := hid (fun W (f : Nat → Nat) (q r : Nat) (hq : q < s) (hr : r < s) R hR => l01Same_any W m l s g hk f q r hq hr R hR)
  have hlk := hid (fun k r q => (show like T (cls T k) r q = true ↔ cls T k r = cls T k q ∧ (∀ x, x < l → m.ot (r * 3 + x) = m.ot (q * 3 + x)) ∧ ∀ x, x < l → cls T k (m.nx (r * 3 + x)) = cls T k (m.nx (q * 3 + x)) from by
    have h := like_iff T (cls T k) r q
    rw [hTL, hTe] at h
    rw [hTe]; exact h))
  have hci := hid (fun k r q => cls_iff T k r q)
  have hcq := hid (fun k q (h : ∀ j, j < q → like T (cls T k) j q = false) => (show cls T (k + 1) q = q from by rw [cls_succ]; exact fst_eq _ _ _ (Nat.le_refl _) h (fun h' => absurd h' (Nat.lt_irrefl _))))
  have hnx := hid (fun q x (hq : q < s) (hx : x < l) => g.nx q x hq hx)
  have hS := (((St.start w).newMB m 27).newI16 87).newI16 87
  simp only [heap_alloc_size] at hS
  have hcv0 : (fun _ => 0) = cv T 0 := by funext j; unfold cv; split <;> rfl
  replace hS := hid (hS.vecEq (g := vI (cv T 0)) (by rw [← hcv0]; rfl))
  have gS := hid g.S
  have s16 := g.s16
  have s1 := g.s1
  have hcvi := hid (fun k j (h : j < s) => cv_in (T := T) (k := k) (show j < T.n by rw [hTn]; exact h))
  have hcvd := hid (fun k => (show fl (cls T k) s = cv T k from by funext j; unfold fl cv; rw [hTn]))
  rw [← hTe]
  clear hTe hTn hTL hcv0 g
  replace hk := hid hk
  have hle1 := hid (show w.heap.size ≤ w.heap.size + 1 by omega)
  have hle2 := hid (show w.heap.size ≤ w.heap.size + 1 + 1 by omega)
  go_enter Try.func92, Try.ntmps92
  go_wp2
  go_loopw [4] (fun i wr => ∃ k : Nat, k ≤ s + 1 ∧ i = .int .i64 k ∧ St w.heap.size w [Asn.vec (w.heap.size + 1 + 1) 87 16 (vI (cv T k)), Asn.vec (w.heap.size + 1) 87 16 (fun _ => .int .i64 0), Asn.mb 27 w.heap.size m] wr) (fun i _ => s + 1 - (intOf i).toNat)
  case atStart => exact ⟨0, Nat.zero_le _, rfl, hS.out⟩
  case round =>
    obtain ⟨k, hk1, rfl, rS⟩ := hrel
    clear hS
    have cS := rS.m2.cS
    rw [gS.out] at cS
    by_cases hlk1 : k ≤ s
    · have dk : decide ((k : Int) ≤ (s : Int)) = true := decide_eq_true (by omega)
      have rS2 := rS.newI16 87
      have hfl0 : (fun _ => 0) = fl (cls T (k + 1)) 0 := by funext j; unfold fl; rw [if_neg (Nat.not_lt_zero _)]
      have hg := hid rS.le
      replace rS := hid rS
      go_upto_region 6 with (fail)
      clear cS
      replace rS2 := hid (rS2.vecEq (g := vI (fl (cls T (k + 1)) 0)) (by rw [← hfl0]; rfl))
      clear rS hfl0
      generalize wr.heap.size = gn at *
      generalize World.alloc wr _ = w1 at *
      go_wp2
      go_loopw [6] (fun i wr => ∃ q : Nat, q ≤ s ∧ i = .int .i64 q ∧ St w.heap.size w [Asn.vec gn 87 16 (vI (fl (cls T (k + 1)) q)), Asn.vec (w.heap.size + 1 + 1) 87 16 (vI (cv T k)), Asn.vec (w.heap.size + 1) 87 16 (fun _ => .int .i64 0), Asn.mb 27 w.heap.size m] wr) (fun i _ => s - (intOf i).toNat)
      case atStart => exact ⟨0, Nat.zero_le _, rfl, rS2.out⟩
      case round =>
        obtain ⟨q, hq, rfl, rS⟩ := hrel
        clear rS2
        have cS := rS.m3.cS
        rw [gS.out] at cS
        by_cases hlq : q < s
        · have dq : decide ((q : Int) < (s : Int)) = true := decide_eq_true (by omega)
          have q0 : (0 : Int) ≤ (q : Int) := Int.natCast_nonneg _
          have q1 : (q : Int) < 16 := by omega
          have c0 : wr.cell? ⟨gn, q, none⟩ = some _ := rS.v0.cell (i := q) (by omega)
          have f0 : wr.frozen? ⟨gn, q, none⟩ = false := rS.v0.frozen _
          have rS2 := rS.setVec hg.out q (.int .i64 (q : Int)) (fun j => if j = q then .int .i64 (q : Int) else vI (fl (cls T (k + 1)) q) j) (fun j hj => rfl)
          replace rS := hid rS
          replace rS2 := hid rS2
          go_upto_region 10 with (fail)
          clear cS c0 f0 rS
          generalize World.setCell wr _ _ = w2 at *
          go_wp2
          go_loopw [7] (fun i wr => ∃ r : Nat, r ≤ q ∧ i = .int .i64 r ∧ Hid (∀ j, j < r → like T (cls T k) j q = false) ∧ St w.heap.size w [Asn.vec gn 87 16 (fun j => if j = q then .int .i64 (q : Int) else vI (fl (cls T (k + 1)) q) j), Asn.vec (w.heap.size + 1 + 1) 87 16 (vI (cv T k)), Asn.vec (w.heap.size + 1) 87 16 (fun _ => .int .i64 0), Asn.mb 27 w.heap.size m] wr) (fun i _ => q - (intOf i).toNat)
          case atStart => exact ⟨0, Nat.zero_le _, rfl, hid (fun j h => absurd h (Nat.not_lt_zero _)), rS2.out⟩
          case round =>
            obtain ⟨r, hr, rfl, hno, rS⟩ := hrel
            clear rS2
            by_cases hrq : r < q
            · have dr : decide ((r : Int) < (q : Int)) = true := decide_eq_true (by omega)
              have r0 : (0 : Int) ≤ (r : Int) := Int.natCast_nonneg _
              have r1 : (r : Int) < 16 := by omega
              have hl := hid (hlk.out k r q)
              have hnext := hid (fun (h : like T (cls T k) r q = false) j (hj : j < r + 1) => (show like T (cls T k) j q = false from by
                by_cases e : j = r
                · subst e; exact h
                · exact hno.out j (by omega)))
              have e1 := hcvi.out k q hlq
              have e2 := hcvi.out k r (by omega)
              have hT0 := hid (fun W (h : St w.heap.size w [Asn.vec gn 87 16 (fun j => if j = q then .int .i64 (q : Int) else vI (fl (cls T (k + 1)) q) j), Asn.vec (w.heap.size + 1 + 1) 87 16 (vI (cv T k)), Asn.vec (w.heap.size + 1) 87 16 (fun _ => .int .i64 0), Asn.mb 27 w.heap.size m] W) => (show W.cell? ⟨w.heap.size + 1 + 1, q, none⟩ = some (.int .i64 (cls T k q : Nat)) ∧ W.cell? ⟨w.heap.size + 1 + 1, r, none⟩ = some (.int .i64 (cls T k r : Nat)) ∧ W.rowIs (w.heap.size + 1 + 1) 87 16 (vI (cv T k)) ∧ MB W 27 w.heap.size m from by
                refine ⟨?_, ?_, h.v1, h.m3⟩
                · rw [← e1]; exact h.v1.cell (by omega)
                · rw [← e2]; exact h.v1.cell (by omega)))
              have hcr := hid ((hci.out k r q))
              have hsq := hid (fun R hR W => hsm.out W (cv T k) q r hlq (by omega) R hR)
              have hlike := hid (fun (R : Bool) (hR : Tells R ((∀ x, x < l → m.ot (q * 3 + x) = m.ot (r * 3 + x)) ∧ ∀ x, x < l → cv T k (m.nx (q * 3 + x)) = cv T k (m.nx (r * 3 + x)))) (hc : cls T k q = cls T k r) => (show like T (cls T k) r q = R from by
                have key : (like T (cls T k) r q = true ↔ R = true) := by
                  rw [hl.out, hR.out]
                  constructor
                  · rintro ⟨_, h2, h3⟩
                    refine ⟨fun x hx => (h2 x hx).symm, fun x hx => ?_⟩
                    rw [hcvi.out k _ (hnx.out q x hlq hx), hcvi.out k _ (hnx.out r x (by omega) hx)]
                    exact (h3 x hx).symm
                  · rintro ⟨h2, h3⟩
                    refine ⟨hc.symm, fun x hx => (h2 x hx).symm, fun x hx => ?_⟩
                    have := h3 x hx
                    rw [hcvi.out k _ (hnx.out q x hlq hx), hcvi.out k _ (hnx.out r x (by omega) hx)] at this
                    exact this.symm
                rw [Bool.eq_iff_iff]; exact key))
              clear e1 e2
              by_cases hcc : cls T k q = cls T k r
              · obtain ⟨R, hR⟩ : ∃ R : Bool, Tells R ((∀ x, x < l → m.ot (q * 3 + x) = m.ot (r * 3 + x)) ∧ ∀ x, x < l → cv T k (m.nx (q * 3 + x)) = cv T k (m.nx (r * 3 + x))) := by
                  classical
                  exact ⟨decide _, decide_eq_true_iff⟩
                have hlR := hid (hlike.out R hR hcc)
                have hcall := hid (hsq.out R hR)
                rw [hcc] at hT0
                have hz : (((cls T k r : Nat) : Int) == ((cls T k r : Nat) : Int)) = true := by simp
                clear hR hsq hlike
                generalize hcrv : cls T k r = cr at *
                replace hcrv := hid hcrv; replace hcc := hid hcc
                replace rS := hid rS
                go_upto_region 13 with (fail)
                replace rS := hid rS.out.drew
                have T0 := hT0.out _ rS.out
                refine wp_region_heldL (L := [(12, (fun w' : World => w'.cell? ⟨w.heap.size + 1 + 1, q, none⟩ = some (.int .i64 (cr : Nat)) ∧ w'.cell? ⟨w.heap.size + 1 + 1, r, none⟩ = some (.int .i64 (cr : Nat)) ∧ w'.rowIs (w.heap.size + 1 + 1) 87 16 (vI (cv T k)) ∧ MB w' 27 w.heap.size m))]) (by kernel_rfl) (HeldL.cons (fun _ => T0) HeldL.nil) (fun hHeld => ?_)
                generalize wr.drew = wa at *
                refine wpAnyL_take0 (i := 0) (v := ?_) rfl (by kernel_rfl) (by kernel_rfl) (by kernel_rfl) (by rfl) (fun _ _ _ h => h) (Or.inl ⟨by rfl, ?_⟩) (by assumption) ?_
                rotate_left
                · (intro W _; go_simp; (with_reducible rfl))
                intro hHeld'
                clear hHeld; have hHeld := hHeld'; clear hHeld'
                try simp only [Act.put, List.getElem_toArray, List.getElem_cons_succ, List.getElem_cons_zero, List.setIfInBounds_toArray, List.set_cons_zero, List.set_cons_succ]
                refine wpAnyL_take0 (i := 1) (v := ?_) rfl (by kernel_rfl) (by kernel_rfl) (by kernel_rfl) (by rfl) (fun _ _ _ h => h) (Or.inl ⟨by rfl, ?_⟩) (by assumption) ?_
                rotate_left
                · (intro W _; go_simp; (with_reducible rfl))
                intro hHeld'
                clear hHeld; have hHeld := hHeld'; clear hHeld'
                try simp only [Act.put, List.getElem_toArray, List.getElem_cons_succ, List.getElem_cons_zero, List.setIfInBounds_toArray, List.set_cons_zero, List.set_cons_succ]
                refine wpAnyL_takeP (i := 2) 12 [7, 6] (v := (.int .i64 (cr : Nat))) (fun w' : World => w'.cell? ⟨w.heap.size + 1 + 1, q, none⟩ = some (.int .i64 (cr : Nat)) ∧ w'.cell? ⟨w.heap.size + 1 + 1, r, none⟩ = some (.int .i64 (cr : Nat)) ∧ w'.rowIs (w.heap.size + 1 + 1) 87 16 (vI (cv T k)) ∧ MB w' 27 w.heap.size m) rfl (by kernel_rfl) (by kernel_rfl) (by kernel_rfl) (by rfl) (by kernel_rfl) (by simp) (fun _ _ _ h => h) (Or.inl ⟨by rfl, ?_⟩) (by assumption) ?_
                · (intro W hW; (replace hW := hW.1); go_simp)
                intro hHeld'
                clear hHeld; have hHeld := hHeld'; clear hHeld'
                try simp only [Act.put, List.getElem_toArray, List.getElem_cons_succ, List.getElem_cons_zero, List.setIfInBounds_toArray, List.set_cons_zero, List.set_cons_succ]
                refine wpAnyL_take0 (i := 3) (v := ?_) rfl (by kernel_rfl) (by kernel_rfl) (by kernel_rfl) (by rfl) (fun _ _ _ h => h) (Or.inl ⟨by rfl, ?_⟩) (by assumption) ?_
                rotate_left
                · (intro W _; go_simp; (with_reducible rfl))
                intro hHeld'
                clear hHeld; have hHeld := hHeld'; clear hHeld'
                try simp only [Act.put, List.getElem_toArray, List.getElem_cons_succ, List.getElem_cons_zero, List.setIfInBounds_toArray, List.set_cons_zero, List.set_cons_succ]
                refine wpAnyL_take0 (i := 4) (v := ?_) rfl (by kernel_rfl) (by kernel_rfl) (by kernel_rfl) (by rfl) (fun _ _ _ h => h) (Or.inl ⟨by rfl, ?_⟩) (by assumption) ?_
                rotate_left
                · (intro W _; go_simp; (with_reducible rfl))
                intro hHeld'
                clear hHeld; have hHeld := hHeld'; clear hHeld'
                try simp only [Act.put, List.getElem_toArray, List.getElem_cons_succ, List.getElem_cons_zero, List.setIfInBounds_toArray, List.set_cons_zero, List.set_cons_succ]
                refine wpAnyL_takeP (i := 5) 12 [7, 6] (v := (.int .i64 (cr : Nat))) (fun w' : World => w'.cell? ⟨w.heap.size + 1 + 1, q, none⟩ = some (.int .i64 (cr : Nat)) ∧ w'.cell? ⟨w.heap.size + 1 + 1, r, none⟩ = some (.int .i64 (cr : Nat)) ∧ w'.rowIs (w.heap.size + 1 + 1) 87 16 (vI (cv T k)) ∧ MB w' 27 w.heap.size m) rfl (by kernel_rfl) (by kernel_rfl) (by kernel_rfl) (by rfl) (by kernel_rfl) (by simp) (fun _ _ _ h => h) (Or.inl ⟨by rfl, ?_⟩) (by assumption) ?_
                · (intro W hW; (replace hW := hW.2.1); go_simp)
                intro hHeld'
                clear hHeld; have hHeld := hHeld'; clear hHeld'
                try simp only [Act.put, List.getElem_toArray, List.getElem_cons_succ, List.getElem_cons_zero, List.setIfInBounds_toArray, List.set_cons_zero, List.set_cons_succ]
                refine wpAnyL_take0 (i := 6) (v := ?_) rfl (by kernel_rfl) (by kernel_rfl) (by kernel_rfl) (by rfl) (fun _ _ _ h => h) (Or.inl ⟨by rfl, ?_⟩) (by assumption) ?_
                rotate_left
                · (intro W _; go_simp; (with_reducible rfl))
                intro hHeld'
                clear hHeld; have hHeld := hHeld'; clear hHeld'
                try simp only [Act.put, List.getElem_toArray, List.getElem_cons_succ, List.getElem_cons_zero, List.setIfInBounds_toArray, List.set_cons_zero, List.set_cons_succ]
                refine wpAnyL_take0 (i := 7) (v := ?_) rfl (by kernel_rfl) (by kernel_rfl) (by kernel_rfl) (by rfl) (fun _ _ _ h => h) (Or.inl ⟨by rfl, ?_⟩) (by assumption) ?_
                rotate_left
                · (intro W _; go_simp; (with_reducible rfl))
                intro hHeld'
                clear hHeld; have hHeld := hHeld'; clear hHeld'
                try simp only [Act.put, List.getElem_toArray, List.getElem_cons_succ, List.getElem_cons_zero, List.setIfInBounds_toArray, List.set_cons_zero, List.set_cons_succ]
                refine wpAnyL_takeP (i := 8) 12 [] (v := (.agg (mcells m))) (fun w' : World => w'.cell? ⟨w.heap.size + 1 + 1, q, none⟩ = some (.int .i64 (cr : Nat)) ∧ w'.cell? ⟨w.heap.size + 1 + 1, r, none⟩ = some (.int .i64 (cr : Nat)) ∧ w'.rowIs (w.heap.size + 1 + 1) 87 16 (vI (cv T k)) ∧ MB w' 27 w.heap.size m) rfl (by kernel_rfl) (by kernel_rfl) (by kernel_rfl) (by rfl) (by kernel_rfl) (by simp) (fun _ _ _ h => h) (Or.inl ⟨by rfl, ?_⟩) (by assumption) ?_
                · (intro W hW; exact exec_load _ rfl rfl (load_run hW.2.2.2))
                intro hHeld'
                clear hHeld; have hHeld := hHeld'; clear hHeld'
                try simp only [Act.put, List.getElem_toArray, List.getElem_cons_succ, List.getElem_cons_zero, List.setIfInBounds_toArray, List.set_cons_zero, List.set_cons_succ]
                refine wpAnyL_takeP (i := 9) 12 [] (v := (.agg (rowL 16 (vI (cv T k))).toArray)) (fun w' : World => w'.cell? ⟨w.heap.size + 1 + 1, q, none⟩ = some (.int .i64 (cr : Nat)) ∧ w'.cell? ⟨w.heap.size + 1 + 1, r, none⟩ = some (.int .i64 (cr : Nat)) ∧ w'.rowIs (w.heap.size + 1 + 1) 87 16 (vI (cv T k)) ∧ MB w' 27 w.heap.size m) rfl (by kernel_rfl) (by kernel_rfl) (by kernel_rfl) (by rfl) (by kernel_rfl) (by simp) (fun _ _ _ h => h) (Or.inl ⟨by rfl, ?_⟩) (by assumption) ?_
                · (intro W hW; exact exec_load _ rfl rfl (load_i16_run hW.2.2.1))
                intro hHeld'
                clear hHeld; have hHeld := hHeld'; clear hHeld'
                try simp only [Act.put, List.getElem_toArray, List.getElem_cons_succ, List.getElem_cons_zero, List.setIfInBounds_toArray, List.set_cons_zero, List.set_cons_succ]
                refine wpAnyL_take0 (i := 10) (v := ?_) rfl (by kernel_rfl) (by kernel_rfl) (by kernel_rfl) (by rfl) (fun _ _ _ h => h) (Or.inl ⟨by rfl, ?_⟩) (by assumption) ?_
                rotate_left
                · (intro W _; go_simp; (with_reducible rfl))
                intro hHeld'
                clear hHeld; have hHeld := hHeld'; clear hHeld'
                try simp only [Act.put, List.getElem_toArray, List.getElem_cons_succ, List.getElem_cons_zero, List.setIfInBounds_toArray, List.set_cons_zero, List.set_cons_succ]
                refine wpAnyL_take0 (i := 11) (v := ?_) rfl (by kernel_rfl) (by kernel_rfl) (by kernel_rfl) (by rfl) (fun _ _ _ h => h) (Or.inl ⟨by rfl, ?_⟩) (by assumption) ?_
                rotate_left
                · (intro W _; go_simp; (with_reducible rfl))
                intro hHeld'
                clear hHeld; have hHeld := hHeld'; clear hHeld'
                try simp only [Act.put, List.getElem_toArray, List.getElem_cons_succ, List.getElem_cons_zero, List.setIfInBounds_toArray, List.set_cons_zero, List.set_cons_succ]
                refine wpAnyL_ready (rs := [12]) (by kernel_rfl) (by simp) ?_
                refine AllReadyL.cons rfl (fun K hK => ?_) AllReadyL.nil
                go_simp
                (with_reducible refine (hcall.out _).mono ?_)
                rintro e w5 ⟨rfl, hb⟩
                replace rS := hid (rS.out.call hb)
                clear hb T0
                go_simp
                refine hK.out _ _ (HeldL.cons (fun h => absurd h (by decide +kernel)) HeldL.nil) (fun hHeld' => ?_)
                clear hK K hHeld; have hHeld := hHeld'; clear hHeld'
                try simp only [Act.put, List.getElem_toArray, List.getElem_cons_succ, List.getElem_cons_zero, List.setIfInBounds_toArray, List.set_cons_zero, List.set_cons_succ]
                refine wpAnyL_take0 (i := 13) (v := ?_) rfl (by kernel_rfl) (by kernel_rfl) (by kernel_rfl) (by rfl) (fun _ _ _ h => h) (Or.inl ⟨by rfl, ?_⟩) (by assumption) ?_
                rotate_left
                · (intro W _; go_simp; (with_reducible rfl))
                intro hHeld'
                clear hHeld; have hHeld := hHeld'; clear hHeld'
                try simp only [Act.put, List.getElem_toArray, List.getElem_cons_succ, List.getElem_cons_zero, List.setIfInBounds_toArray, List.set_cons_zero, List.set_cons_succ]
                refine wpAnyL_done (by kernel_rfl) ?_ _
                cases R with
                | false =>
                  have hn2 := hid (hnext.out hlR.out)
                  go_wp2
                  go_roundw
                  case rel => exact ⟨r + 1, by omega, by go_num, hn2, rS.out⟩
                  case measure => simp [intOf]; omega
                | true =>
                  have hce := hid (hcr.out.2 hlR.out)
                  have cN : w5.cell? ⟨gn, r, none⟩ = some (.int .i64 (cls T (k + 1) r : Nat)) := (rS.out.v0.cell (i := r) (by omega)).trans (by rw [if_neg (by omega)]; unfold vI fl; rw [if_pos hrq])
                  have cQ : w5.cell? ⟨gn, q, none⟩ = some (.int .i64 (q : Int)) := (rS.out.v0.cell (i := q) (by omega)).trans (by rw [if_pos rfl])
                  have fQ : w5.frozen? ⟨gn, q, none⟩ = false := rS.out.v0.frozen _
                  rw [hce.out] at cN
                  have rS3 := hid (rS.out.setVec hg.out q (.int .i64 (cls T (k + 1) q : Nat)) (vI (fl (cls T (k + 1)) (q + 1))) (fun j hj => by
                    unfold vI fl
                    by_cases e : j = q
                    · subst e; rw [if_pos rfl, if_pos (by omega)]
                    · rw [if_neg e, if_neg e]
                      by_cases h : j < q
                      · rw [if_pos h, if_pos (by omega)]
                      · rw [if_neg h, if_neg (by omega)]))
                  generalize hcn : cls T (k + 1) q = cn at *
                  replace hcn := hid hcn
                  clear rS
                  go_wp2
                  go_roundw
                  case rel => exact ⟨q + 1, by omega, by go_num, rS3.out⟩
                  case measure => simp [intOf]; omega
              · have hz : (((cls T k q : Nat) : Int) == ((cls T k r : Nat) : Int)) = false := by simp; omega
                have hn2 := hid (hnext.out (by
                  cases hlv : like T (cls T k) r q with
                  | false => rfl
                  | true => exact absurd (hl.out.1 hlv).1.symm hcc))
                obtain ⟨t1, t2, _, _⟩ := hT0.out _ rS
                clear hT0 hsq hlike hl hnext hcr
                generalize cls T k q = cq at *
                generalize cls T k r = cr at *
                replace hcc := hid hcc
                replace rS := hid rS
                go_upto_region 13 with (fail)
                go_quiet (fail)
                replace rS := hid (rS.out.drewN nq)
                clear t1 t2
                go_wp2
                go_roundw
                case rel => exact ⟨r + 1, by omega, by go_num, hn2, rS.out⟩
                case measure => simp [intOf]; omega
            · obtain rfl : r = q := by omega
              have dr : decide ((r : Int) < (r : Int)) = false := decide_eq_false (by omega)
              have hqq := hid (hcq.out k r hno.out)
              have rS3 := hid (show St w.heap.size w [Asn.vec gn 87 16 (vI (fl (cls T (k + 1)) (r + 1))), _, _, _] _ from by
                have e : (fun j => if j = r then Value.int .i64 (r : Int) else vI (fl (cls T (k + 1)) r) j) = vI (fl (cls T (k + 1)) (r + 1)) := by
                  funext j
                  unfold vI fl
                  by_cases e : j = r
                  · subst e; rw [if_pos rfl, if_pos (by omega), hqq.out]
                  · rw [if_neg e]
                    by_cases h : j < r
                    · rw [if_pos h, if_pos (by omega)]
                    · rw [if_neg h, if_neg (by omega)]
                rw [e] at rS; exact rS)
              clear rS
              go_wp2
              go_roundw
              case rel => exact ⟨r + 1, by omega, by go_num, rS3.out⟩
              case measure => simp [intOf]; omega
        · obtain rfl : q = s := by omega
          have dq : decide ((q : Int) < (q : Int)) = false := decide_eq_false (by omega)
          rw [hcvd.out] at rS
          have hvv := hid rS.v0
          have hv2 := hid rS.v1
          replace rS := hid rS
          go_wp2_with (first
            | ((with_reducible refine gate (N := 49) rfl ?_); refine load_i16 rfl _ rfl gn rfl _ _ hvv.out ?_)
            | ((with_reducible refine gateOp (op := .store 87 (.tmp 3) (.tmp 49)) rfl ?_); refine store_vec rfl 87 _ _ rfl (w.heap.size + 1 + 1) rfl 16 _ rfl _ _ hv2.out sz_i16 (fun i => rfl) ?_; intro w7 p2 ho hbl; replace rS := hid (rS.out.f1.turnVec hle2.out p2 ho hbl); clear p2 ho hbl hvv hv2 cS))
          go_roundw
          case rel => exact ⟨k + 1, by omega, by go_num, rS.out.f1.drop⟩
          case measure => simp [intOf]; omega
    · obtain rfl : k = s + 1 := by omega
      have dk : decide ((((s + 1 : Nat) : Int)) ≤ (s : Int)) = false := decide_eq_false (by omega)
      have hvv := hid rS.v0
      have hv2 := hid rS.v1
      replace rS := hid rS
      go_wp2_with (first
        | ((with_reducible refine gate (N := 50) rfl ?_); refine load_i16 rfl _ rfl (w.heap.size + 1 + 1) rfl _ _ hvv.out ?_)
        | ((with_reducible refine gateOp (op := .store 87 (.tmp 2) (.tmp 50)) rfl ?_); refine store_vec rfl 87 _ _ rfl (w.heap.size + 1) rfl 16 _ rfl _ _ hv2.out sz_i16 (fun i => rfl) ?_; intro w7 p2 ho hbl; replace rS := hid (rS.out.f1.turnVec hle1.out p2 ho hbl); clear p2 ho hbl hvv hv2 cS))
      exact ret_row (n := 16) rfl rfl rS.out.v0 Try.underlying87 rfl sz_i16 rfl ⟨rfl, rS.out.bel⟩
end Go.Proofs.Ytbmkkaecfogmoaa

/- The program's ActOnWord and InverseMachine. -/
namespace Go.Proofs.Ytbmkkaecfogmoaa
open Go.RowKit
set_option linter.unusedVariables false
set_option linter.unusedSimpArgs false
-- @LONG

theorem lets_len0 (ws : ByteArray) : (lets ws).length = ws.size := by unfold lets; rw [List.length_map, Array.length_toList]; rfl
theorem lets_wstr0 {u : List Nat} (hu : ∀ x ∈ u, x < 200) : lets (wstr u) = u := by
  apply List.ext_getElem (by rw [lets_len0, wstr_size])
  intro i h1 h2
  have hb := wstr_byte u i (by rw [wstr_size]; exact h2) hu
  have h1' : i < ((wstr u).data.toList.map fun b : UInt8 => b.toNat - 48).length := h1
  show ((wstr u).data.toList.map fun b : UInt8 => b.toNat - 48)[i]'h1' = u[i]
  rw [List.getElem_map, Array.getElem_toList]
  have e : ((wstr u).data[i]'(by rw [lets_len0] at h1; exact h1)).toNat = 48 + u.getD i 0 := by
    have : (wstr u)[i]'(by rw [wstr_size]; exact h2) = (wstr u).data[i]'(by rw [lets_len0] at h1; exact h1) := rfl
    rw [← this]; first | exact hb | (have := hb; omega)
  rw [e, List.getD_eq_getElem?_getD, List.getElem?_eq_getElem h2]
  simp
/-- What a state leads a word to, and the code. -/
noncomputable def aowAns (m : Mach) (q : Int) (ws : ByteArray) : ByteArray × Int := if codeI m ws [q] = 0 then (wstr (img m q.toNat (lets ws)), 0) else ({ data := #[] }, codeI m ws [q])
theorem aow_cases (m : Mach) (q : Int) (ws : ByteArray) : (codeI m ws [q] ≠ 0 ∧ aowAns m q ws = ({ data := #[] }, codeI m ws [q])) ∨ (∃ (l s q' : Nat) (u : List Nat), Good m l s ∧ q = q' ∧ q' < s ∧ ws = wstr u ∧ (∀ x ∈ u, x < l) ∧ u.length ≤ 40 ∧ codeI m ws [q] = 0 ∧ aowAns m q ws = (wstr (img m q' u), 0)) := by
  by_cases h : codeI m ws [q] = 0
  · refine .inr ?_
    by_cases hm : IsM m
    · obtain ⟨l, s, g⟩ := hm.good
      by_cases hw : IsWd l ws
      · by_cases hq : ∀ x ∈ [q], 0 ≤ x ∧ x < (s : Int)
        · have h1 := hq q (by simp)
          obtain ⟨q', rfl⟩ := Int.eq_ofNat_of_zero_le h1.1
          obtain ⟨e1, e2, e3⟩ := lets_wstr ws hw
          exact ⟨l, s, q', lets ws, g, rfl, by omega, e1, e2, by omega, h, by unfold aowAns; rw [if_pos h]; rfl⟩
        · rw [codeI_2 g hw hq] at h; cases h
      · rw [codeI_w g hw] at h; cases h
    · rw [codeI_1 hm] at h; cases h
  · exact .inl ⟨h, by unfold aowAns; rw [if_neg h]⟩
theorem aow_good {m : Mach} {l s q : Nat} {u : List Nat} (g : Good m l s) (hq : q < s) (hu : ∀ x ∈ u, x < l) (hl : u.length ≤ 40) : aowAns m (q : Int) (wstr u) = (wstr (img m q u), 0) := by
  have l3 := g.l3
  have hw : IsWd l (wstr u) := isWd_wstr (fun x hx => by have := hu x hx; omega) (by omega) hl
  have h0 : codeI m (wstr u) [(q : Int)] = 0 := codeI_0 g hw (fun x hx => by simp at hx; subst hx; omega)
  have e4 : lets (wstr u) = u := lets_wstr0 (fun x hx => by have := hu x hx; omega)
  unfold aowAns
  rw [if_pos h0, e4]; rfl

set_option maxHeartbeats 2000000 in
set_option maxRecDepth 100000 in
theorem implAow_any (w : World) (m : Mach) (hk : m.Ok) (q : Int) (ws : ByteArray) (hws : ws.size < 1000000000000) :
    Calls Try.prog 16 #[.agg (mcells m), .int .i64 q, .string ws] w fun e w' => e = .returned (.tuple #[.string (aowAns m q ws).1, .int .i64 (aowAns m q ws).2]) ∧ Below w.heap.size w w' := by
  have hS := hid ((St.start w).newMB m 27)
  have hcode := hid (fun W base v h => codeOf_any W m hk ws hws base v [q] h (by simp))
  have hown := hid (hS.out.newOwn [Value.int .i64 q] 2 (by simp))
  simp only [heap_alloc_size] at hown
  rcases aow_cases m q ws with ⟨h, hA⟩ | ⟨l, s, q, u, g, rfl, hq, rfl, hu, hl, h, hA⟩
  · rw [hA]
    have d0 : ((codeI m ws [q] : Int) != 0) = true := by simpa using h
    replace hk := hid hk
    clear hA h
    generalize codeI m ws [q] = c at *
    go_enter Try.func16, Try.ntmps16
    go_wp2_with (first
      | ((with_reducible refine gate (N := 11) rfl ?_); refine load_mach rfl _ rfl w.heap.size rfl m hS.out.m0 ?_)
      | (go_at_call 87; (with_reducible refine (hcode.out _ _ _ hown.out.o0).mono ?_); rintro e w1 ⟨rfl, hb⟩; replace hS := hid (hown.out.call hb).drop; clear hb hcode hown))
    go_ret2
    exact ⟨rfl, hS.out.bel⟩
  · rw [hA]
    rw [h] at hcode
    have hle := hid (fun W hW => lead_any w.heap.size W m hW l s g q hq u hu (by omega))
    clear h hA g
    replace hk := hid hk
    generalize wstr (img m q u) = r at *
    generalize sec m q u = sq at *
    generalize wstr u = ws at *
    go_enter Try.func16, Try.ntmps16
    go_wp2_with (first
      | ((with_reducible refine gate (N := 11) rfl ?_); refine load_mach rfl _ rfl w.heap.size rfl m hS.out.m0 ?_)
      | (go_at_call 87; (with_reducible refine (hcode.out _ _ _ hown.out.o0).mono ?_); rintro e w1 ⟨rfl, hb⟩; replace hS := hid (hown.out.call hb).drop; clear hb hcode hown)
      | (go_at_call 88; (with_reducible refine (hle.out _ hS.out.m0).mono ?_); rintro e w2 ⟨rfl, hb⟩; replace hS := hid (hS.out.call hb); clear hb))
    go_ret2
    exact ⟨rfl, hS.out.bel⟩

open Classical in
/-- The inverse machine and the code. -/
noncomputable def inmAns (m : Mach) : Mach × Int := if IsM m then (inv m m.L.toNat m.S.toNat, 0) else (⟨0, 0, fun _ => 0, fun _ => 0⟩, 1)
theorem inm_good {m : Mach} {l s : Nat} (g : Good m l s) : inmAns m = (inv m l s, 0) := by
  unfold inmAns; rw [if_pos g.isM, g.L, g.S]; rfl
end Go.Proofs.Ytbmkkaecfogmoaa
