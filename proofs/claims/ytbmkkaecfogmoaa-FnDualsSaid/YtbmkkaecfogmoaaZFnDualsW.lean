/- What the proof of FnDuals leans on, part 23 of 26. -/
import Derived.Test.YtbmkkaecfogmoaaZFnDualsV
/- The machine of a text: the reference's l01Read. -/
namespace Go.Proofs.Ytbmkkaecfogmoaa
open Go.RowKit
set_option linter.unusedVariables false
set_option linter.unusedSimpArgs false
-- @LONG

/-- A text begins like a machine's. -/
def HeadOk (t : ByteArray) : Prop := 2 ≤ t.size ∧ bt t 1 = 58 ∧ (bt t 0 = 50 ∨ bt t 0 = 51)
/-- A part is that of a state. -/
def PartOk (L : Nat) (p : ByteArray) : Prop := p.size = 2 * L ∧ ∀ x, x < L → (48 ≤ bt p (2 * x) ∧ bt p (2 * x) ≤ 50) ∧ 97 ≤ bt p (2 * x + 1) ∧ bt p (2 * x + 1) ≤ 112
def bpt (ps : List ByteArray) (q : Nat) : ByteArray := ps.getD q { data := #[] }
def rdP (L : Nat) (ps : List ByteArray) (q x : Nat) : Mach := filP L ps.length (fun q x => bt (bpt ps q) (2 * x + 1) - 97) (fun q x => bt (bpt ps q) (2 * x) - 48) q x
/-- The machine of parts. -/
def rdM (L : Nat) (ps : List ByteArray) : Mach := rdP L ps ps.length 0
def rdS (t : ByteArray) : List ByteArray := splL (t.extract 2 t.size) 44
open Classical in
/-- What l01Read answers. -/
noncomputable def rdAns (t : ByteArray) : Mach × Bool :=
  if HeadOk t ∧ (rdS t).length ≤ 16 ∧ ∀ p ∈ rdS t, PartOk (bt t 0 - 48) p then (rdM (bt t 0 - 48) (rdS t), decide (IsM (rdM (bt t 0 - 48) (rdS t)))) else (zeroM, false)
theorem rdP_ok (L : Nat) (ps : List ByteArray) (q x : Nat) : (rdP L ps q x).Ok := filP_ok (fun q x => by have := bt_lt (bpt ps q) (2 * x + 1); omega) (fun q x => by have := bt_lt (bpt ps q) (2 * x); omega) q x
theorem zeroM_ok : zeroM.Ok := fun _ => ⟨by show 0 < 256; omega, by show 0 < 256; omega⟩
theorem rdAns_ok (t : ByteArray) : (rdAns t).1.Ok := by
  unfold rdAns; split
  · exact rdP_ok _ _ _ _
  · exact zeroM_ok
open Classical in
set_option maxHeartbeats 4000000 in
set_option maxRecDepth 100000 in
theorem l01Read_any (w : World) (t : ByteArray) (hs : t.size ≤ 100000) :
    Calls Try.prog 167 #[.string t] w fun e w' => e = .returned (.tuple #[.agg (mcells (rdAns t).1), .bool (rdAns t).2]) ∧ Below w.heap.size w w' := by
  have hz := zeroM_run
  have hS := hid ((St.start w).newMB zeroM 27)
  by_cases h2 : 2 ≤ t.size
  · have hb1 : (t[1]'(by omega)).toNat = bt t 1 := bt_eq (by omega)
    have hb0 : (t[0]'(by omega)).toNat = bt t 0 := bt_eq (by omega)
    by_cases h58 : bt t 1 = 58
    · by_cases h50 : bt t 0 = 50 ∨ bt t 0 = 51
      · rcases h50 with h50 | h50
        · have hq : bt t 0 - 48 = 2 := by omega
          have h50' : bt t 0 = 50 ∨ bt t 0 = 51 := .inl h50
          rw [h50] at hb0
          have hb0 : (t[0]'(by omega)).toNat = 50 := hb0
          have hH : HeadOk t := ⟨h2, h58, h50'⟩
          have hAf := hid (fun (h : ¬ ((rdS t).length ≤ 16 ∧ ∀ p ∈ rdS t, PartOk 2 p)) => (show rdAns t = (zeroM, false) from by unfold rdAns; rw [if_neg (fun h' => h (by have h3 := h'.2; rw [hq] at h3; exact h3))]))
          have hAt := hid (fun (h16 : (rdS t).length ≤ 16) (hp : ∀ p ∈ rdS t, PartOk 2 p) => (show rdAns t = (rdM 2 (rdS t), decide (IsM (rdM 2 (rdS t)))) from by unfold rdAns; rw [hq, if_pos ⟨hH, h16, hp⟩]))
          have hsp := hid (fun W => l01Split_any W (t.extract 2 t.size) (by rw [ByteArray.size_extract]; omega) 44)
          simp only [show ((44 : Nat) : Int) = 44 from rfl] at hsp
          have hsp' := hid (show splL (t.extract 2 t.size) 44 = rdS t from rfl)
          rw [hsp'.out] at hsp
          have hpl := hid (splL_len (t.extract 2 t.size) 44)
          have hpz := hid (splL_sz (t.extract 2 t.size) 44)
          rw [hsp'.out] at hpl hpz
          have hxz : (t.extract 2 t.size).size ≤ 100000 := by rw [ByteArray.size_extract]; omega
          have d2 : decide ((t.size : Int) < 2) = false := decide_eq_false (by omega)
          have hz2 := hid (fun L W (h : St w.heap.size w L W) => h.newMB zeroM 27)
          have hil := hid (strs_length (rdS t))
          have hpn : 1 ≤ (rdS t).length := hpl.out.2
          have hpm : (rdS t).length ≤ 100001 := by have := hpl.out.1; omega
          rw [h58] at hb1
          clear hsp' h58 hH hq h50'
          generalize rdAns t = ans at *
          generalize rdS t = ps at *
          go_enter Try.func167, Try.ntmps167
          go_upto_region 5 with (first
            | (go_at_call 235; (with_reducible refine (hsp.out _).mono ?_); rintro e w1 ⟨v, rfl, hO, hb⟩; (obtain ⟨g, c, rfl, _, _⟩ := hO.blk (fun e => by have h1 := congrArg List.length e; rw [hil.out, List.length_nil] at h1; omega)); rw [hil.out] at hO ⊢; have hle2 := hid ((hS.out.call hb).le); replace hS := hid (hz2.out _ _ (hS.out.callOwn hb hO)); clear hb hO hsp)
            | ((with_reducible refine gate (N := 38) rfl ?_); refine build_mach rfl _ _ rfl 2 (ps.length : Int) rfl rfl ?_)
            | ((with_reducible refine gateOp (op := .store 27 (.tmp 5) (.tmp 38)) rfl ?_); refine store_mach rfl _ _ rfl w1.heap.size rfl ⟨2, (ps.length : Int), fun _ => 0, fun _ => 0⟩ rfl 27 _ hS.out.m0 ?_; intro w2 p3 ho hsz hbl; replace hS := hid (hS.out.setM hle2.out p3 ho hbl); clear p3 ho hsz hbl))
          generalize w1.heap.size = b5 at *
          by_cases h16 : ps.length ≤ 16
          · have d16 : decide ((ps.length : Int) > 16) = false := decide_eq_false (by omega)
            replace hS := hid (show St w.heap.size w [Asn.mb 27 b5 (rdP 2 ps 0 0), Asn.own w.heap.size 9 (.slice (some ⟨g, 0, none⟩) ps.length c) (strs ps), Asn.mb 27 w.heap.size zeroM] w2 from by
              rw [show rdP 2 ps 0 0 = ⟨2, (ps.length : Int), fun _ => 0, fun _ => 0⟩ from filP_zero]; exact hS.out)
            go_wp2
            go_loopw [6] (fun i wr => ∃ q : Nat, q ≤ ps.length ∧ i = .int .i64 q ∧ Hid (∀ p ∈ ps.take q, PartOk 2 p) ∧ St w.heap.size w [Asn.mb 27 b5 (rdP 2 ps q 0), Asn.own w.heap.size 9 (.slice (some ⟨g, 0, none⟩) ps.length c) (strs ps), Asn.mb 27 w.heap.size zeroM] wr) (fun i _ => ps.length - (intOf i).toNat)
            case atStart => exact ⟨0, Nat.zero_le _, rfl, hid (fun p hp => by simp at hp), hS.out⟩
            case round =>
              obtain ⟨q, hq, rfl, hpk, rS⟩ := hrel
              clear hS hb0 hb1 d2 d16
              have cL : wr.cell? ⟨b5, 0, none⟩ = some (.int .i64 2) := rS.m0.cL
              replace rS := hid rS
              by_cases hlt : q < ps.length
              · have dq : decide ((q : Int) < (ps.length : Int)) = true := decide_eq_true (by omega)
                obtain ⟨p, hp⟩ : ∃ p, ps[q]? = some p := ⟨_, List.getElem?_eq_getElem hlt⟩
                have cp := rS.out.o1.cellAt q (.string p) (by simp [strs, hp])
                have hpm' := hid (List.mem_of_getElem? hp)
                have hpsz : p.size ≤ 100000 := Nat.le_trans (hpz.out p hpm'.out) hxz
                have hbp := hid (show bpt ps q = p by simp [bpt, List.getD_eq_getElem?_getD, hp])
                have q0 : (0 : Int) ≤ (q : Int) := Int.natCast_nonneg _
                have q1 : (q : Int) < (ps.length : Int) := by omega
                replace hp := hid hp
                by_cases hsz : p.size = 2 * 2
                · have dsz : ((p.size : Int) != 2 * 2) = false := by simp; omega
                  go_upto_region 10 with (fail)
                  go_quiet (fail)
                  replace rS := hid (rS.out.drewN nq)
                  generalize World.drewN wr nq = wx at *
                  clear cp cL dsz
                  go_wp2
                  go_loopw [7] (fun i wr => ∃ x : Nat, x ≤ 2 ∧ i = .int .i64 x ∧ Hid (∀ y, y < x → (48 ≤ bt p (2 * y) ∧ bt p (2 * y) ≤ 50) ∧ 97 ≤ bt p (2 * y + 1) ∧ bt p (2 * y + 1) ≤ 112) ∧ St w.heap.size w [Asn.mb 27 b5 (rdP 2 ps q x), Asn.own w.heap.size 9 (.slice (some ⟨g, 0, none⟩) ps.length c) (strs ps), Asn.mb 27 w.heap.size zeroM] wr) (fun i _ => 2 - (intOf i).toNat)
                  case atStart => exact ⟨0, Nat.zero_le _, rfl, hid (fun y hy => absurd hy (Nat.not_lt_zero y)), rS.out⟩
                  case round =>
                    obtain ⟨x, hx, rfl, hch, rS⟩ := hrel
                    have cL : wr.cell? ⟨b5, 0, none⟩ = some (.int .i64 2) := rS.m0.cL
                    have cp := rS.o1.cellAt q (.string p) (by have h := hp.out; simp [strs, h])
                    replace rS := hid rS
                    by_cases hlx : x < 2
                    · have dx : decide ((x : Int) < 2) = true := decide_eq_true (by omega)
                      have g1 : IntKind.i64.wrap (2 * (x : Int)) = ((2 * x : Nat) : Int) := by rw [IntWalk.i64_in _ (by omega)]; omega
                      have g2 : IntKind.i64.wrap (IntKind.i64.wrap (2 * (x : Int)) + 1) = ((2 * x + 1 : Nat) : Int) := by rw [g1, IntWalk.i64_in _ (by omega)]; omega
                      replace g1 := hid g1; replace g2 := hid g2
                      have k1 : 2 * x < p.size := by omega
                      have k2 : 2 * x + 1 < p.size := by omega
                      go_upto_region 15 with (fail)
                      refine wp_region_quiet_lit (by kernel_rfl) (by kernel_rfl) ?_
                      iterate 6 (quiet_step (fail))
                      refine quiet_idx rfl _ _ _ rfl Try.underlying9 p (2 * x) _ rfl rfl g1.out k1 ?_
                      iterate 7 (quiet_step (fail))
                      refine quiet_idx rfl _ _ _ rfl Try.underlying9 p (2 * x + 1) _ rfl rfl g2.out k2 ?_
                      iterate 2 (quiet_step (fail))
                      refine wpQuiet_nil ?_
                      rintro _ ⟨nr, rfl⟩
                      replace rS := hid (rS.out.drewN nr)
                      generalize World.drewN wr nr = wy at *
                      have hB1 := bt_lt p (2 * x)
                      have hB2 := bt_lt p (2 * x + 1)
                      have hch2 := hid (fun (h : (48 ≤ bt p (2 * x) ∧ bt p (2 * x) ≤ 50) ∧ 97 ≤ bt p (2 * x + 1) ∧ bt p (2 * x + 1) ≤ 112) y (hy : y < x + 1) => (show (48 ≤ bt p (2 * y) ∧ bt p (2 * y) ≤ 50) ∧ 97 ≤ bt p (2 * y + 1) ∧ bt p (2 * y + 1) ≤ 112 from by
                        by_cases e : y = x
                        · subst e; exact h
                        · exact hch.out y (by omega)))
                      have hno := hid (fun (h : ¬ ((48 ≤ bt p (2 * x) ∧ bt p (2 * x) ≤ 50) ∧ 97 ≤ bt p (2 * x + 1) ∧ bt p (2 * x + 1) ≤ 112)) => hAf.out (fun h' => h ((h'.2 p hpm'.out).2 x hlx)))
                      have hst := hid (filP_step (L := 2) (n := ps.length) (f := fun q x => bt (bpt ps q) (2 * x + 1) - 97) (g := fun q x => bt (bpt ps q) (2 * x) - 48) q x hlx (by omega))
                      simp only [hbp.out] at hst
                      clear cp cL
                      generalize bt p (2 * x) = B1 at *
                      generalize bt p (2 * x + 1) = B2 at *
                      by_cases c1 : 48 ≤ B1
                      · by_cases c2 : B1 ≤ 50
                        · by_cases c3 : 97 ≤ B2
                          · by_cases c4 : B2 ≤ 112
                            · replace hch2 := hid (hch2.out ⟨⟨c1, c2⟩, c3, c4⟩)
                              obtain ⟨y1, rfl⟩ := Nat.exists_eq_add_of_le c1
                              obtain ⟨y2, rfl⟩ := Nat.exists_eq_add_of_le c3
                              have d1 : decide ((48 + (y1 : Int)) < 48) = false := decide_eq_false (by omega)
                              have d2 : decide ((48 + (y1 : Int)) > 50) = false := decide_eq_false (by omega)
                              have d3 : decide ((97 + (y2 : Int)) < 97) = false := decide_eq_false (by omega)
                              have d4 : decide ((97 + (y2 : Int)) > 112) = false := decide_eq_false (by omega)
                              have e1 : 48 + (y1 : Int) - 48 = y1 := by omega
                              have e2 : 97 + (y2 : Int) - 97 = y2 := by omega
                              obtain ⟨vo, co⟩ : ∃ u, wy.cell? ⟨b5, 50 + q * 3 + x, none⟩ = some u := ⟨_, rS.out.m0.cot q x (by omega) (by omega)⟩
                              have fo : wy.frozen? ⟨b5, 50 + q * 3 + x, none⟩ = false := World.rowIs.frozen rS.out.m0 _
                              obtain ⟨vn, cn⟩ : ∃ u, wy.cell? ⟨b5, 2 + q * 3 + x, none⟩ = some u := ⟨_, rS.out.m0.cnx q x (by omega) (by omega)⟩
                              have fn : wy.frozen? ⟨b5, 2 + q * 3 + x, none⟩ = false := World.rowIs.frozen rS.out.m0 _
                              go_wp2
                              go_roundw
                              case rel =>
                                refine ⟨x + 1, by omega, by go_num, hid hch2.out, ?_⟩
                                have e := hst.out
                                rw [Nat.add_sub_cancel_left, Nat.add_sub_cancel_left] at e
                                rw [show rdP 2 ps q (x + 1) = { rdP 2 ps q x with nx := upd (rdP 2 ps q x).nx (q * 3 + x) y2, ot := upd (rdP 2 ps q x).ot (q * 3 + x) y1 } from e]
                                exact (rS.out.setOt hle2.out q x y1 (by omega) (by omega)).setNx hle2.out q x y2 (by omega) (by omega)
                              case measure => simp [intOf]; omega
                            · have hA := hid (hno.out (fun h => by omega))
                              have d1 : decide ((B1 : Int) < 48) = false := decide_eq_false (by omega)
                              have d2 : decide ((B1 : Int) > 50) = false := decide_eq_false (by omega)
                              have d3 : decide ((B2 : Int) < 97) = false := decide_eq_false (by omega)
                              have d4 : decide ((B2 : Int) > 112) = true := decide_eq_true (by omega)
                              go_wp2_with (first
                                | ((with_reducible refine gate (N := 94) rfl ?_); refine build_zero rfl rfl ?_)
                                | ((with_reducible refine gateOp (op := .store 27 (.tmp 2) (.tmp 94)) rfl ?_); refine store_mach rfl _ _ rfl w.heap.size rfl zeroM rfl 27 _ rS.out.m2 ?_; intro W3 p2 ho hsz hbl; have pB := hid (hbl _ _ (Nat.le_refl _) rS.out.bel); replace p2 := hid p2; clear ho hsz hbl))
                              exact ret_mach_v rfl rfl rfl p2.out rfl ⟨by rw [hA.out]; rfl, pB.out⟩
                          · have hA := hid (hno.out (fun h => by omega))
                            have d1 : decide ((B1 : Int) < 48) = false := decide_eq_false (by omega)
                            have d2 : decide ((B1 : Int) > 50) = false := decide_eq_false (by omega)
                            have d3 : decide ((B2 : Int) < 97) = true := decide_eq_true (by omega)
                            go_wp2_with (first
                              | ((with_reducible refine gate (N := 94) rfl ?_); refine build_zero rfl rfl ?_)
                              | ((with_reducible refine gateOp (op := .store 27 (.tmp 2) (.tmp 94)) rfl ?_); refine store_mach rfl _ _ rfl w.heap.size rfl zeroM rfl 27 _ rS.out.m2 ?_; intro W3 p2 ho hsz hbl; have pB := hid (hbl _ _ (Nat.le_refl _) rS.out.bel); replace p2 := hid p2; clear ho hsz hbl))
                            exact ret_mach_v rfl rfl rfl p2.out rfl ⟨by rw [hA.out]; rfl, pB.out⟩
                        · have hA := hid (hno.out (fun h => by omega))
                          have d1 : decide ((B1 : Int) < 48) = false := decide_eq_false (by omega)
                          have d2 : decide ((B1 : Int) > 50) = true := decide_eq_true (by omega)
                          go_wp2_with (first
                            | ((with_reducible refine gate (N := 94) rfl ?_); refine build_zero rfl rfl ?_)
                            | ((with_reducible refine gateOp (op := .store 27 (.tmp 2) (.tmp 94)) rfl ?_); refine store_mach rfl _ _ rfl w.heap.size rfl zeroM rfl 27 _ rS.out.m2 ?_; intro W3 p2 ho hsz hbl; have pB := hid (hbl _ _ (Nat.le_refl _) rS.out.bel); replace p2 := hid p2; clear ho hsz hbl))
                          exact ret_mach_v rfl rfl rfl p2.out rfl ⟨by rw [hA.out]; rfl, pB.out⟩
                      · have hA := hid (hno.out (fun h => by omega))
                        have d1 : decide ((B1 : Int) < 48) = true := decide_eq_true (by omega)
                        go_wp2_with (first
                          | ((with_reducible refine gate (N := 94) rfl ?_); refine build_zero rfl rfl ?_)
                          | ((with_reducible refine gateOp (op := .store 27 (.tmp 2) (.tmp 94)) rfl ?_); refine store_mach rfl _ _ rfl w.heap.size rfl zeroM rfl 27 _ rS.out.m2 ?_; intro W3 p2 ho hsz hbl; have pB := hid (hbl _ _ (Nat.le_refl _) rS.out.bel); replace p2 := hid p2; clear ho hsz hbl))
                        exact ret_mach_v rfl rfl rfl p2.out rfl ⟨by rw [hA.out]; rfl, pB.out⟩
                    · have hxl : x = 2 := by omega
                      subst hxl
                      have hpk2 := hid (show ∀ p' ∈ ps.take (q + 1), PartOk 2 p' from fun p' hp' => by
                        rw [List.take_add_one, hp.out] at hp'
                        rcases List.mem_append.1 hp' with h | h
                        · exact hpk.out p' h
                        · obtain rfl : p' = p := by simpa using h
                          exact ⟨hsz, hch.out⟩)
                      clear cp
                      go_wp2
                      go_roundw
                      case rel => exact ⟨q + 1, by omega, by go_num, hpk2, by rw [show rdP 2 ps (q + 1) 0 = rdP 2 ps q 2 from (filP_row q (by omega)).symm]; exact rS.out⟩
                      case measure => simp [intOf]; omega
                · have dsz : ((p.size : Int) != 2 * 2) = true := by simp; omega
                  have hA := hid (hAf.out (fun h => hsz (h.2 p hpm'.out).1))
                  go_upto_region 10 with (fail)
                  go_quiet (fail)
                  replace rS := hid (rS.out.drewN nq)
                  generalize World.drewN wr nq = wx at *
                  clear cp cL
                  go_wp2_with (first
                    | ((with_reducible refine gate (N := 58) rfl ?_); refine build_zero rfl rfl ?_)
                    | ((with_reducible refine gateOp (op := .store 27 (.tmp 2) (.tmp 58)) rfl ?_); refine store_mach rfl _ _ rfl w.heap.size rfl zeroM rfl 27 _ rS.out.m2 ?_; intro W3 p2 ho hsz hbl; have pB := hid (hbl _ _ (Nat.le_refl _) rS.out.bel); replace p2 := hid p2; clear ho hsz hbl))
                  exact ret_mach_v rfl rfl rfl p2.out rfl ⟨by rw [hA.out]; rfl, pB.out⟩
              · obtain rfl : q = ps.length := by omega
                have hpk3 := hpk.out
                rw [List.take_length] at hpk3
                have hA := hid (hAt.out h16 hpk3)
                have hok := hid (rdP_ok 2 ps ps.length 0)
                have hM := hid (show rdP 2 ps ps.length 0 = rdM 2 ps from rfl)
                rw [hM.out] at rS hok
                have hLS := hid (fun W => l01Is_any W (rdM 2 ps) hok.out (decide (IsM (rdM 2 ps))) decide_eq_true_iff)
                clear hM hpk hpk3 hAf hAt cL
                generalize hrm : rdM 2 ps = M at *
                generalize decide (IsM M) = bM at *
                replace hrm := hid hrm
                go_upto_region 20 with (fail)
                replace rS := hid rS.out.drew
                refine wp_region_heldL (L := [(3, (fun w' : World => MB w' 27 b5 M))]) (by kernel_rfl) (HeldL.cons (fun _ => rS.out.m0) HeldL.nil) (fun hHeld => ?_)
                generalize World.drew wr = wa at *
                refine wpAnyL_takeP (i := 0) 3 [] (v := (.agg (mcells M))) (fun w' : World => MB w' 27 b5 M) rfl (by kernel_rfl) (by kernel_rfl) (by kernel_rfl) (by rfl) (by kernel_rfl) (by simp) (fun _ _ _ h => h) (Or.inl ⟨by rfl, ?_⟩) (by assumption) ?_
                · (intro W hW; exact exec_load _ rfl rfl (load_run hW))
                intro hHeld'
                clear hHeld; have hHeld := hHeld'; clear hHeld'
                try simp only [Act.put, List.getElem_toArray, List.getElem_cons_succ, List.getElem_cons_zero, List.setIfInBounds_toArray, List.set_cons_zero, List.set_cons_succ]
                refine wpAnyL_takeP (i := 1) 3 [2] (v := (.agg (mcells M))) (fun w' : World => MB w' 27 b5 M) rfl (by kernel_rfl) (by kernel_rfl) (by kernel_rfl) (by rfl) (by kernel_rfl) (by simp) (fun _ _ _ h => h) (Or.inl ⟨by rfl, ?_⟩) (by assumption) ?_
                · (intro W hW; exact exec_load _ rfl rfl (load_run hW))
                intro hHeld'
                clear hHeld; have hHeld := hHeld'; clear hHeld'
                try simp only [Act.put, List.getElem_toArray, List.getElem_cons_succ, List.getElem_cons_zero, List.setIfInBounds_toArray, List.set_cons_zero, List.set_cons_succ]
                refine wpAnyL_ready (rs := [2]) (by kernel_rfl) (by simp) ?_
                refine AllReadyL.cons rfl (fun K hK => ?_) AllReadyL.nil
                go_simp
                (with_reducible refine (hLS.out _).mono ?_)
                rintro e w4 ⟨rfl, hb⟩
                replace rS := hid (rS.out.call hb)
                clear hb
                go_simp
                refine hK.out _ _ (HeldL.cons (fun _ => rS.out.m0) HeldL.nil) (fun hHeld' => ?_)
                clear hK K hHeld; have hHeld := hHeld'; clear hHeld'
                try simp only [Act.put, List.getElem_toArray, List.getElem_cons_succ, List.getElem_cons_zero, List.setIfInBounds_toArray, List.set_cons_zero, List.set_cons_succ]
                refine wpAnyL_ready (rs := [3]) (by kernel_rfl) (by simp) ?_
                refine AllReadyL.cons rfl (fun K hK => ?_) AllReadyL.nil
                refine step_store_mach rfl _ _ rfl _ rfl M rfl _ _ rS.out.m2 ?_
                intro W9 p2 ho hbl
                have pB := hid (hbl _ _ (Nat.le_refl _) rS.out.bel)
                replace p2 := hid p2
                clear ho hbl
                refine hK.out _ _ (HeldL.cons (fun h => absurd h (by decide +kernel)) HeldL.nil) (fun hHeld' => ?_)
                clear hK K hHeld; have hHeld := hHeld'; clear hHeld'
                try simp only [Act.put, List.getElem_toArray, List.getElem_cons_succ, List.getElem_cons_zero, List.setIfInBounds_toArray, List.set_cons_zero, List.set_cons_succ]
                refine wpAnyL_take0 (i := 4) (v := ?_) rfl (by kernel_rfl) (by kernel_rfl) (by kernel_rfl) (by rfl) (fun _ _ _ h => h) (Or.inl ⟨by rfl, ?_⟩) (by assumption) ?_
                rotate_left
                · (intro W _; go_simp; (with_reducible rfl))
                intro hHeld'
                clear hHeld; have hHeld := hHeld'; clear hHeld'
                try simp only [Act.put, List.getElem_toArray, List.getElem_cons_succ, List.getElem_cons_zero, List.setIfInBounds_toArray, List.set_cons_zero, List.set_cons_succ]
                refine wpAnyL_done (by kernel_rfl) ?_ _
                go_wp2
                exact ret_mach_v rfl rfl rfl p2.out rfl ⟨by rw [hA.out]; rfl, pB.out⟩
          · have hA := hid (hAf.out (fun h => h16 h.1))
            have d16 : decide ((ps.length : Int) > 16) = true := decide_eq_true (by omega)
            go_wp2_with (first
              | ((with_reducible refine gate (N := 42) rfl ?_); refine build_zero rfl rfl ?_)
              | ((with_reducible refine gateOp (op := .store 27 (.tmp 2) (.tmp 42)) rfl ?_); refine store_mach rfl _ _ rfl w.heap.size rfl zeroM rfl 27 _ hS.out.m2 ?_; intro W3 p2 ho hsz hbl; have pB := hid (hbl _ _ (Nat.le_refl _) hS.out.bel); replace p2 := hid p2; clear ho hsz hbl))
            exact ret_mach_v rfl rfl rfl p2.out rfl ⟨by rw [hA.out]; rfl, pB.out⟩
        · have hq : bt t 0 - 48 = 3 := by omega
          have h50' : bt t 0 = 50 ∨ bt t 0 = 51 := .inr h50
          rw [h50] at hb0
          have hb0 : (t[0]'(by omega)).toNat = 51 := hb0
          have hH : HeadOk t := ⟨h2, h58, h50'⟩
          have hAf := hid (fun (h : ¬ ((rdS t).length ≤ 16 ∧ ∀ p ∈ rdS t, PartOk 3 p)) => (show rdAns t = (zeroM, false) from by unfold rdAns; rw [if_neg (fun h' => h (by have h3 := h'.2; rw [hq] at h3; exact h3))]))
          have hAt := hid (fun (h16 : (rdS t).length ≤ 16) (hp : ∀ p ∈ rdS t, PartOk 3 p) => (show rdAns t = (rdM 3 (rdS t), decide (IsM (rdM 3 (rdS t)))) from by unfold rdAns; rw [hq, if_pos ⟨hH, h16, hp⟩]))
          have hsp := hid (fun W => l01Split_any W (t.extract 2 t.size) (by rw [ByteArray.size_extract]; omega) 44)
          simp only [show ((44 : Nat) : Int) = 44 from rfl] at hsp
          have hsp' := hid (show splL (t.extract 2 t.size) 44 = rdS t from rfl)
          rw [hsp'.out] at hsp
          have hpl := hid (splL_len (t.extract 2 t.size) 44)
          have hpz := hid (splL_sz (t.extract 2 t.size) 44)
          rw [hsp'.out] at hpl hpz
          have hxz : (t.extract 2 t.size).size ≤ 100000 := by rw [ByteArray.size_extract]; omega
          have d2 : decide ((t.size : Int) < 2) = false := decide_eq_false (by omega)
          have hz2 := hid (fun L W (h : St w.heap.size w L W) => h.newMB zeroM 27)
          have hil := hid (strs_length (rdS t))
          have hpn : 1 ≤ (rdS t).length := hpl.out.2
          have hpm : (rdS t).length ≤ 100001 := by have := hpl.out.1; omega
          rw [h58] at hb1
          clear hsp' h58 hH hq h50'
          generalize rdAns t = ans at *
          generalize rdS t = ps at *
          go_enter Try.func167, Try.ntmps167
          go_upto_region 5 with (first
            | (go_at_call 235; (with_reducible refine (hsp.out _).mono ?_); rintro e w1 ⟨v, rfl, hO, hb⟩; (obtain ⟨g, c, rfl, _, _⟩ := hO.blk (fun e => by have h1 := congrArg List.length e; rw [hil.out, List.length_nil] at h1; omega)); rw [hil.out] at hO ⊢; have hle2 := hid ((hS.out.call hb).le); replace hS := hid (hz2.out _ _ (hS.out.callOwn hb hO)); clear hb hO hsp)
            | ((with_reducible refine gate (N := 38) rfl ?_); refine build_mach rfl _ _ rfl 3 (ps.length : Int) rfl rfl ?_)
            | ((with_reducible refine gateOp (op := .store 27 (.tmp 5) (.tmp 38)) rfl ?_); refine store_mach rfl _ _ rfl w1.heap.size rfl ⟨3, (ps.length : Int), fun _ => 0, fun _ => 0⟩ rfl 27 _ hS.out.m0 ?_; intro w2 p3 ho hsz hbl; replace hS := hid (hS.out.setM hle2.out p3 ho hbl); clear p3 ho hsz hbl))
          generalize w1.heap.size = b5 at *
          by_cases h16 : ps.length ≤ 16
          · have d16 : decide ((ps.length : Int) > 16) = false := decide_eq_false (by omega)
            replace hS := hid (show St w.heap.size w [Asn.mb 27 b5 (rdP 3 ps 0 0), Asn.own w.heap.size 9 (.slice (some ⟨g, 0, none⟩) ps.length c) (strs ps), Asn.mb 27 w.heap.size zeroM] w2 from by
              rw [show rdP 3 ps 0 0 = ⟨3, (ps.length : Int), fun _ => 0, fun _ => 0⟩ from filP_zero]; exact hS.out)
            go_wp2
            go_loopw [6] (fun i wr => ∃ q : Nat, q ≤ ps.length ∧ i = .int .i64 q ∧ Hid (∀ p ∈ ps.take q, PartOk 3 p) ∧ St w.heap.size w [Asn.mb 27 b5 (rdP 3 ps q 0), Asn.own w.heap.size 9 (.slice (some ⟨g, 0, none⟩) ps.length c) (strs ps), Asn.mb 27 w.heap.size zeroM] wr) (fun i _ => ps.length - (intOf i).toNat)
            case atStart => exact ⟨0, Nat.zero_le _, rfl, hid (fun p hp => by simp at hp), hS.out⟩
            case round =>
              obtain ⟨q, hq, rfl, hpk, rS⟩ := hrel
              clear hS hb0 hb1 d2 d16
              have cL : wr.cell? ⟨b5, 0, none⟩ = some (.int .i64 3) := rS.m0.cL
              replace rS := hid rS
              by_cases hlt : q < ps.length
              · have dq : decide ((q : Int) < (ps.length : Int)) = true := decide_eq_true (by omega)
                obtain ⟨p, hp⟩ : ∃ p, ps[q]? = some p := ⟨_, List.getElem?_eq_getElem hlt⟩
                have cp := rS.out.o1.cellAt q (.string p) (by simp [strs, hp])
                have hpm' := hid (List.mem_of_getElem? hp)
                have hpsz : p.size ≤ 100000 := Nat.le_trans (hpz.out p hpm'.out) hxz
                have hbp := hid (show bpt ps q = p by simp [bpt, List.getD_eq_getElem?_getD, hp])
                have q0 : (0 : Int) ≤ (q : Int) := Int.natCast_nonneg _
                have q1 : (q : Int) < (ps.length : Int) := by omega
                replace hp := hid hp
                by_cases hsz : p.size = 2 * 3
                · have dsz : ((p.size : Int) != 2 * 3) = false := by simp; omega
                  go_upto_region 10 with (fail)
                  go_quiet (fail)
                  replace rS := hid (rS.out.drewN nq)
                  generalize World.drewN wr nq = wx at *
                  clear cp cL dsz
                  go_wp2
                  go_loopw [7] (fun i wr => ∃ x : Nat, x ≤ 3 ∧ i = .int .i64 x ∧ Hid (∀ y, y < x → (48 ≤ bt p (2 * y) ∧ bt p (2 * y) ≤ 50) ∧ 97 ≤ bt p (2 * y + 1) ∧ bt p (2 * y + 1) ≤ 112) ∧ St w.heap.size w [Asn.mb 27 b5 (rdP 3 ps q x), Asn.own w.heap.size 9 (.slice (some ⟨g, 0, none⟩) ps.length c) (strs ps), Asn.mb 27 w.heap.size zeroM] wr) (fun i _ => 3 - (intOf i).toNat)
                  case atStart => exact ⟨0, Nat.zero_le _, rfl, hid (fun y hy => absurd hy (Nat.not_lt_zero y)), rS.out⟩
                  case round =>
                    obtain ⟨x, hx, rfl, hch, rS⟩ := hrel
                    have cL : wr.cell? ⟨b5, 0, none⟩ = some (.int .i64 3) := rS.m0.cL
                    have cp := rS.o1.cellAt q (.string p) (by have h := hp.out; simp [strs, h])
                    replace rS := hid rS
                    by_cases hlx : x < 3
                    · have dx : decide ((x : Int) < 3) = true := decide_eq_true (by omega)
                      have g1 : IntKind.i64.wrap (2 * (x : Int)) = ((2 * x : Nat) : Int) := by rw [IntWalk.i64_in _ (by omega)]; omega
                      have g2 : IntKind.i64.wrap (IntKind.i64.wrap (2 * (x : Int)) + 1) = ((2 * x + 1 : Nat) : Int) := by rw [g1, IntWalk.i64_in _ (by omega)]; omega
                      replace g1 := hid g1; replace g2 := hid g2
                      have k1 : 2 * x < p.size := by omega
                      have k2 : 2 * x + 1 < p.size := by omega
                      go_upto_region 15 with (fail)
                      refine wp_region_quiet_lit (by kernel_rfl) (by kernel_rfl) ?_
                      iterate 6 (quiet_step (fail))
                      refine quiet_idx rfl _ _ _ rfl Try.underlying9 p (2 * x) _ rfl rfl g1.out k1 ?_
                      iterate 7 (quiet_step (fail))
                      refine quiet_idx rfl _ _ _ rfl Try.underlying9 p (2 * x + 1) _ rfl rfl g2.out k2 ?_
                      iterate 2 (quiet_step (fail))
                      refine wpQuiet_nil ?_
                      rintro _ ⟨nr, rfl⟩
                      replace rS := hid (rS.out.drewN nr)
                      generalize World.drewN wr nr = wy at *
                      have hB1 := bt_lt p (2 * x)
                      have hB2 := bt_lt p (2 * x + 1)
                      have hch2 := hid (fun (h : (48 ≤ bt p (2 * x) ∧ bt p (2 * x) ≤ 50) ∧ 97 ≤ bt p (2 * x + 1) ∧ bt p (2 * x + 1) ≤ 112) y (hy : y < x + 1) => (show (48 ≤ bt p (2 * y) ∧ bt p (2 * y) ≤ 50) ∧ 97 ≤ bt p (2 * y + 1) ∧ bt p (2 * y + 1) ≤ 112 from by
                        by_cases e : y = x
                        · subst e; exact h
                        · exact hch.out y (by omega)))
                      have hno := hid (fun (h : ¬ ((48 ≤ bt p (2 * x) ∧ bt p (2 * x) ≤ 50) ∧ 97 ≤ bt p (2 * x + 1) ∧ bt p (2 * x + 1) ≤ 112)) => hAf.out (fun h' => h ((h'.2 p hpm'.out).2 x hlx)))
                      have hst := hid (filP_step (L := 3) (n := ps.length) (f := fun q x => bt (bpt ps q) (2 * x + 1) - 97) (g := fun q x => bt (bpt ps q) (2 * x) - 48) q x hlx (by omega))
                      simp only [hbp.out] at hst
                      clear cp cL
                      generalize bt p (2 * x) = B1 at *
                      generalize bt p (2 * x + 1) = B2 at *
                      by_cases c1 : 48 ≤ B1
                      · by_cases c2 : B1 ≤ 50
                        · by_cases c3 : 97 ≤ B2
                          · by_cases c4 : B2 ≤ 112
                            · replace hch2 := hid (hch2.out ⟨⟨c1, c2⟩, c3, c4⟩)
                              obtain ⟨y1, rfl⟩ := Nat.exists_eq_add_of_le c1
                              obtain ⟨y2, rfl⟩ := Nat.exists_eq_add_of_le c3
                              have d1 : decide ((48 + (y1 : Int)) < 48) = false := decide_eq_false (by omega)
                              have d2 : decide ((48 + (y1 : Int)) > 50) = false := decide_eq_false (by omega)
                              have d3 : decide ((97 + (y2 : Int)) < 97) = false := decide_eq_false (by omega)
                              have d4 : decide ((97 + (y2 : Int)) > 112) = false := decide_eq_false (by omega)
                              have e1 : 48 + (y1 : Int) - 48 = y1 := by omega
                              have e2 : 97 + (y2 : Int) - 97 = y2 := by omega
                              obtain ⟨vo, co⟩ : ∃ u, wy.cell? ⟨b5, 50 + q * 3 + x, none⟩ = some u := ⟨_, rS.out.m0.cot q x (by omega) (by omega)⟩
                              have fo : wy.frozen? ⟨b5, 50 + q * 3 + x, none⟩ = false := World.rowIs.frozen rS.out.m0 _
                              obtain ⟨vn, cn⟩ : ∃ u, wy.cell? ⟨b5, 2 + q * 3 + x, none⟩ = some u := ⟨_, rS.out.m0.cnx q x (by omega) (by omega)⟩
                              have fn : wy.frozen? ⟨b5, 2 + q * 3 + x, none⟩ = false := World.rowIs.frozen rS.out.m0 _
                              go_wp2
                              go_roundw
                              case rel =>
                                refine ⟨x + 1, by omega, by go_num, hid hch2.out, ?_⟩
                                have e := hst.out
                                rw [Nat.add_sub_cancel_left, Nat.add_sub_cancel_left] at e
                                rw [show rdP 3 ps q (x + 1) = { rdP 3 ps q x with nx := upd (rdP 3 ps q x).nx (q * 3 + x) y2, ot := upd (rdP 3 ps q x).ot (q * 3 + x) y1 } from e]
                                exact (rS.out.setOt hle2.out q x y1 (by omega) (by omega)).setNx hle2.out q x y2 (by omega) (by omega)
                              case measure => simp [intOf]; omega
                            · have hA := hid (hno.out (fun h => by omega))
                              have d1 : decide ((B1 : Int) < 48) = false := decide_eq_false (by omega)
                              have d2 : decide ((B1 : Int) > 50) = false := decide_eq_false (by omega)
                              have d3 : decide ((B2 : Int) < 97) = false := decide_eq_false (by omega)
                              have d4 : decide ((B2 : Int) > 112) = true := decide_eq_true (by omega)
                              go_wp2_with (first
                                | ((with_reducible refine gate (N := 94) rfl ?_); refine build_zero rfl rfl ?_)
                                | ((with_reducible refine gateOp (op := .store 27 (.tmp 2) (.tmp 94)) rfl ?_); refine store_mach rfl _ _ rfl w.heap.size rfl zeroM rfl 27 _ rS.out.m2 ?_; intro W3 p2 ho hsz hbl; have pB := hid (hbl _ _ (Nat.le_refl _) rS.out.bel); replace p2 := hid p2; clear ho hsz hbl))
                              exact ret_mach_v rfl rfl rfl p2.out rfl ⟨by rw [hA.out]; rfl, pB.out⟩
                          · have hA := hid (hno.out (fun h => by omega))
                            have d1 : decide ((B1 : Int) < 48) = false := decide_eq_false (by omega)
                            have d2 : decide ((B1 : Int) > 50) = false := decide_eq_false (by omega)
                            have d3 : decide ((B2 : Int) < 97) = true := decide_eq_true (by omega)
                            go_wp2_with (first
                              | ((with_reducible refine gate (N := 94) rfl ?_); refine build_zero rfl rfl ?_)
                              | ((with_reducible refine gateOp (op := .store 27 (.tmp 2) (.tmp 94)) rfl ?_); refine store_mach rfl _ _ rfl w.heap.size rfl zeroM rfl 27 _ rS.out.m2 ?_; intro W3 p2 ho hsz hbl; have pB := hid (hbl _ _ (Nat.le_refl _) rS.out.bel); replace p2 := hid p2; clear ho hsz hbl))
                            exact ret_mach_v rfl rfl rfl p2.out rfl ⟨by rw [hA.out]; rfl, pB.out⟩
                        · have hA := hid (hno.out (fun h => by omega))
                          have d1 : decide ((B1 : Int) < 48) = false := decide_eq_false (by omega)
                          have d2 : decide ((B1 : Int) > 50) = true := decide_eq_true (by omega)
                          go_wp2_with (first
                            | ((with_reducible refine gate (N := 94) rfl ?_); refine build_zero rfl rfl ?_)
                            | ((with_reducible refine gateOp (op := .store 27 (.tmp 2) (.tmp 94)) rfl ?_); refine store_mach rfl _ _ rfl w.heap.size rfl zeroM rfl 27 _ rS.out.m2 ?_; intro W3 p2 ho hsz hbl; have pB := hid (hbl _ _ (Nat.le_refl _) rS.out.bel); replace p2 := hid p2; clear ho hsz hbl))
                          exact ret_mach_v rfl rfl rfl p2.out rfl ⟨by rw [hA.out]; rfl, pB.out⟩
                      · have hA := hid (hno.out (fun h => by omega))
                        have d1 : decide ((B1 : Int) < 48) = true := decide_eq_true (by omega)
                        go_wp2_with (first
                          | ((with_reducible refine gate (N := 94) rfl ?_); refine build_zero rfl rfl ?_)
                          | ((with_reducible refine gateOp (op := .store 27 (.tmp 2) (.tmp 94)) rfl ?_); refine store_mach rfl _ _ rfl w.heap.size rfl zeroM rfl 27 _ rS.out.m2 ?_; intro W3 p2 ho hsz hbl; have pB := hid (hbl _ _ (Nat.le_refl _) rS.out.bel); replace p2 := hid p2; clear ho hsz hbl))
                        exact ret_mach_v rfl rfl rfl p2.out rfl ⟨by rw [hA.out]; rfl, pB.out⟩
                    · have hxl : x = 3 := by omega
                      subst hxl
                      have hpk2 := hid (show ∀ p' ∈ ps.take (q + 1), PartOk 3 p' from fun p' hp' => by
                        rw [List.take_add_one, hp.out] at hp'
                        rcases List.mem_append.1 hp' with h | h
                        · exact hpk.out p' h
                        · obtain rfl : p' = p := by simpa using h
                          exact ⟨hsz, hch.out⟩)
                      clear cp
                      go_wp2
                      go_roundw
                      case rel => exact ⟨q + 1, by omega, by go_num, hpk2, by rw [show rdP 3 ps (q + 1) 0 = rdP 3 ps q 3 from (filP_row q (by omega)).symm]; exact rS.out⟩
                      case measure => simp [intOf]; omega
                · have dsz : ((p.size : Int) != 2 * 3) = true := by simp; omega
                  have hA := hid (hAf.out (fun h => hsz (h.2 p hpm'.out).1))
                  go_upto_region 10 with (fail)
                  go_quiet (fail)
                  replace rS := hid (rS.out.drewN nq)
                  generalize World.drewN wr nq = wx at *
                  clear cp cL
                  go_wp2_with (first
                    | ((with_reducible refine gate (N := 58) rfl ?_); refine build_zero rfl rfl ?_)
                    | ((with_reducible refine gateOp (op := .store 27 (.tmp 2) (.tmp 58)) rfl ?_); refine store_mach rfl _ _ rfl w.heap.size rfl zeroM rfl 27 _ rS.out.m2 ?_; intro W3 p2 ho hsz hbl; have pB := hid (hbl _ _ (Nat.le_refl _) rS.out.bel); replace p2 := hid p2; clear ho hsz hbl))
                  exact ret_mach_v rfl rfl rfl p2.out rfl ⟨by rw [hA.out]; rfl, pB.out⟩
              · obtain rfl : q = ps.length := by omega
                have hpk3 := hpk.out
                rw [List.take_length] at hpk3
                have hA := hid (hAt.out h16 hpk3)
                have hok := hid (rdP_ok 3 ps ps.length 0)
                have hM := hid (show rdP 3 ps ps.length 0 = rdM 3 ps from rfl)
                rw [hM.out] at rS hok
                have hLS := hid (fun W => l01Is_any W (rdM 3 ps) hok.out (decide (IsM (rdM 3 ps))) decide_eq_true_iff)
                clear hM hpk hpk3 hAf hAt cL
                generalize hrm : rdM 3 ps = M at *
                generalize decide (IsM M) = bM at *
                replace hrm := hid hrm
                go_upto_region 20 with (fail)
                replace rS := hid rS.out.drew
                refine wp_region_heldL (L := [(3, (fun w' : World => MB w' 27 b5 M))]) (by kernel_rfl) (HeldL.cons (fun _ => rS.out.m0) HeldL.nil) (fun hHeld => ?_)
                generalize World.drew wr = wa at *
                refine wpAnyL_takeP (i := 0) 3 [] (v := (.agg (mcells M))) (fun w' : World => MB w' 27 b5 M) rfl (by kernel_rfl) (by kernel_rfl) (by kernel_rfl) (by rfl) (by kernel_rfl) (by simp) (fun _ _ _ h => h) (Or.inl ⟨by rfl, ?_⟩) (by assumption) ?_
                · (intro W hW; exact exec_load _ rfl rfl (load_run hW))
                intro hHeld'
                clear hHeld; have hHeld := hHeld'; clear hHeld'
                try simp only [Act.put, List.getElem_toArray, List.getElem_cons_succ, List.getElem_cons_zero, List.setIfInBounds_toArray, List.set_cons_zero, List.set_cons_succ]
                refine wpAnyL_takeP (i := 1) 3 [2] (v := (.agg (mcells M))) (fun w' : World => MB w' 27 b5 M) rfl (by kernel_rfl) (by kernel_rfl) (by kernel_rfl) (by rfl) (by kernel_rfl) (by simp) (fun _ _ _ h => h) (Or.inl ⟨by rfl, ?_⟩) (by assumption) ?_
                · (intro W hW; exact exec_load _ rfl rfl (load_run hW))
                intro hHeld'
                clear hHeld; have hHeld := hHeld'; clear hHeld'
                try simp only [Act.put, List.getElem_toArray, List.getElem_cons_succ, List.getElem_cons_zero, List.setIfInBounds_toArray, List.set_cons_zero, List.set_cons_succ]
                refine wpAnyL_ready (rs := [2]) (by kernel_rfl) (by simp) ?_
                refine AllReadyL.cons rfl (fun K hK => ?_) AllReadyL.nil
                go_simp
                (with_reducible refine (hLS.out _).mono ?_)
                rintro e w4 ⟨rfl, hb⟩
                replace rS := hid (rS.out.call hb)
                clear hb
                go_simp
                refine hK.out _ _ (HeldL.cons (fun _ => rS.out.m0) HeldL.nil) (fun hHeld' => ?_)
                clear hK K hHeld; have hHeld := hHeld'; clear hHeld'
                try simp only [Act.put, List.getElem_toArray, List.getElem_cons_succ, List.getElem_cons_zero, List.setIfInBounds_toArray, List.set_cons_zero, List.set_cons_succ]
                refine wpAnyL_ready (rs := [3]) (by kernel_rfl) (by simp) ?_
                refine AllReadyL.cons rfl (fun K hK => ?_) AllReadyL.nil
                refine step_store_mach rfl _ _ rfl _ rfl M rfl _ _ rS.out.m2 ?_
                intro W9 p2 ho hbl
                have pB := hid (hbl _ _ (Nat.le_refl _) rS.out.bel)
                replace p2 := hid p2
                clear ho hbl
                refine hK.out _ _ (HeldL.cons (fun h => absurd h (by decide +kernel)) HeldL.nil) (fun hHeld' => ?_)
                clear hK K hHeld; have hHeld := hHeld'; clear hHeld'
                try simp only [Act.put, List.getElem_toArray, List.getElem_cons_succ, List.getElem_cons_zero, List.setIfInBounds_toArray, List.set_cons_zero, List.set_cons_succ]
                refine wpAnyL_take0 (i := 4) (v := ?_) rfl (by kernel_rfl) (by kernel_rfl) (by kernel_rfl) (by rfl) (fun _ _ _ h => h) (Or.inl ⟨by rfl, ?_⟩) (by assumption) ?_
                rotate_left
                · (intro W _; go_simp; (with_reducible rfl))
                intro hHeld'
                clear hHeld; have hHeld := hHeld'; clear hHeld'
                try simp only [Act.put, List.getElem_toArray, List.getElem_cons_succ, List.getElem_cons_zero, List.setIfInBounds_toArray, List.set_cons_zero, List.set_cons_succ]
                refine wpAnyL_done (by kernel_rfl) ?_ _
                go_wp2
                exact ret_mach_v rfl rfl rfl p2.out rfl ⟨by rw [hA.out]; rfl, pB.out⟩
          · have hA := hid (hAf.out (fun h => h16 h.1))
            have d16 : decide ((ps.length : Int) > 16) = true := decide_eq_true (by omega)
            go_wp2_with (first
              | ((with_reducible refine gate (N := 42) rfl ?_); refine build_zero rfl rfl ?_)
              | ((with_reducible refine gateOp (op := .store 27 (.tmp 2) (.tmp 42)) rfl ?_); refine store_mach rfl _ _ rfl w.heap.size rfl zeroM rfl 27 _ hS.out.m2 ?_; intro W3 p2 ho hsz hbl; have pB := hid (hbl _ _ (Nat.le_refl _) hS.out.bel); replace p2 := hid p2; clear ho hsz hbl))
            exact ret_mach_v rfl rfl rfl p2.out rfl ⟨by rw [hA.out]; rfl, pB.out⟩
      · have hA := hid (show rdAns t = (zeroM, false) by unfold rdAns; rw [if_neg (fun h => h50 h.1.2.2)])
        rw [hA.out]
        have hn0 : ¬ bt t 0 = 50 := fun h => h50 (.inl h)
        have hn1 : ¬ bt t 0 = 51 := fun h => h50 (.inr h)
        have d2 : decide ((t.size : Int) < 2) = false := decide_eq_false (by omega)
        rw [h58] at hb1
        generalize bt t 0 = b0 at *
        have e0 : ((b0 : Int) != 50) = true := by simp; omega
        have e1 : ((b0 : Int) != 51) = true := by simp; omega
        clear h58 hn0 hn1 h50
        go_enter Try.func167, Try.ntmps167
        go_wp2_with (first
          | ((with_reducible refine gate (N := 28) rfl ?_); refine build_zero rfl rfl ?_)
          | ((with_reducible refine gateOp (op := .store 27 (.tmp 2) (.tmp 28)) rfl ?_); refine store_mach rfl _ _ rfl w.heap.size rfl zeroM rfl 27 _ hS.out.m0 ?_; intro W3 p2 ho hsz hbl; have pB := hid (hbl _ _ (Nat.le_refl _) hS.out.bel); replace p2 := hid p2; clear ho hsz hbl))
        exact ret_mach_v rfl rfl rfl p2.out rfl ⟨rfl, pB.out⟩
    · have hA := hid (show rdAns t = (zeroM, false) by unfold rdAns; rw [if_neg (fun h => h58 h.1.2.1)])
      rw [hA.out]
      have d2 : decide ((t.size : Int) < 2) = false := decide_eq_false (by omega)
      clear hb0
      generalize bt t 1 = b1 at *
      have e0 : ((b1 : Int) != 58) = true := by simp; omega
      clear h58
      go_enter Try.func167, Try.ntmps167
      go_wp2_with (first
        | ((with_reducible refine gate (N := 28) rfl ?_); refine build_zero rfl rfl ?_)
        | ((with_reducible refine gateOp (op := .store 27 (.tmp 2) (.tmp 28)) rfl ?_); refine store_mach rfl _ _ rfl w.heap.size rfl zeroM rfl 27 _ hS.out.m0 ?_; intro W3 p2 ho hsz hbl; have pB := hid (hbl _ _ (Nat.le_refl _) hS.out.bel); replace p2 := hid p2; clear ho hsz hbl))
      exact ret_mach_v rfl rfl rfl p2.out rfl ⟨rfl, pB.out⟩
  · have hA := hid (show rdAns t = (zeroM, false) by unfold rdAns; rw [if_neg (fun h => h2 h.1.1)])
    rw [hA.out]
    have d2 : decide ((t.size : Int) < 2) = true := decide_eq_true (by omega)
    go_enter Try.func167, Try.ntmps167
    go_wp2_with (first
      | ((with_reducible refine gate (N := 28) rfl ?_); refine build_zero rfl rfl ?_)
      | ((with_reducible refine gateOp (op := .store 27 (.tmp 2) (.tmp 28)) rfl ?_); refine store_mach rfl _ _ rfl w.heap.size rfl zeroM rfl 27 _ hS.out.m0 ?_; intro W3 p2 ho hsz hbl; have pB := hid (hbl _ _ (Nat.le_refl _) hS.out.bel); replace p2 := hid p2; clear ho hsz hbl))
    exact ret_mach_v rfl rfl rfl p2.out rfl ⟨rfl, pB.out⟩
end Go.Proofs.Ytbmkkaecfogmoaa

/- The reference's number of a permutation. -/
namespace Go.Proofs.Ytbmkkaecfogmoaa
open Go.RowKit
set_option linter.unusedVariables false
set_option linter.unusedSimpArgs false
-- @LONG

theorem pim_256 (d k x : Nat) (hd : d = 2 ∨ d = 3) (hk : k < cnt d) (hx : x < 3) : pim d k x < 256 := by
  rcases hd with rfl | rfl
  · have : k = 0 ∨ k = 1 := by have : cnt 2 = 2 := rfl; omega
    have h2 : x = 0 ∨ x = 1 ∨ x = 2 := by omega
    rcases this with rfl | rfl <;> rcases h2 with rfl | rfl | rfl <;> decide
  · have : k = 0 ∨ k = 1 ∨ k = 2 ∨ k = 3 ∨ k = 4 ∨ k = 5 := by have : cnt 3 = 6 := rfl; omega
    have h2 : x = 0 ∨ x = 1 ∨ x = 2 := by omega
    rcases this with rfl | rfl | rfl | rfl | rfl | rfl <;> rcases h2 with rfl | rfl | rfl <;> decide
theorem pim_inj (d k i : Nat) (hd : d = 2 ∨ d = 3) (hk : k < cnt d) (hi : i < cnt d) (h : pim d k 0 = pim d i 0 ∧ pim d k 1 = pim d i 1 ∧ pim d k 2 = pim d i 2) : k = i := by
  rcases hd with rfl | rfl
  · have h1 : k = 0 ∨ k = 1 := by have : cnt 2 = 2 := rfl; omega
    have h2 : i = 0 ∨ i = 1 := by have : cnt 2 = 2 := rfl; omega
    rcases h1 with rfl | rfl <;> rcases h2 with rfl | rfl <;> first | rfl | (exact absurd h (by decide))
  · have h1 : k = 0 ∨ k = 1 ∨ k = 2 ∨ k = 3 ∨ k = 4 ∨ k = 5 := by have : cnt 3 = 6 := rfl; omega
    have h2 : i = 0 ∨ i = 1 ∨ i = 2 ∨ i = 3 ∨ i = 4 ∨ i = 5 := by have : cnt 3 = 6 := rfl; omega
    rcases h1 with rfl | rfl | rfl | rfl | rfl | rfl <;> rcases h2 with rfl | rfl | rfl | rfl | rfl | rfl <;> first | rfl | (exact absurd h (by decide))
theorem load_b3 {w : World} {b t : Nat} {x y z : Value} (h : w.heap[b]? = some (.cells #[x, y, z] t (0, 0))) : (loadVar 24 ⟨b, 0, none⟩).run Try.prog w = .ok (.agg #[x, y, z]) w := by
  have := run_loadVar_mid (P := Try.prog) w b 0 24 [x, y, z] _ (fun j v hv => by rw [Nat.zero_add, cell_of_row w b j _ _ _ h]; simpa using hv) Try.underlying24 rfl sz_b3
  simpa using this
set_option maxHeartbeats 4000000 in
set_option maxRecDepth 100000 in
theorem l03Number_lit (d i : Nat) (hd : d = 2 ∨ d = 3) (hi : i < cnt d) (a b c : Nat) (ha : a = pim d i 0) (hb : b = pim d i 1) (hc : c = pim d i 2) (w : World) :
    Calls Try.prog 144 #[.int .i64 d, .agg #[.int .u8 (a : Int), .int .u8 (b : Int), .int .u8 (c : Int)]] w fun e w' => e = .returned (.int .i64 (i : Nat)) ∧ Below w.heap.size w w' := by
  have hS := hid ((St.start w).newBlk #[.int .u8 (a : Int), .int .u8 (b : Int), .int .u8 (c : Int)] 24)
  have hct := hid (fun W => l03Count_any d hd W)
  have hc6 : cnt d ≤ 6 := by rcases hd with rfl | rfl <;> decide
  have him := hid (fun k (hk : k < cnt d) W => (by have h := l03Images_any d k hd hk W; rw [row3] at h; exact h : Calls Try.prog 140 #[.int .i64 d, .int .i64 k] W fun e w' => e = .returned (.agg #[.int .u8 (pim d k 0 : Nat), .int .u8 (pim d k 1 : Nat), .int .u8 (pim d k 2 : Nat)]) ∧ Below W.heap.size W w'))
  have hab : a < 256 ∧ b < 256 ∧ c < 256 := ⟨ha ▸ pim_256 d i 0 hd hi (by omega), hb ▸ pim_256 d i 1 hd hi (by omega), hc ▸ pim_256 d i 2 hd hi (by omega)⟩
  have heq0 := hid (fun k (hk : k < cnt d) (r : Bool) (hr : Tells r (pim d k 0 = a ∧ pim d k 1 = b ∧ pim d k 2 = c)) W => eq_b3 W (pim d k 0) (pim d k 1) (pim d k 2) a b c ⟨pim_256 d k 0 hd hk (by omega), pim_256 d k 1 hd hk (by omega), pim_256 d k 2 hd hk (by omega)⟩ hab r hr)
  have hne := hid (fun k (hk : k < i) (h : pim d k 0 = a ∧ pim d k 1 = b ∧ pim d k 2 = c) => (show False from by
    have := pim_inj d k i hd (by omega) hi ⟨h.1.trans ha, h.2.1.trans hb, h.2.2.trans hc⟩; omega))
  have hye := hid (show pim d i 0 = a ∧ pim d i 1 = b ∧ pim d i 2 = c from ⟨ha.symm, hb.symm, hc.symm⟩)
  have hg := guard_b3
  clear ha hb hc hab
  generalize hC : cnt d = C at *
  have ew : IntKind.i64.wrap ((C : Int) - 1) = (C : Int) - 1 := IntWalk.i64_in _ (by omega)
  clear hC
  go_enter Try.func144, Try.ntmps144
  go_wp2
  go_loopw [5] (fun j wr => ∃ k : Nat, k ≤ i ∧ j = .int .i64 k ∧ St w.heap.size w [Asn.blk w.heap.size #[.int .u8 (a : Int), .int .u8 (b : Int), .int .u8 (c : Int)] 24] wr) (fun j _ => i - (intOf j).toNat)
  case atStart => exact ⟨0, Nat.zero_le _, rfl, hS.out⟩
  case round =>
    obtain ⟨k, hk, rfl, rS⟩ := hrel
    clear hS
    replace rS := hid rS
    have dk : decide ((k : Int) < 6) = true := decide_eq_true (by omega)
    have hkC : k < C := by omega
    have hik := hid (him.out k hkC)
    have dm : decide ((C : Int) - 1 < (k : Int)) = false := decide_eq_false (by omega)
    have hmin : ¬ (C : Int) - 1 < (k : Int) := by omega
    by_cases hlt : k < i
    · have heq := fun W => heq0.out k hkC false ⟨fun h => (by cases h), fun h => (hne.out k hlt h).elim⟩ W
      generalize pim d k 0 = a' at *
      generalize pim d k 1 = b' at *
      generalize pim d k 2 = c' at *
      go_upto_region 4 with (fail)
      replace rS := hid rS.out.drew
      refine wp_region_heldL (L := [(8, (fun w' : World => w'.heap[w.heap.size]? = some (.cells #[.int .u8 (a : Int), .int .u8 (b : Int), .int .u8 (c : Int)] 24 (0, 0))))]) (by kernel_rfl) (HeldL.cons (fun _ => rS.out.k0) HeldL.nil) (fun hHeld => ?_)
      generalize wr.drew = wa at *
      refine wpAnyL_take0 (i := 0) (v := ?_) rfl (by kernel_rfl) (by kernel_rfl) (by kernel_rfl) (by rfl) (fun _ _ _ h => h) (Or.inl ⟨by rfl, ?_⟩) (by assumption) ?_
      rotate_left
      · (intro W _; go_simp; (with_reducible rfl))
      intro hHeld'
      clear hHeld; have hHeld := hHeld'; clear hHeld'
      try simp only [Act.put, List.getElem_toArray, List.getElem_cons_succ, List.getElem_cons_zero, List.setIfInBounds_toArray, List.set_cons_zero, List.set_cons_succ]
      refine wpAnyL_take0 (i := 1) (v := ?_) rfl (by kernel_rfl) (by kernel_rfl) (by kernel_rfl) (by rfl) (fun _ _ _ h => h) (Or.inl ⟨by rfl, ?_⟩) (by assumption) ?_
      rotate_left
      · (intro W _; go_simp; (with_reducible rfl))
      intro hHeld'
      clear hHeld; have hHeld := hHeld'; clear hHeld'
      try simp only [Act.put, List.getElem_toArray, List.getElem_cons_succ, List.getElem_cons_zero, List.setIfInBounds_toArray, List.set_cons_zero, List.set_cons_succ]
      refine wpAnyL_take0 (i := 2) (v := ?_) rfl (by kernel_rfl) (by kernel_rfl) (by kernel_rfl) (by rfl) (fun _ _ _ h => h) (Or.inl ⟨by rfl, ?_⟩) (by assumption) ?_
      rotate_left
      · (intro W _; go_simp; (with_reducible rfl))
      intro hHeld'
      clear hHeld; have hHeld := hHeld'; clear hHeld'
      try simp only [Act.put, List.getElem_toArray, List.getElem_cons_succ, List.getElem_cons_zero, List.setIfInBounds_toArray, List.set_cons_zero, List.set_cons_succ]
      refine wpAnyL_takeP (i := 7) 8 [] (v := (.agg #[.int .u8 (a : Int), .int .u8 (b : Int), .int .u8 (c : Int)])) (fun w' : World => w'.heap[w.heap.size]? = some (.cells #[.int .u8 (a : Int), .int .u8 (b : Int), .int .u8 (c : Int)] 24 (0, 0))) rfl (by kernel_rfl) (by kernel_rfl) (by kernel_rfl) (by rfl) (by kernel_rfl) (by simp) (fun _ _ _ h => h) (Or.inl ⟨by rfl, ?_⟩) (by assumption) ?_
      · (intro W hW; exact exec_load _ rfl rfl (load_b3 hW))
      intro hHeld'
      clear hHeld; have hHeld := hHeld'; clear hHeld'
      try simp only [Act.put, List.getElem_toArray, List.getElem_cons_succ, List.getElem_cons_zero, List.setIfInBounds_toArray, List.set_cons_zero, List.set_cons_succ]
      refine wpAnyL_ready (rs := [3]) (by kernel_rfl) (by simp) ?_
      refine AllReadyL.cons rfl (fun K hK => ?_) AllReadyL.nil
      go_simp
      (with_reducible refine (hct.out _).mono ?_)
      rintro e w3 ⟨rfl, rfl⟩
      go_simp
      refine hK.out _ _ (HeldL.cons (fun _ => rS.out.k0) HeldL.nil) (fun hHeld' => ?_)
      clear hK K hHeld; have hHeld := hHeld'; clear hHeld'
      try simp only [Act.put, List.getElem_toArray, List.getElem_cons_succ, List.getElem_cons_zero, List.setIfInBounds_toArray, List.set_cons_zero, List.set_cons_succ]
      refine wpAnyL_take0 (i := 4) (v := ?_) rfl (by kernel_rfl) (by kernel_rfl) (by kernel_rfl) (by rfl) (fun _ _ _ h => h) (Or.inl ⟨by rfl, ?_⟩) (by assumption) ?_
      rotate_left
      · (intro W _; go_simp; (with_reducible rfl))
      intro hHeld'
      clear hHeld; have hHeld := hHeld'; clear hHeld'
      try simp only [Act.put, List.getElem_toArray, List.getElem_cons_succ, List.getElem_cons_zero, List.setIfInBounds_toArray, List.set_cons_zero, List.set_cons_succ]
      refine wpAnyL_take0 (i := 5) (v := (.int .i64 (k : Nat))) rfl (by kernel_rfl) (by kernel_rfl) (by kernel_rfl) (by rfl) (fun _ _ _ h => h) (Or.inl ⟨by rfl, ?_⟩) (by assumption) ?_
      · (intro W _; go_simp)
      intro hHeld'
      clear hHeld; have hHeld := hHeld'; clear hHeld'
      try simp only [Act.put, List.getElem_toArray, List.getElem_cons_succ, List.getElem_cons_zero, List.setIfInBounds_toArray, List.set_cons_zero, List.set_cons_succ]
      refine wpAnyL_ready (rs := [6]) (by kernel_rfl) (by simp) ?_
      refine AllReadyL.cons rfl (fun K hK => ?_) AllReadyL.nil
      go_simp
      (with_reducible refine (hik.out _).mono ?_)
      rintro e w4 ⟨rfl, hb⟩
      replace rS := hid (rS.out.call hb)
      clear hb
      go_simp
      refine hK.out _ _ (HeldL.cons (fun _ => rS.out.k0) HeldL.nil) (fun hHeld' => ?_)
      clear hK K hHeld; have hHeld := hHeld'; clear hHeld'
      try simp only [Act.put, List.getElem_toArray, List.getElem_cons_succ, List.getElem_cons_zero, List.setIfInBounds_toArray, List.set_cons_zero, List.set_cons_succ]
      refine wpAnyL_ready (rs := [8]) (by kernel_rfl) (by simp) ?_
      refine AllReadyL.cons rfl (fun K hK => ?_) AllReadyL.nil
      go_simp
      refine hK.out _ _ (HeldL.cons (fun h => absurd h (by decide +kernel)) HeldL.nil) (fun hHeld' => ?_)
      clear hK K hHeld; have hHeld := hHeld'; clear hHeld'
      try simp only [Act.put, List.getElem_toArray, List.getElem_cons_succ, List.getElem_cons_zero, List.setIfInBounds_toArray, List.set_cons_zero, List.set_cons_succ]
      refine wpAnyL_done (by kernel_rfl) ?_ _
      go_wp2
      go_roundw
      case rel => exact ⟨k + 1, by omega, by go_num, rS.out⟩
      case measure => simp [intOf]; omega
    · obtain rfl : k = i := by omega
      have heq := fun W => heq0.out k hkC true ⟨fun _ => hye.out, fun _ => rfl⟩ W
      clear hye
      generalize pim d k 0 = a' at *
      generalize pim d k 1 = b' at *
      generalize pim d k 2 = c' at *
      go_upto_region 4 with (fail)
      replace rS := hid rS.out.drew
      refine wp_region_heldL (L := [(8, (fun w' : World => w'.heap[w.heap.size]? = some (.cells #[.int .u8 (a : Int), .int .u8 (b : Int), .int .u8 (c : Int)] 24 (0, 0))))]) (by kernel_rfl) (HeldL.cons (fun _ => rS.out.k0) HeldL.nil) (fun hHeld => ?_)
      generalize wr.drew = wa at *
      refine wpAnyL_take0 (i := 0) (v := ?_) rfl (by kernel_rfl) (by kernel_rfl) (by kernel_rfl) (by rfl) (fun _ _ _ h => h) (Or.inl ⟨by rfl, ?_⟩) (by assumption) ?_
      rotate_left
      · (intro W _; go_simp; (with_reducible rfl))
      intro hHeld'
      clear hHeld; have hHeld := hHeld'; clear hHeld'
      try simp only [Act.put, List.getElem_toArray, List.getElem_cons_succ, List.getElem_cons_zero, List.setIfInBounds_toArray, List.set_cons_zero, List.set_cons_succ]
      refine wpAnyL_take0 (i := 1) (v := ?_) rfl (by kernel_rfl) (by kernel_rfl) (by kernel_rfl) (by rfl) (fun _ _ _ h => h) (Or.inl ⟨by rfl, ?_⟩) (by assumption) ?_
      rotate_left
      · (intro W _; go_simp; (with_reducible rfl))
      intro hHeld'
      clear hHeld; have hHeld := hHeld'; clear hHeld'
      try simp only [Act.put, List.getElem_toArray, List.getElem_cons_succ, List.getElem_cons_zero, List.setIfInBounds_toArray, List.set_cons_zero, List.set_cons_succ]
      refine wpAnyL_take0 (i := 2) (v := ?_) rfl (by kernel_rfl) (by kernel_rfl) (by kernel_rfl) (by rfl) (fun _ _ _ h => h) (Or.inl ⟨by rfl, ?_⟩) (by assumption) ?_
      rotate_left
      · (intro W _; go_simp; (with_reducible rfl))
      intro hHeld'
      clear hHeld; have hHeld := hHeld'; clear hHeld'
      try simp only [Act.put, List.getElem_toArray, List.getElem_cons_succ, List.getElem_cons_zero, List.setIfInBounds_toArray, List.set_cons_zero, List.set_cons_succ]
      refine wpAnyL_takeP (i := 7) 8 [] (v := (.agg #[.int .u8 (a : Int), .int .u8 (b : Int), .int .u8 (c : Int)])) (fun w' : World => w'.heap[w.heap.size]? = some (.cells #[.int .u8 (a : Int), .int .u8 (b : Int), .int .u8 (c : Int)] 24 (0, 0))) rfl (by kernel_rfl) (by kernel_rfl) (by kernel_rfl) (by rfl) (by kernel_rfl) (by simp) (fun _ _ _ h => h) (Or.inl ⟨by rfl, ?_⟩) (by assumption) ?_
      · (intro W hW; exact exec_load _ rfl rfl (load_b3 hW))
      intro hHeld'
      clear hHeld; have hHeld := hHeld'; clear hHeld'
      try simp only [Act.put, List.getElem_toArray, List.getElem_cons_succ, List.getElem_cons_zero, List.setIfInBounds_toArray, List.set_cons_zero, List.set_cons_succ]
      refine wpAnyL_ready (rs := [3]) (by kernel_rfl) (by simp) ?_
      refine AllReadyL.cons rfl (fun K hK => ?_) AllReadyL.nil
      go_simp
      (with_reducible refine (hct.out _).mono ?_)
      rintro e w3 ⟨rfl, rfl⟩
      go_simp
      refine hK.out _ _ (HeldL.cons (fun _ => rS.out.k0) HeldL.nil) (fun hHeld' => ?_)
      clear hK K hHeld; have hHeld := hHeld'; clear hHeld'
      try simp only [Act.put, List.getElem_toArray, List.getElem_cons_succ, List.getElem_cons_zero, List.setIfInBounds_toArray, List.set_cons_zero, List.set_cons_succ]
      refine wpAnyL_take0 (i := 4) (v := ?_) rfl (by kernel_rfl) (by kernel_rfl) (by kernel_rfl) (by rfl) (fun _ _ _ h => h) (Or.inl ⟨by rfl, ?_⟩) (by assumption) ?_
      rotate_left
      · (intro W _; go_simp; (with_reducible rfl))
      intro hHeld'
      clear hHeld; have hHeld := hHeld'; clear hHeld'
      try simp only [Act.put, List.getElem_toArray, List.getElem_cons_succ, List.getElem_cons_zero, List.setIfInBounds_toArray, List.set_cons_zero, List.set_cons_succ]
      refine wpAnyL_take0 (i := 5) (v := (.int .i64 (k : Nat))) rfl (by kernel_rfl) (by kernel_rfl) (by kernel_rfl) (by rfl) (fun _ _ _ h => h) (Or.inl ⟨by rfl, ?_⟩) (by assumption) ?_
      · (intro W _; go_simp)
      intro hHeld'
      clear hHeld; have hHeld := hHeld'; clear hHeld'
      try simp only [Act.put, List.getElem_toArray, List.getElem_cons_succ, List.getElem_cons_zero, List.setIfInBounds_toArray, List.set_cons_zero, List.set_cons_succ]
      refine wpAnyL_ready (rs := [6]) (by kernel_rfl) (by simp) ?_
      refine AllReadyL.cons rfl (fun K hK => ?_) AllReadyL.nil
      go_simp
      (with_reducible refine (hik.out _).mono ?_)
      rintro e w4 ⟨rfl, hb⟩
      replace rS := hid (rS.out.call hb)
      clear hb
      go_simp
      refine hK.out _ _ (HeldL.cons (fun _ => rS.out.k0) HeldL.nil) (fun hHeld' => ?_)
      clear hK K hHeld; have hHeld := hHeld'; clear hHeld'
      try simp only [Act.put, List.getElem_toArray, List.getElem_cons_succ, List.getElem_cons_zero, List.setIfInBounds_toArray, List.set_cons_zero, List.set_cons_succ]
      refine wpAnyL_ready (rs := [8]) (by kernel_rfl) (by simp) ?_
      refine AllReadyL.cons rfl (fun K hK => ?_) AllReadyL.nil
      go_simp
      refine hK.out _ _ (HeldL.cons (fun h => absurd h (by decide +kernel)) HeldL.nil) (fun hHeld' => ?_)
      clear hK K hHeld; have hHeld := hHeld'; clear hHeld'
      try simp only [Act.put, List.getElem_toArray, List.getElem_cons_succ, List.getElem_cons_zero, List.setIfInBounds_toArray, List.set_cons_zero, List.set_cons_succ]
      refine wpAnyL_done (by kernel_rfl) ?_ _
      go_wp2_with (first
        | (go_at_call 141; (with_reducible refine (hct.out _).mono ?_); rintro e w' ⟨rfl, rfl⟩))
      go_ret
      exact ⟨rfl, rS.out.bel⟩
end Go.Proofs.Ytbmkkaecfogmoaa
