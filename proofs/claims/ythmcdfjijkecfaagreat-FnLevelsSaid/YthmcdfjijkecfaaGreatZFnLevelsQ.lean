/- What the proof of FnLevels leans on, part 17 of 19. -/
import Derived.Test.YthmcdfjijkecfaaGreatZFnLevelsP
import Derived.Deep.RegionWith
/- A machine with any states, drawn. -/
namespace Go.Proofs.YthmcdfjijkecfaaGreat
open Go.RowKit
set_option linter.unusedVariables false
set_option linter.unusedSimpArgs false
-- @LONG

/-- A machine of bytes with so many letters and states. -/
def MLS (m : Mach) (L S : Int) : Prop := m.Ok ∧ m.L = L ∧ m.S = S
theorem MLS.nx {m : Mach} {L S : Int} (h : MLS m L S) (i v : Nat) (hv : v < 256) : MLS { m with nx := upd m.nx i v } L S := ⟨fun j => ⟨by show upd m.nx i v j < 256; unfold upd; split; exact hv; exact (h.1 j).1, (h.1 j).2⟩, h.2⟩
theorem MLS.ot {m : Mach} {L S : Int} (h : MLS m L S) (i v : Nat) (hv : v < 256) : MLS { m with ot := upd m.ot i v } L S := ⟨fun j => ⟨(h.1 j).1, by show upd m.ot i v j < 256; unfold upd; split; exact hv; exact (h.1 j).2⟩, h.2⟩
theorem u8_of (r : Nat) (h : r < 256) : IntKind.u8.wrap (r : Int) = r := by
  unfold IntKind.wrap
  simp [IntKind.signed, IntKind.bits]; omega
section
variable {w0 w : World} {S : Nat} {v : Value} {l : List Nat} {L : List Asn}
set_option maxHeartbeats 4000000 in
set_option maxRecDepth 100000 in
theorem Dg.any (D : Dg w0 S v l) (d n : Nat) (hd : d = 2 ∨ d = 3) (hn : n ≤ 16) (hS : St w0.heap.size w0 (Asn.src S v l.length :: L) w) :
    Calls Tryz.prog 174 #[.pointer (some ⟨S, 0, none⟩), .int .i64 d, .int .i64 n] w fun e w' => ∃ m : Mach, e = .returned (.agg (mcells m)) ∧ Hid (MLS m d n) ∧ St w0.heap.size w0 (Asn.src S v l.length :: L) w' := by
  have hN := hid (fun W L n (h0 : n ≤ 1000000000) hW => D.next (w := W) (L := L) n h0 hW)
  have hz := zeroM_run
  have hz2 := hid (fun L W (h : St w0.heap.size w0 (Asn.src S v l.length :: L) W) => (h.newMB zeroM 27).f1)
  have hle := hid hS.le
  have hS := hid (hz2.out _ _ (hz2.out _ _ hS))
  simp only [heap_alloc_size] at hS
  clear D
  have hd2 : 2 ≤ d ∧ d ≤ 3 := by omega
  have hM0 := hid (show MLS ⟨(d : Int), (n : Int), fun _ => 0, fun _ => 0⟩ d n from ⟨fun _ => ⟨by show 0 < 256; omega, by show 0 < 256; omega⟩, rfl, rfl⟩)
  go_enter Tryz.func174, Tryz.ntmps174
  go_upto_region 2 with (first
    | ((with_reducible refine gate (N := 18) rfl ?_); refine build_mach rfl _ _ rfl (d : Int) (n : Int) rfl rfl ?_)
    | ((with_reducible refine gateOp (op := .store 27 (.tmp 7) (.tmp 18)) rfl ?_); refine store_mach rfl _ _ rfl (w.heap.size + 1) rfl ⟨(d : Int), (n : Int), fun _ => 0, fun _ => 0⟩ rfl 27 _ hS.out.f1.m0 ?_; intro w2 p3 ho hsz hbl; replace hS := hid (hS.out.f1.setM (Nat.le_succ_of_le hle.out) p3 ho hbl); clear p3 ho hsz hbl))
  replace hS := hid hS.out.f1
  have hb7 := hid (show w0.heap.size ≤ w.heap.size + 1 from Nat.le_succ_of_le hle.out)
  generalize w.heap.size + 1 = b7 at *
  go_upto_region 3 with (first
    | (go_at_call 130; (with_reducible refine (hN.out _ _ _ (by omega) hS.out).mono ?_); rintro e w3 ⟨r0, rfl, _, hS'⟩; replace hS := hid hS'; clear hS'))
  generalize decide (0 < r0) = calm at *
  go_wp2
  go_loopw [9] (fun i wr => ∃ (q : Nat) (m : Mach), q ≤ n ∧ i = .int .i64 q ∧ Hid (MLS m d n) ∧ St w0.heap.size w0 (Asn.src S v l.length :: Asn.mb 27 b7 m :: Asn.mb 27 w.heap.size zeroM :: L) wr) (fun i _ => n - (intOf i).toNat)
  case atStart => exact ⟨0, _, Nat.zero_le _, rfl, hM0, hS.out⟩
  case round =>
    obtain ⟨q, m, hq, rfl, hM, rS⟩ := hrel
    clear hS hM0
    replace rS := hid rS
    by_cases hlt : q < n
    · have dq : decide ((q : Int) < (n : Int)) = true := decide_eq_true (by omega)
      go_wp2
      go_loopw [10] (fun i wr => ∃ (x : Nat) (m : Mach), x ≤ d ∧ i = .int .i64 x ∧ Hid (MLS m d n) ∧ St w0.heap.size w0 (Asn.src S v l.length :: Asn.mb 27 b7 m :: Asn.mb 27 w.heap.size zeroM :: L) wr) (fun i _ => d - (intOf i).toNat)
      case atStart => exact ⟨0, _, Nat.zero_le _, rfl, hM, rS.out⟩
      case round =>
        obtain ⟨x, m, hx, rfl, hM, rS⟩ := hrel
        replace rS := hid rS
        by_cases hlx : x < d
        · have dx : decide ((x : Int) < (d : Int)) = true := decide_eq_true (by omega)
          have q0 : (0 : Int) ≤ (q : Int) := Int.natCast_nonneg _
          have q16 : (q : Int) < 16 := by omega
          have x0 : (0 : Int) ≤ (x : Int) := Int.natCast_nonneg _
          have x3 : (x : Int) < 3 := by omega
          have e1 : (x : Int) % 256 = x := by omega
          obtain ⟨vo, co⟩ : ∃ u, wr.cell? ⟨b7, 50 + q * 3 + x, none⟩ = some u := ⟨_, rS.out.m1.cot q x (by omega) (by omega)⟩
          have fo : wr.frozen? ⟨b7, 50 + q * 3 + x, none⟩ = false := World.rowIs.frozen rS.out.m1 _
          go_upto_region 10 with (fail)
          replace rS := hid (rS.out.f1.setOt hb7.out q x x (by omega) (by omega)).f1
          replace hM := hid (hM.out.ot (q * 3 + x) x (by omega))
          clear co fo e1
          generalize World.setCell wr _ _ = wa at *
          go_region_with (go_at_call 130; (with_reducible refine (hN.out _ _ _ (by omega) rS.out.drew).mono ?_); rintro e w5 ⟨r, rfl, hr, hS'⟩; (have e1 : IntKind.u8.wrap (r : Int) = r := u8_of r (by omega)); (have hr256 : r < 256 := by omega); replace rS := hid hS'; clear hS' hr; (obtain ⟨vn, cn⟩ : ∃ u, w5.cell? ⟨b7, 2 + q * 3 + x, none⟩ = some u := ⟨_, rS.out.m1.cnx q x (by omega) (by omega)⟩); (have fn : w5.frozen? ⟨b7, 2 + q * 3 + x, none⟩ = false := World.rowIs.frozen rS.out.m1 _))
          replace rS := hid (rS.out.f1.setNx hb7.out q x r (by omega) (by omega)).f1
          replace hM := hid (hM.out.nx (q * 3 + x) r hr256)
          clear cn fn e1
          generalize World.setCell w5 _ _ = wb at *
          cases calm
          · go_wp2
            go_roundw
            case rel => exact ⟨x + 1, _, by omega, by go_num, hM, rS.out⟩
            case measure => simp [intOf]; omega
          · go_upto_region 12 with (first
              | (go_at_call 130; (with_reducible refine (hN.out _ _ _ (by omega) rS.out).mono ?_); rintro e w6 ⟨r2, rfl, _, hS'⟩; replace rS := hid hS'; clear hS'))
            · obtain ⟨vn, cn⟩ : ∃ u, w6.cell? ⟨b7, 2 + q * 3 + x, none⟩ = some u := ⟨_, rS.out.m1.cnx q x (by omega) (by omega)⟩
              have fn : w6.frozen? ⟨b7, 2 + q * 3 + x, none⟩ = false := World.rowIs.frozen rS.out.m1 _
              go_wp2
              go_roundw
              case rel => exact ⟨x + 1, _, by omega, by go_num, hid (hM.out.nx (q * 3 + x) 0 (by omega)), (rS.out.f1.setNx hb7.out q x 0 (by omega) (by omega)).f1⟩
              case measure => simp [intOf]; omega
            · go_roundw
              case rel => exact ⟨x + 1, _, by omega, by go_num, hM, rS.out⟩
              case measure => simp [intOf]; omega
        · obtain rfl : x = d := by omega
          by_cases h0 : q = 0
          · have d0 : ((q : Int) == 0) = true := by simp; omega
            replace h0 := hid h0
            cases calm
            · skip
              go_wp2_with (first
                | (go_at_call 130; (with_reducible refine (hN.out _ _ _ (by omega) rS.out).mono ?_); rintro e w6 ⟨r2, rfl, hr2, hS'⟩; replace rS := hid hS'; clear hS'))
              go_loopw [12] (fun i wr => ∃ (k : Nat) (m : Mach), i = .int .i64 k ∧ k ≤ 2 ∧ Hid (MLS m x n) ∧ St w0.heap.size w0 (Asn.src S v l.length :: Asn.mb 27 b7 m :: Asn.mb 27 w.heap.size zeroM :: L) wr) (fun i _ => (intOf i).toNat)
              case atStart => exact ⟨r2, _, rfl, by omega, hM, rS.out⟩
              case round =>
                obtain ⟨k, m, rfl, hk, hM, rS⟩ := hrel
                replace rS := hid rS
                by_cases hk0 : 0 < k
                · have dk : decide ((k : Int) > 0) = true := decide_eq_true (by omega)
                  have mk1 : True := trivial
                  go_upto_region 22 with (first
                    | (go_at_call 130; clear mk1; (with_reducible refine (hN.out _ _ _ (by omega) rS.out).mono ?_); rintro e w7 ⟨y1, rfl, hy1, hS'⟩; replace rS := hid hS'; clear hS')
                    | (go_at_call 130; (with_reducible refine (hN.out _ _ _ (by omega) rS.out).mono ?_); rintro e w8 ⟨y2, rfl, hy2, hS'⟩; replace rS := hid hS'; clear hS'))
                  have q0 : (0 : Int) ≤ (q : Int) := Int.natCast_nonneg _
                  have q16 : (q : Int) < 16 := by omega
                  have x0 : (0 : Int) ≤ (y1 : Int) := Int.natCast_nonneg _
                  have x3 : (y1 : Int) < 3 := by omega
                  have z0 : (0 : Int) ≤ (y2 : Int) := Int.natCast_nonneg _
                  have z3 : (y2 : Int) < 3 := by omega
                  have c1 := rS.out.m1.cot q y1 (by omega) (by omega)
                  have c2 := rS.out.m1.cot q y2 (by omega) (by omega)
                  have ha := (hM.out.1 (q * 3 + y1)).2
                  have hb := (hM.out.1 (q * 3 + y2)).2
                  have f1 : w8.frozen? ⟨b7, 50 + q * 3 + y1, none⟩ = false := World.rowIs.frozen rS.out.m1 _
                  replace rS := hid (rS.out.f1.setOt hb7.out q y1 (m.ot (q * 3 + y2)) (by omega) (by omega)).f1.drew
                  replace hM := hid (hM.out.ot (q * 3 + y1) (m.ot (q * 3 + y2)) hb)
                  generalize m.ot (q * 3 + y1) = a at *
                  generalize m.ot (q * 3 + y2) = b at *
                  go_upto_region 23 with (fail)
                  go_region
                  generalize World.drew _ = w9 at *
                  clear c1 c2 f1
                  obtain ⟨vo, co⟩ : ∃ u, w9.cell? ⟨b7, 50 + q * 3 + y2, none⟩ = some u := ⟨_, rS.out.m1.cot q y2 (by omega) (by omega)⟩
                  have f2 : w9.frozen? ⟨b7, 50 + q * 3 + y2, none⟩ = false := World.rowIs.frozen rS.out.m1 _
                  go_wp2
                  go_roundw
                  case rel => exact ⟨k - 1, _, i64_eq (by omega), by omega, hid (hM.out.ot (q * 3 + y2) a ha), (rS.out.f1.setOt hb7.out q y2 a (by omega) (by omega)).f1⟩
                  case measure => simp [intOf]; omega
                · obtain rfl : k = 0 := by omega
                  go_wp2
                  go_roundw
                  case rel => exact ⟨q + 1, _, by omega, by go_num, hM, rS.out⟩
                  case measure => simp [intOf]; omega
            · go_wp2
              go_loopw [11] (fun i wr => ∃ (y : Nat) (m : Mach), y ≤ x ∧ i = .int .i64 y ∧ Hid (MLS m x n) ∧ St w0.heap.size w0 (Asn.src S v l.length :: Asn.mb 27 b7 m :: Asn.mb 27 w.heap.size zeroM :: L) wr) (fun i _ => x - (intOf i).toNat)
              case atStart => exact ⟨0, _, Nat.zero_le _, rfl, hM, rS.out⟩
              case round =>
                obtain ⟨y, m, hy, rfl, hM, rS⟩ := hrel
                replace rS := hid rS
                by_cases hly : y < x
                · have dy : decide ((y : Int) < (x : Int)) = true := decide_eq_true (by omega)
                  have y0 : (0 : Int) ≤ (y : Int) := Int.natCast_nonneg _
                  have y3 : (y : Int) < 3 := by omega
                  have hst := hid (rS.out.f1.setNx hb7.out 0 y 0 (by omega) (by omega)).f1
                  have hM2 := hid (hM.out.nx (0 * 3 + y) 0 (by omega))
                  obtain ⟨vn, cn⟩ : ∃ u, wr.cell? ⟨b7, 2 + y, none⟩ = some u := ⟨_, rS.out.m1.cnx 0 y (by omega) (by omega)⟩
                  have fn : wr.frozen? ⟨b7, 2 + y, none⟩ = false := World.rowIs.frozen rS.out.m1 _
                  go_wp2
                  go_roundw
                  case rel => exact ⟨y + 1, _, by omega, by go_num, hM2, hst.out⟩
                  case measure => simp [intOf]; omega
                · obtain rfl : y = x := by omega
                  go_wp2
                  go_roundw
                  case rel => exact ⟨q + 1, _, by omega, by go_num, hM, rS.out⟩
                  case measure => simp [intOf]; omega
          · have d0 : ((q : Int) == 0) = false := by simp; omega
            go_wp2_with (first
              | (go_at_call 130; (with_reducible refine (hN.out _ _ _ (by omega) rS.out).mono ?_); rintro e w6 ⟨r2, rfl, hr2, hS'⟩; replace rS := hid hS'; clear hS'))
            go_loopw [12] (fun i wr => ∃ (k : Nat) (m : Mach), i = .int .i64 k ∧ k ≤ 2 ∧ Hid (MLS m x n) ∧ St w0.heap.size w0 (Asn.src S v l.length :: Asn.mb 27 b7 m :: Asn.mb 27 w.heap.size zeroM :: L) wr) (fun i _ => (intOf i).toNat)
            case atStart => exact ⟨r2, _, rfl, by omega, hM, rS.out⟩
            case round =>
              obtain ⟨k, m, rfl, hk, hM, rS⟩ := hrel
              replace rS := hid rS
              by_cases hk0 : 0 < k
              · have dk : decide ((k : Int) > 0) = true := decide_eq_true (by omega)
                have mk1 : True := trivial
                go_upto_region 22 with (first
                  | (go_at_call 130; clear mk1; (with_reducible refine (hN.out _ _ _ (by omega) rS.out).mono ?_); rintro e w7 ⟨y1, rfl, hy1, hS'⟩; replace rS := hid hS'; clear hS')
                  | (go_at_call 130; (with_reducible refine (hN.out _ _ _ (by omega) rS.out).mono ?_); rintro e w8 ⟨y2, rfl, hy2, hS'⟩; replace rS := hid hS'; clear hS'))
                have q0 : (0 : Int) ≤ (q : Int) := Int.natCast_nonneg _
                have q16 : (q : Int) < 16 := by omega
                have x0 : (0 : Int) ≤ (y1 : Int) := Int.natCast_nonneg _
                have x3 : (y1 : Int) < 3 := by omega
                have z0 : (0 : Int) ≤ (y2 : Int) := Int.natCast_nonneg _
                have z3 : (y2 : Int) < 3 := by omega
                have c1 := rS.out.m1.cot q y1 (by omega) (by omega)
                have c2 := rS.out.m1.cot q y2 (by omega) (by omega)
                have ha := (hM.out.1 (q * 3 + y1)).2
                have hb := (hM.out.1 (q * 3 + y2)).2
                have f1 : w8.frozen? ⟨b7, 50 + q * 3 + y1, none⟩ = false := World.rowIs.frozen rS.out.m1 _
                replace rS := hid (rS.out.f1.setOt hb7.out q y1 (m.ot (q * 3 + y2)) (by omega) (by omega)).f1.drew
                replace hM := hid (hM.out.ot (q * 3 + y1) (m.ot (q * 3 + y2)) hb)
                generalize m.ot (q * 3 + y1) = a at *
                generalize m.ot (q * 3 + y2) = b at *
                go_upto_region 23 with (fail)
                go_region
                generalize World.drew _ = w9 at *
                clear c1 c2 f1
                obtain ⟨vo, co⟩ : ∃ u, w9.cell? ⟨b7, 50 + q * 3 + y2, none⟩ = some u := ⟨_, rS.out.m1.cot q y2 (by omega) (by omega)⟩
                have f2 : w9.frozen? ⟨b7, 50 + q * 3 + y2, none⟩ = false := World.rowIs.frozen rS.out.m1 _
                go_wp2
                go_roundw
                case rel => exact ⟨k - 1, _, i64_eq (by omega), by omega, hid (hM.out.ot (q * 3 + y2) a ha), (rS.out.f1.setOt hb7.out q y2 a (by omega) (by omega)).f1⟩
                case measure => simp [intOf]; omega
              · obtain rfl : k = 0 := by omega
                go_wp2
                go_roundw
                case rel => exact ⟨q + 1, _, by omega, by go_num, hM, rS.out⟩
                case measure => simp [intOf]; omega
    · obtain rfl : q = n := by omega
      clear hN
      go_wp2_with (first
        | ((with_reducible refine gate (N := 108) rfl ?_); refine load_mach rfl _ rfl b7 rfl m rS.out.m1 ?_)
        | ((with_reducible refine gateOp (op := .store 27 (.tmp 6) (.tmp 108)) rfl ?_); refine store_mach rfl _ _ rfl w.heap.size rfl m rfl 27 _ rS.out.f2.m0 ?_; intro w9 p3 ho hsz hbl; replace rS := hid (rS.out.f2.setM hle.out p3 ho hbl); clear p3 ho hsz hbl))
      exact ret_mach rfl rfl rS.out.m0 rfl ⟨m, rfl, hM, rS.out.drop.f1.drop⟩
end
end Go.Proofs.YthmcdfjijkecfaaGreat

/- Lists of texts. -/
namespace Go.Proofs.YthmcdfjijkecfaaGreat
open Go.RowKit
set_option linter.unusedVariables false
set_option linter.unusedSimpArgs false
def strs (L : List ByteArray) : List Value := L.map Value.string
theorem strs_length (L : List ByteArray) : (strs L).length = L.length := by simp [strs]
theorem strs_snoc (L : List ByteArray) (s : ByteArray) : strs (L ++ [s]) = strs L ++ [.string s] := by simp [strs]
end Go.Proofs.YthmcdfjijkecfaaGreat

/- Parts of a text between bytes: the reference's l01Split. -/
namespace Go.Proofs.YthmcdfjijkecfaaGreat
open Go.RowKit
set_option linter.unusedVariables false
set_option linter.unusedSimpArgs false
-- @LONG

/-- A byte of a text. -/
def bt (s : ByteArray) (i : Nat) : Nat := if h : i < s.size then (s[i]'h).toNat else 0
theorem bt_eq {s : ByteArray} {i : Nat} (h : i < s.size) : (s[i]'h).toNat = bt s i := by unfold bt; rw [dif_pos h]
theorem bt_lt (s : ByteArray) (i : Nat) : bt s i < 256 := by
  unfold bt; split
  · exact UInt8.toNat_lt _
  · omega
section
variable {ops : Array Oper} {C : World → Prop} {Q : Act → Prop} {a : Act} {o : Oper} {rest : List Oper}
/-- A byte of a text, in a region that only reads. -/
theorem quiet_idx (hw : Region.wanted o (yielded ops a.tmps) = true) (t : TypeId) (x y : Operand) (ho : o.op = .index t x y) (ht : Tryz.prog.underlying t = some .string) (s : ByteArray) (k : Nat) (i : Int) (hx : a.eval x = .string s) (hy : a.eval y = .int .i64 i) (hi : i = (k : Nat)) (hk : k < s.size)
    (h : wpQuiet Tryz.prog ops C Q rest (a.put o.dst (.int .u8 (bt s k : Nat)))) : wpQuiet Tryz.prog ops C Q (o :: rest) a := by
  subst hi
  exact BigFrame.wpQuiet_want hw fun K hK => ⟨.int .u8 (bt s k : Nat), fun w _ => by
    have e : (execOp a.eval o).run Tryz.prog w = .ok (.value (.int .u8 (bt s k : Nat))) w := by
      unfold execOp
      simp only [ho, hx, hy]
      have e2 : (Instr.index t (.string s) (.int .i64 (k : Nat))).run Tryz.prog w = .ok (.int .u8 (bt s k : Nat)) w := by
        rw [run_index_string w t s .i64 k ht, dif_pos ⟨by omega, by omega⟩]
        have e3 := bt_eq hk
        simp only [Int.toNat_natCast, e3]
      simp [go_sem, e2]
    unfold Oper.quietAt
    rw [e]
    exact ⟨rfl, rfl⟩, hK _ h⟩
end
/-- The parts that are done, and where the next one begins, behind i bytes. -/
def splP (s : ByteArray) (c : Nat) : Nat → List ByteArray × Nat
  | 0 => ([], 0)
  | i + 1 => if bt s i = c then ((splP s c i).1 ++ [s.extract (splP s c i).2 i], i + 1) else splP s c i
/-- The parts of a text between the bytes c. -/
def splL (s : ByteArray) (c : Nat) : List ByteArray := (splP s c s.size).1 ++ [s.extract (splP s c s.size).2 s.size]
theorem splP_at (s : ByteArray) (c : Nat) : ∀ i, (splP s c i).2 ≤ i
  | 0 => Nat.le_refl _
  | i + 1 => by
    have := splP_at s c i
    unfold splP; split
    · exact Nat.le_refl _
    · omega
theorem splP_len (s : ByteArray) (c : Nat) : ∀ i, (splP s c i).1.length ≤ i
  | 0 => Nat.le_refl _
  | i + 1 => by
    have := splP_len s c i
    unfold splP; split
    · simp; omega
    · omega
theorem splL_len (s : ByteArray) (c : Nat) : (splL s c).length ≤ s.size + 1 ∧ 1 ≤ (splL s c).length := by
  have := splP_len s c s.size
  unfold splL; simp; omega
theorem splP_sz (s : ByteArray) (c : Nat) : ∀ i, i ≤ s.size → ∀ p ∈ (splP s c i).1, p.size ≤ s.size
  | 0, _, p, hp => by cases hp
  | i + 1, h, p, hp => by
    rw [splP] at hp
    split at hp
    · rcases List.mem_append.1 hp with hp | hp
      · exact splP_sz s c i (by omega) p hp
      · rw [List.mem_singleton.1 hp, ByteArray.size_extract]; omega
    · exact splP_sz s c i (by omega) p hp
theorem splL_sz (s : ByteArray) (c : Nat) : ∀ p ∈ splL s c, p.size ≤ s.size := fun p hp => by
  unfold splL at hp
  rcases List.mem_append.1 hp with hp | hp
  · exact splP_sz s c _ (Nat.le_refl _) p hp
  · rw [List.mem_singleton.1 hp, ByteArray.size_extract]; omega
set_option maxHeartbeats 2000000 in
set_option maxRecDepth 100000 in
theorem l01Split_any (w : World) (s : ByteArray) (hs : s.size ≤ 100000) (c : Nat) :
    Calls Tryz.prog 262 #[.string s, .int .u8 c] w fun e w' => ∃ v, e = .returned v ∧ Own w' w.heap.size 9 v (strs (splL s c)) ∧ Below w.heap.size w w' := by
  have hS0 := hid ((St.start w).newOwn [] 9 (by simp))
  have hb := hid (fun k (hk : k < s.size) => bt_eq hk)
  have hat := hid (splP_at s c)
  have hln := hid (splP_len s c)
  have hst := hid (fun k => (show splP s c (k + 1) = if bt s k = c then ((splP s c k).1 ++ [s.extract (splP s c k).2 k], k + 1) else splP s c k from rfl))
  have hen := hid (show splL s c = (splP s c s.size).1 ++ [s.extract (splP s c s.size).2 s.size] from rfl)
  rw [hen.out]
  obtain ⟨P, hP⟩ : ∃ P, P = splP s c := ⟨_, rfl⟩
  have h0 := hid (show P 0 = ([], 0) by rw [hP]; rfl)
  rw [← hP] at hat hln hst ⊢
  clear hP hen
  go_enter Tryz.func262, Tryz.ntmps262
  go_wp2
  go_loopw [5, 6, 7] (fun o a i wr => ∃ k : Nat, k ≤ s.size ∧ i = .int .i64 k ∧ a = .int .i64 ((P k).2 : Nat) ∧ St w.heap.size w [Asn.own w.heap.size 9 o (strs (P k).1)] wr) (fun _ _ i _ => s.size - (intOf i).toNat)
  case atStart => exact ⟨0, Nat.zero_le _, rfl, by rw [h0.out]; rfl, by rw [h0.out]; exact hS0.out⟩
  case round =>
    obtain ⟨k, hk, rfl, rfl, rS⟩ := hrel
    clear hS0
    replace rS := hid rS
    by_cases hlt : k < s.size
    · have hbk := hb.out k hlt
      have hak := hat.out k
      have hlk := hln.out k
      have hsk := hst.out k
      have dk : decide ((k : Int) < (s.size : Int)) = true := decide_eq_true (by omega)
      have hpl := hid (strs_length (P k).1)
      generalize bt s k = b at *
      by_cases e : b = c
      · subst e
        rw [if_pos rfl] at hsk
        replace hsk := hid hsk
        generalize hat' : (P k).2 = at0 at *
        go_wp2_with (first
          | ((with_reducible refine gate (N := 26) rfl ?_); refine St.app 64 9 (.string { data := #[] }) 16 Tryz.underlying64 info_str rfl (by omega) rfl _ _ rfl _ _ rfl rS.out _ rfl rfl (P k).1.length hpl.out (by omega) ?_; intro gn cap w2 hO2; replace rS := hid hO2; clear hO2))
        go_roundw
        case rel => exact ⟨k + 1, by omega, by go_num, by rw [hsk.out]; go_num, by rw [hsk.out, strs_snoc]; exact rS.out⟩
        case measure => simp [intOf]; omega
      · rw [if_neg e] at hsk
        replace hsk := hid hsk
        have db : ((b : Int) == (c : Int)) = false := by simp; omega
        go_wp2
        go_roundw
        case rel => exact ⟨k + 1, by omega, by go_num, by rw [hsk.out], by rw [hsk.out]; exact rS.out⟩
        case measure => simp [intOf]; omega
    · obtain rfl : k = s.size := by omega
      have hak := hat.out s.size
      have hlk := hln.out s.size
      have hpl := hid (strs_length (P s.size).1)
      generalize hat' : (P s.size).2 = at0 at *
      go_wp2_with (first
        | ((with_reducible refine gate (N := 34) rfl ?_); refine St.app 64 9 (.string { data := #[] }) 16 Tryz.underlying64 info_str rfl (by omega) rfl _ _ rfl _ _ rfl rS.out _ rfl rfl (P s.size).1.length hpl.out (by omega) ?_; intro gn cap w2 hO2; replace rS := hid hO2; clear hO2))
      go_ret
      exact ⟨_, rfl, by rw [strs_snoc, hat']; exact rS.out.o0, rS.out.bel⟩
end Go.Proofs.YthmcdfjijkecfaaGreat

/- A machine filled row after row. -/
namespace Go.Proofs.YthmcdfjijkecfaaGreat
set_option linter.unusedVariables false
set_option linter.unusedSimpArgs false

/-- i rows written, and x letters of the next one. -/
def filP (L : Nat) (n : Int) (f g : Nat → Nat → Nat) (i x : Nat) : Mach :=
  ⟨L, n, fun p => if (p / 3 < i ∨ p / 3 = i ∧ p % 3 < x) ∧ p % 3 < L then f (p / 3) (p % 3) else 0, fun p => if (p / 3 < i ∨ p / 3 = i ∧ p % 3 < x) ∧ p % 3 < L then g (p / 3) (p % 3) else 0⟩
section
variable {L : Nat} {n : Int} {f g : Nat → Nat → Nat}
theorem filP_row (i : Nat) (hL : L ≤ 3) : filP L n f g i L = filP L n f g (i + 1) 0 := by
  have e : ∀ p, ((p / 3 < i ∨ p / 3 = i ∧ p % 3 < L) ∧ p % 3 < L) = ((p / 3 < i + 1 ∨ p / 3 = i + 1 ∧ p % 3 < 0) ∧ p % 3 < L) := fun p => by
    apply propext
    constructor
    · rintro ⟨h1, h2⟩; exact ⟨by omega, h2⟩
    · rintro ⟨h1, h2⟩; exact ⟨by omega, h2⟩
  unfold filP
  simp only [e]
theorem filP_zero : filP L n f g 0 0 = ⟨L, n, fun _ => 0, fun _ => 0⟩ := by
  have e : ∀ p, ((p / 3 < 0 ∨ p / 3 = 0 ∧ p % 3 < 0) ∧ p % 3 < L) = False := fun p => by
    apply propext
    constructor
    · rintro ⟨h1, h2⟩; omega
    · exact False.elim
  unfold filP
  simp only [e, if_false]
theorem filP_step (i x : Nat) (hx : x < L) (hL : L ≤ 3) : filP L n f g i (x + 1) = { (filP L n f g i x) with nx := upd (filP L n f g i x).nx (i * 3 + x) (f i x), ot := upd (filP L n f g i x).ot (i * 3 + x) (g i x) } := by
  unfold filP upd
  dsimp only
  congr 1
  · funext p
    by_cases e : p = i * 3 + x
    · subst e
      rw [if_pos rfl, show (i * 3 + x) / 3 = i by omega, show (i * 3 + x) % 3 = x by omega, if_pos (by omega)]
    · rw [if_neg e]
      by_cases h : (p / 3 < i ∨ p / 3 = i ∧ p % 3 < x) ∧ p % 3 < L
      · rw [if_pos h, if_pos (by omega)]
      · rw [if_neg h, if_neg (by omega)]
  · funext p
    by_cases e : p = i * 3 + x
    · subst e
      rw [if_pos rfl, show (i * 3 + x) / 3 = i by omega, show (i * 3 + x) % 3 = x by omega, if_pos (by omega)]
    · rw [if_neg e]
      by_cases h : (p / 3 < i ∨ p / 3 = i ∧ p % 3 < x) ∧ p % 3 < L
      · rw [if_pos h, if_pos (by omega)]
      · rw [if_neg h, if_neg (by omega)]
theorem filP_ok (hf : ∀ q x, f q x < 256) (hg : ∀ q x, g q x < 256) (i x : Nat) : (filP L n f g i x).Ok := fun p => by
  unfold filP
  dsimp only
  split
  · exact ⟨hf _ _, hg _ _⟩
  · exact ⟨by omega, by omega⟩
end
end Go.Proofs.YthmcdfjijkecfaaGreat

/- The machine of a text: the reference's l01Read. -/
namespace Go.Proofs.YthmcdfjijkecfaaGreat
open Go.RowKit
set_option linter.unusedVariables false
set_option linter.unusedSimpArgs false
-- @LONG

/-- A text begins like a machine's. -/
def HeadOk (t : ByteArray) : Prop := 2 ≤ t.size ∧ bt t 1 = 58 ∧ (bt t 0 = 50 ∨ bt t 0 = 51)
/-- A part is that of a state. -/
def PartOk (L : Nat) (p : ByteArray) : Prop := p.size = 2 * L ∧ ∀ x, x < L → (48 ≤ bt p (2 * x) ∧ bt p (2 * x) ≤ 50) ∧ 97 ≤ bt p (2 * x + 1) ∧ bt p (2 * x + 1) ≤ 112
def bpt (ps : List ByteArray) (q : Nat) : ByteArray := ps.getD q { data := #[] }
def rdP (L : Nat) (ps : List ByteArray) (q x : Nat) : Mach := filP L ps.length (fun q x => bt (bpt ps q) (2 * x + 1) - 97) (fun q x => bt (bpt ps q) (2 * x) - 48) q x
/-- The machine of parts. -/
def rdM (L : Nat) (ps : List ByteArray) : Mach := rdP L ps ps.length 0
def rdS (t : ByteArray) : List ByteArray := splL (t.extract 2 t.size) 44
open Classical in
/-- What l01Read answers. -/
noncomputable def rdAns (t : ByteArray) : Mach × Bool :=
  if HeadOk t ∧ (rdS t).length ≤ 16 ∧ ∀ p ∈ rdS t, PartOk (bt t 0 - 48) p then (rdM (bt t 0 - 48) (rdS t), decide (IsM (rdM (bt t 0 - 48) (rdS t)))) else (zeroM, false)
theorem rdP_ok (L : Nat) (ps : List ByteArray) (q x : Nat) : (rdP L ps q x).Ok := filP_ok (fun q x => by have := bt_lt (bpt ps q) (2 * x + 1); omega) (fun q x => by have := bt_lt (bpt ps q) (2 * x); omega) q x
theorem zeroM_ok : zeroM.Ok := fun _ => ⟨by show 0 < 256; omega, by show 0 < 256; omega⟩
theorem rdAns_ok (t : ByteArray) : (rdAns t).1.Ok := by
  unfold rdAns; split
  · exact rdP_ok _ _ _ _
  · exact zeroM_ok
open Classical in
set_option maxHeartbeats 4000000 in
set_option maxRecDepth 100000 in
theorem l01Read_any (w : World) (t : ByteArray) (hs : t.size ≤ 100000) :
    Calls Tryz.prog 237 #[.string t] w fun e w' => e = .returned (.tuple #[.agg (mcells (rdAns t).1), .bool (rdAns t).2]) ∧ Below w.heap.size w w' := by
  have hz := zeroM_run
  have hS := hid ((St.start w).newMB zeroM 27)
  by_cases h2 : 2 ≤ t.size
  · have hb1 : (t[1]'(by omega)).toNat = bt t 1 := bt_eq (by omega)
    have hb0 : (t[0]'(by omega)).toNat = bt t 0 := bt_eq (by omega)
    by_cases h58 : bt t 1 = 58
    · by_cases h50 : bt t 0 = 50 ∨ bt t 0 = 51
      · rcases h50 with h50 | h50
        · have hq : bt t 0 - 48 = 2 := by omega
          have h50' : bt t 0 = 50 ∨ bt t 0 = 51 := .inl h50
          rw [h50] at hb0
          have hb0 : (t[0]'(by omega)).toNat = 50 := hb0
          have hH : HeadOk t := ⟨h2, h58, h50'⟩
          have hAf := hid (fun (h : ¬ ((rdS t).length ≤ 16 ∧ ∀ p ∈ rdS t, PartOk 2 p)) => (show rdAns t = (zeroM, false) from by unfold rdAns; rw [if_neg (fun h' => h (by have h3 := h'.2; rw [hq] at h3; exact h3))]))
          have hAt := hid (fun (h16 : (rdS t).length ≤ 16) (hp : ∀ p ∈ rdS t, PartOk 2 p) => (show rdAns t = (rdM 2 (rdS t), decide (IsM (rdM 2 (rdS t)))) from by unfold rdAns; rw [hq, if_pos ⟨hH, h16, hp⟩]))
          have hsp := hid (fun W => l01Split_any W (t.extract 2 t.size) (by rw [ByteArray.size_extract]; omega) 44)
          simp only [show ((44 : Nat) : Int) = 44 from rfl] at hsp
          have hsp' := hid (show splL (t.extract 2 t.size) 44 = rdS t from rfl)
          rw [hsp'.out] at hsp
          have hpl := hid (splL_len (t.extract 2 t.size) 44)
          have hpz := hid (splL_sz (t.extract 2 t.size) 44)
          rw [hsp'.out] at hpl hpz
          have hxz : (t.extract 2 t.size).size ≤ 100000 := by rw [ByteArray.size_extract]; omega
          have d2 : decide ((t.size : Int) < 2) = false := decide_eq_false (by omega)
          have hz2 := hid (fun L W (h : St w.heap.size w L W) => h.newMB zeroM 27)
          have hil := hid (strs_length (rdS t))
          have hpn : 1 ≤ (rdS t).length := hpl.out.2
          have hpm : (rdS t).length ≤ 100001 := by have := hpl.out.1; omega
          rw [h58] at hb1
          clear hsp' h58 hH hq h50'
          generalize rdAns t = ans at *
          generalize rdS t = ps at *
          go_enter Tryz.func237, Tryz.ntmps237
          go_upto_region 5 with (first
            | (go_at_call 262; (with_reducible refine (hsp.out _).mono ?_); rintro e w1 ⟨v, rfl, hO, hb⟩; (obtain ⟨g, c, rfl, _, _⟩ := hO.blk (fun e => by have h1 := congrArg List.length e; rw [hil.out, List.length_nil] at h1; omega)); rw [hil.out] at hO ⊢; have hle2 := hid ((hS.out.call hb).le); replace hS := hid (hz2.out _ _ (hS.out.callOwn hb hO)); clear hb hO hsp)
            | ((with_reducible refine gate (N := 38) rfl ?_); refine build_mach rfl _ _ rfl 2 (ps.length : Int) rfl rfl ?_)
            | ((with_reducible refine gateOp (op := .store 27 (.tmp 5) (.tmp 38)) rfl ?_); refine store_mach rfl _ _ rfl w1.heap.size rfl ⟨2, (ps.length : Int), fun _ => 0, fun _ => 0⟩ rfl 27 _ hS.out.m0 ?_; intro w2 p3 ho hsz hbl; replace hS := hid (hS.out.setM hle2.out p3 ho hbl); clear p3 ho hsz hbl))
          generalize w1.heap.size = b5 at *
          by_cases h16 : ps.length ≤ 16
          · have d16 : decide ((ps.length : Int) > 16) = false := decide_eq_false (by omega)
            replace hS := hid (show St w.heap.size w [Asn.mb 27 b5 (rdP 2 ps 0 0), Asn.own w.heap.size 9 (.slice (some ⟨g, 0, none⟩) ps.length c) (strs ps), Asn.mb 27 w.heap.size zeroM] w2 from by
              rw [show rdP 2 ps 0 0 = ⟨2, (ps.length : Int), fun _ => 0, fun _ => 0⟩ from filP_zero]; exact hS.out)
            go_wp2
            go_loopw [6] (fun i wr => ∃ q : Nat, q ≤ ps.length ∧ i = .int .i64 q ∧ Hid (∀ p ∈ ps.take q, PartOk 2 p) ∧ St w.heap.size w [Asn.mb 27 b5 (rdP 2 ps q 0), Asn.own w.heap.size 9 (.slice (some ⟨g, 0, none⟩) ps.length c) (strs ps), Asn.mb 27 w.heap.size zeroM] wr) (fun i _ => ps.length - (intOf i).toNat)
            case atStart => exact ⟨0, Nat.zero_le _, rfl, hid (fun p hp => by simp at hp), hS.out⟩
            case round =>
              obtain ⟨q, hq, rfl, hpk, rS⟩ := hrel
              clear hS hb0 hb1 d2 d16
              have cL : wr.cell? ⟨b5, 0, none⟩ = some (.int .i64 2) := rS.m0.cL
              replace rS := hid rS
              by_cases hlt : q < ps.length
              · have dq : decide ((q : Int) < (ps.length : Int)) = true := decide_eq_true (by omega)
                obtain ⟨p, hp⟩ : ∃ p, ps[q]? = some p := ⟨_, List.getElem?_eq_getElem hlt⟩
                have cp := rS.out.o1.cellAt q (.string p) (by simp [strs, hp])
                have hpm' := hid (List.mem_of_getElem? hp)
                have hpsz : p.size ≤ 100000 := Nat.le_trans (hpz.out p hpm'.out) hxz
                have hbp := hid (show bpt ps q = p by simp [bpt, List.getD_eq_getElem?_getD, hp])
                have q0 : (0 : Int) ≤ (q : Int) := Int.natCast_nonneg _
                have q1 : (q : Int) < (ps.length : Int) := by omega
                replace hp := hid hp
                by_cases hsz : p.size = 2 * 2
                · have dsz : ((p.size : Int) != 2 * 2) = false := by simp; omega
                  go_upto_region 10 with (fail)
                  go_quiet (fail)
                  replace rS := hid (rS.out.drewN nq)
                  generalize World.drewN wr nq = wx at *
                  clear cp cL dsz
                  go_wp2
                  go_loopw [7] (fun i wr => ∃ x : Nat, x ≤ 2 ∧ i = .int .i64 x ∧ Hid (∀ y, y < x → (48 ≤ bt p (2 * y) ∧ bt p (2 * y) ≤ 50) ∧ 97 ≤ bt p (2 * y + 1) ∧ bt p (2 * y + 1) ≤ 112) ∧ St w.heap.size w [Asn.mb 27 b5 (rdP 2 ps q x), Asn.own w.heap.size 9 (.slice (some ⟨g, 0, none⟩) ps.length c) (strs ps), Asn.mb 27 w.heap.size zeroM] wr) (fun i _ => 2 - (intOf i).toNat)
                  case atStart => exact ⟨0, Nat.zero_le _, rfl, hid (fun y hy => absurd hy (Nat.not_lt_zero y)), rS.out⟩
                  case round =>
                    obtain ⟨x, hx, rfl, hch, rS⟩ := hrel
                    have cL : wr.cell? ⟨b5, 0, none⟩ = some (.int .i64 2) := rS.m0.cL
                    have cp := rS.o1.cellAt q (.string p) (by have h := hp.out; simp [strs, h])
                    replace rS := hid rS
                    by_cases hlx : x < 2
                    · have dx : decide ((x : Int) < 2) = true := decide_eq_true (by omega)
                      have g1 : IntKind.i64.wrap (2 * (x : Int)) = ((2 * x : Nat) : Int) := by rw [IntWalk.i64_in _ (by omega)]; omega
                      have g2 : IntKind.i64.wrap (IntKind.i64.wrap (2 * (x : Int)) + 1) = ((2 * x + 1 : Nat) : Int) := by rw [g1, IntWalk.i64_in _ (by omega)]; omega
                      replace g1 := hid g1; replace g2 := hid g2
                      have k1 : 2 * x < p.size := by omega
                      have k2 : 2 * x + 1 < p.size := by omega
                      go_upto_region 15 with (fail)
                      refine wp_region_quiet_lit (by kernel_rfl) (by kernel_rfl) ?_
                      iterate 6 (quiet_step (fail))
                      refine quiet_idx rfl _ _ _ rfl Tryz.underlying9 p (2 * x) _ rfl rfl g1.out k1 ?_
                      iterate 7 (quiet_step (fail))
                      refine quiet_idx rfl _ _ _ rfl Tryz.underlying9 p (2 * x + 1) _ rfl rfl g2.out k2 ?_
                      iterate 2 (quiet_step (fail))
                      refine wpQuiet_nil ?_
                      rintro _ ⟨nr, rfl⟩
                      replace rS := hid (rS.out.drewN nr)
                      generalize World.drewN wr nr = wy at *
                      have hB1 := bt_lt p (2 * x)
                      have hB2 := bt_lt p (2 * x + 1)
                      have hch2 := hid (fun (h : (48 ≤ bt p (2 * x) ∧ bt p (2 * x) ≤ 50) ∧ 97 ≤ bt p (2 * x + 1) ∧ bt p (2 * x + 1) ≤ 112) y (hy : y < x + 1) => (show (48 ≤ bt p (2 * y) ∧ bt p (2 * y) ≤ 50) ∧ 97 ≤ bt p (2 * y + 1) ∧ bt p (2 * y + 1) ≤ 112 from by
                        by_cases e : y = x
                        · subst e; exact h
                        · exact hch.out y (by omega)))
                      have hno := hid (fun (h : ¬ ((48 ≤ bt p (2 * x) ∧ bt p (2 * x) ≤ 50) ∧ 97 ≤ bt p (2 * x + 1) ∧ bt p (2 * x + 1) ≤ 112)) => hAf.out (fun h' => h ((h'.2 p hpm'.out).2 x hlx)))
                      have hst := hid (filP_step (L := 2) (n := ps.length) (f := fun q x => bt (bpt ps q) (2 * x + 1) - 97) (g := fun q x => bt (bpt ps q) (2 * x) - 48) q x hlx (by omega))
                      simp only [hbp.out] at hst
                      clear cp cL
                      generalize bt p (2 * x) = B1 at *
                      generalize bt p (2 * x + 1) = B2 at *
                      by_cases c1 : 48 ≤ B1
                      · by_cases c2 : B1 ≤ 50
                        · by_cases c3 : 97 ≤ B2
                          · by_cases c4 : B2 ≤ 112
                            · replace hch2 := hid (hch2.out ⟨⟨c1, c2⟩, c3, c4⟩)
                              obtain ⟨y1, rfl⟩ := Nat.exists_eq_add_of_le c1
                              obtain ⟨y2, rfl⟩ := Nat.exists_eq_add_of_le c3
                              have d1 : decide ((48 + (y1 : Int)) < 48) = false := decide_eq_false (by omega)
                              have d2 : decide ((48 + (y1 : Int)) > 50) = false := decide_eq_false (by omega)
                              have d3 : decide ((97 + (y2 : Int)) < 97) = false := decide_eq_false (by omega)
                              have d4 : decide ((97 + (y2 : Int)) > 112) = false := decide_eq_false (by omega)
                              have e1 : 48 + (y1 : Int) - 48 = y1 := by omega
                              have e2 : 97 + (y2 : Int) - 97 = y2 := by omega
                              obtain ⟨vo, co⟩ : ∃ u, wy.cell? ⟨b5, 50 + q * 3 + x, none⟩ = some u := ⟨_, rS.out.m0.cot q x (by omega) (by omega)⟩
                              have fo : wy.frozen? ⟨b5, 50 + q * 3 + x, none⟩ = false := World.rowIs.frozen rS.out.m0 _
                              obtain ⟨vn, cn⟩ : ∃ u, wy.cell? ⟨b5, 2 + q * 3 + x, none⟩ = some u := ⟨_, rS.out.m0.cnx q x (by omega) (by omega)⟩
                              have fn : wy.frozen? ⟨b5, 2 + q * 3 + x, none⟩ = false := World.rowIs.frozen rS.out.m0 _
                              go_wp2
                              go_roundw
                              case rel =>
                                refine ⟨x + 1, by omega, by go_num, hid hch2.out, ?_⟩
                                have e := hst.out
                                rw [Nat.add_sub_cancel_left, Nat.add_sub_cancel_left] at e
                                rw [show rdP 2 ps q (x + 1) = { rdP 2 ps q x with nx := upd (rdP 2 ps q x).nx (q * 3 + x) y2, ot := upd (rdP 2 ps q x).ot (q * 3 + x) y1 } from e]
                                exact (rS.out.setOt hle2.out q x y1 (by omega) (by omega)).setNx hle2.out q x y2 (by omega) (by omega)
                              case measure => simp [intOf]; omega
                            · have hA := hid (hno.out (fun h => by omega))
                              have d1 : decide ((B1 : Int) < 48) = false := decide_eq_false (by omega)
                              have d2 : decide ((B1 : Int) > 50) = false := decide_eq_false (by omega)
                              have d3 : decide ((B2 : Int) < 97) = false := decide_eq_false (by omega)
                              have d4 : decide ((B2 : Int) > 112) = true := decide_eq_true (by omega)
                              go_wp2_with (first
                                | ((with_reducible refine gate (N := 94) rfl ?_); refine build_zero rfl rfl ?_)
                                | ((with_reducible refine gateOp (op := .store 27 (.tmp 2) (.tmp 94)) rfl ?_); refine store_mach rfl _ _ rfl w.heap.size rfl zeroM rfl 27 _ rS.out.m2 ?_; intro W3 p2 ho hsz hbl; have pB := hid (hbl _ _ (Nat.le_refl _) rS.out.bel); replace p2 := hid p2; clear ho hsz hbl))
                              exact ret_mach_v rfl rfl rfl p2.out rfl ⟨by rw [hA.out]; rfl, pB.out⟩
                          · have hA := hid (hno.out (fun h => by omega))
                            have d1 : decide ((B1 : Int) < 48) = false := decide_eq_false (by omega)
                            have d2 : decide ((B1 : Int) > 50) = false := decide_eq_false (by omega)
                            have d3 : decide ((B2 : Int) < 97) = true := decide_eq_true (by omega)
                            go_wp2_with (first
                              | ((with_reducible refine gate (N := 94) rfl ?_); refine build_zero rfl rfl ?_)
                              | ((with_reducible refine gateOp (op := .store 27 (.tmp 2) (.tmp 94)) rfl ?_); refine store_mach rfl _ _ rfl w.heap.size rfl zeroM rfl 27 _ rS.out.m2 ?_; intro W3 p2 ho hsz hbl; have pB := hid (hbl _ _ (Nat.le_refl _) rS.out.bel); replace p2 := hid p2; clear ho hsz hbl))
                            exact ret_mach_v rfl rfl rfl p2.out rfl ⟨by rw [hA.out]; rfl, pB.out⟩
                        · have hA := hid (hno.out (fun h => by omega))
                          have d1 : decide ((B1 : Int) < 48) = false := decide_eq_false (by omega)
                          have d2 : decide ((B1 : Int) > 50) = true := decide_eq_true (by omega)
                          go_wp2_with (first
                            | ((with_reducible refine gate (N := 94) rfl ?_); refine build_zero rfl rfl ?_)
                            | ((with_reducible refine gateOp (op := .store 27 (.tmp 2) (.tmp 94)) rfl ?_); refine store_mach rfl _ _ rfl w.heap.size rfl zeroM rfl 27 _ rS.out.m2 ?_; intro W3 p2 ho hsz hbl; have pB := hid (hbl _ _ (Nat.le_refl _) rS.out.bel); replace p2 := hid p2; clear ho hsz hbl))
                          exact ret_mach_v rfl rfl rfl p2.out rfl ⟨by rw [hA.out]; rfl, pB.out⟩
                      · have hA := hid (hno.out (fun h => by omega))
                        have d1 : decide ((B1 : Int) < 48) = true := decide_eq_true (by omega)
                        go_wp2_with (first
                          | ((with_reducible refine gate (N := 94) rfl ?_); refine build_zero rfl rfl ?_)
                          | ((with_reducible refine gateOp (op := .store 27 (.tmp 2) (.tmp 94)) rfl ?_); refine store_mach rfl _ _ rfl w.heap.size rfl zeroM rfl 27 _ rS.out.m2 ?_; intro W3 p2 ho hsz hbl; have pB := hid (hbl _ _ (Nat.le_refl _) rS.out.bel); replace p2 := hid p2; clear ho hsz hbl))
                        exact ret_mach_v rfl rfl rfl p2.out rfl ⟨by rw [hA.out]; rfl, pB.out⟩
                    · have hxl : x = 2 := by omega
                      subst hxl
                      have hpk2 := hid (show ∀ p' ∈ ps.take (q + 1), PartOk 2 p' from fun p' hp' => by
                        rw [List.take_add_one, hp.out] at hp'
                        rcases List.mem_append.1 hp' with h | h
                        · exact hpk.out p' h
                        · obtain rfl : p' = p := by simpa using h
                          exact ⟨hsz, hch.out⟩)
                      clear cp
                      go_wp2
                      go_roundw
                      case rel => exact ⟨q + 1, by omega, by go_num, hpk2, by rw [show rdP 2 ps (q + 1) 0 = rdP 2 ps q 2 from (filP_row q (by omega)).symm]; exact rS.out⟩
                      case measure => simp [intOf]; omega
                · have dsz : ((p.size : Int) != 2 * 2) = true := by simp; omega
                  have hA := hid (hAf.out (fun h => hsz (h.2 p hpm'.out).1))
                  go_upto_region 10 with (fail)
                  go_quiet (fail)
                  replace rS := hid (rS.out.drewN nq)
                  generalize World.drewN wr nq = wx at *
                  clear cp cL
                  go_wp2_with (first
                    | ((with_reducible refine gate (N := 58) rfl ?_); refine build_zero rfl rfl ?_)
                    | ((with_reducible refine gateOp (op := .store 27 (.tmp 2) (.tmp 58)) rfl ?_); refine store_mach rfl _ _ rfl w.heap.size rfl zeroM rfl 27 _ rS.out.m2 ?_; intro W3 p2 ho hsz hbl; have pB := hid (hbl _ _ (Nat.le_refl _) rS.out.bel); replace p2 := hid p2; clear ho hsz hbl))
                  exact ret_mach_v rfl rfl rfl p2.out rfl ⟨by rw [hA.out]; rfl, pB.out⟩
              · obtain rfl : q = ps.length := by omega
                have hpk3 := hpk.out
                rw [List.take_length] at hpk3
                have hA := hid (hAt.out h16 hpk3)
                have hok := hid (rdP_ok 2 ps ps.length 0)
                have hM := hid (show rdP 2 ps ps.length 0 = rdM 2 ps from rfl)
                rw [hM.out] at rS hok
                have hLS := hid (fun W => l01Is_any W (rdM 2 ps) hok.out (decide (IsM (rdM 2 ps))) decide_eq_true_iff)
                clear hM hpk hpk3 hAf hAt cL
                generalize hrm : rdM 2 ps = M at *
                generalize decide (IsM M) = bM at *
                replace hrm := hid hrm
                go_upto_region 20 with (fail)
                replace rS := hid rS.out.drew
                refine wp_region_heldL (L := [(3, (fun w' : World => MB w' 27 b5 M))]) (by kernel_rfl) (HeldL.cons (fun _ => rS.out.m0) HeldL.nil) (fun hHeld => ?_)
                generalize World.drew wr = wa at *
                refine wpAnyL_takeP (i := 0) 3 [] (v := (.agg (mcells M))) (fun w' : World => MB w' 27 b5 M) rfl (by kernel_rfl) (by kernel_rfl) (by kernel_rfl) (by rfl) (by kernel_rfl) (by simp) (fun _ _ _ h => h) (Or.inl ⟨by rfl, ?_⟩) (by assumption) ?_
                · (intro W hW; exact exec_load _ rfl rfl (load_run hW))
                intro hHeld'
                clear hHeld; have hHeld := hHeld'; clear hHeld'
                try simp only [Act.put, List.getElem_toArray, List.getElem_cons_succ, List.getElem_cons_zero, List.setIfInBounds_toArray, List.set_cons_zero, List.set_cons_succ]
                refine wpAnyL_takeP (i := 1) 3 [2] (v := (.agg (mcells M))) (fun w' : World => MB w' 27 b5 M) rfl (by kernel_rfl) (by kernel_rfl) (by kernel_rfl) (by rfl) (by kernel_rfl) (by simp) (fun _ _ _ h => h) (Or.inl ⟨by rfl, ?_⟩) (by assumption) ?_
                · (intro W hW; exact exec_load _ rfl rfl (load_run hW))
                intro hHeld'
                clear hHeld; have hHeld := hHeld'; clear hHeld'
                try simp only [Act.put, List.getElem_toArray, List.getElem_cons_succ, List.getElem_cons_zero, List.setIfInBounds_toArray, List.set_cons_zero, List.set_cons_succ]
                refine wpAnyL_ready (rs := [2]) (by kernel_rfl) (by simp) ?_
                refine AllReadyL.cons rfl (fun K hK => ?_) AllReadyL.nil
                go_simp
                (with_reducible refine (hLS.out _).mono ?_)
                rintro e w4 ⟨rfl, hb⟩
                replace rS := hid (rS.out.call hb)
                clear hb
                go_simp
                refine hK.out _ _ (HeldL.cons (fun _ => rS.out.m0) HeldL.nil) (fun hHeld' => ?_)
                clear hK K hHeld; have hHeld := hHeld'; clear hHeld'
                try simp only [Act.put, List.getElem_toArray, List.getElem_cons_succ, List.getElem_cons_zero, List.setIfInBounds_toArray, List.set_cons_zero, List.set_cons_succ]
                refine wpAnyL_ready (rs := [3]) (by kernel_rfl) (by simp) ?_
                refine AllReadyL.cons rfl (fun K hK => ?_) AllReadyL.nil
                refine step_store_mach rfl _ _ rfl _ rfl M rfl _ _ rS.out.m2 ?_
                intro W9 p2 ho hbl
                have pB := hid (hbl _ _ (Nat.le_refl _) rS.out.bel)
                replace p2 := hid p2
                clear ho hbl
                refine hK.out _ _ (HeldL.cons (fun h => absurd h (by decide +kernel)) HeldL.nil) (fun hHeld' => ?_)
                clear hK K hHeld; have hHeld := hHeld'; clear hHeld'
                try simp only [Act.put, List.getElem_toArray, List.getElem_cons_succ, List.getElem_cons_zero, List.setIfInBounds_toArray, List.set_cons_zero, List.set_cons_succ]
                refine wpAnyL_take0 (i := 4) (v := ?_) rfl (by kernel_rfl) (by kernel_rfl) (by kernel_rfl) (by rfl) (fun _ _ _ h => h) (Or.inl ⟨by rfl, ?_⟩) (by assumption) ?_
                rotate_left
                · (intro W _; go_simp; (with_reducible rfl))
                intro hHeld'
                clear hHeld; have hHeld := hHeld'; clear hHeld'
                try simp only [Act.put, List.getElem_toArray, List.getElem_cons_succ, List.getElem_cons_zero, List.setIfInBounds_toArray, List.set_cons_zero, List.set_cons_succ]
                refine wpAnyL_done (by kernel_rfl) ?_ _
                go_wp2
                exact ret_mach_v rfl rfl rfl p2.out rfl ⟨by rw [hA.out]; rfl, pB.out⟩
          · have hA := hid (hAf.out (fun h => h16 h.1))
            have d16 : decide ((ps.length : Int) > 16) = true := decide_eq_true (by omega)
            go_wp2_with (first
              | ((with_reducible refine gate (N := 42) rfl ?_); refine build_zero rfl rfl ?_)
              | ((with_reducible refine gateOp (op := .store 27 (.tmp 2) (.tmp 42)) rfl ?_); refine store_mach rfl _ _ rfl w.heap.size rfl zeroM rfl 27 _ hS.out.m2 ?_; intro W3 p2 ho hsz hbl; have pB := hid (hbl _ _ (Nat.le_refl _) hS.out.bel); replace p2 := hid p2; clear ho hsz hbl))
            exact ret_mach_v rfl rfl rfl p2.out rfl ⟨by rw [hA.out]; rfl, pB.out⟩
        · have hq : bt t 0 - 48 = 3 := by omega
          have h50' : bt t 0 = 50 ∨ bt t 0 = 51 := .inr h50
          rw [h50] at hb0
          have hb0 : (t[0]'(by omega)).toNat = 51 := hb0
          have hH : HeadOk t := ⟨h2, h58, h50'⟩
          have hAf := hid (fun (h : ¬ ((rdS t).length ≤ 16 ∧ ∀ p ∈ rdS t, PartOk 3 p)) => (show rdAns t = (zeroM, false) from by unfold rdAns; rw [if_neg (fun h' => h (by have h3 := h'.2; rw [hq] at h3; exact h3))]))
          have hAt := hid (fun (h16 : (rdS t).length ≤ 16) (hp : ∀ p ∈ rdS t, PartOk 3 p) => (show rdAns t = (rdM 3 (rdS t), decide (IsM (rdM 3 (rdS t)))) from by unfold rdAns; rw [hq, if_pos ⟨hH, h16, hp⟩]))
          have hsp := hid (fun W => l01Split_any W (t.extract 2 t.size) (by rw [ByteArray.size_extract]; omega) 44)
          simp only [show ((44 : Nat) : Int) = 44 from rfl] at hsp
          have hsp' := hid (show splL (t.extract 2 t.size) 44 = rdS t from rfl)
          rw [hsp'.out] at hsp
          have hpl := hid (splL_len (t.extract 2 t.size) 44)
          have hpz := hid (splL_sz (t.extract 2 t.size) 44)
          rw [hsp'.out] at hpl hpz
          have hxz : (t.extract 2 t.size).size ≤ 100000 := by rw [ByteArray.size_extract]; omega
          have d2 : decide ((t.size : Int) < 2) = false := decide_eq_false (by omega)
          have hz2 := hid (fun L W (h : St w.heap.size w L W) => h.newMB zeroM 27)
          have hil := hid (strs_length (rdS t))
          have hpn : 1 ≤ (rdS t).length := hpl.out.2
          have hpm : (rdS t).length ≤ 100001 := by have := hpl.out.1; omega
          rw [h58] at hb1
          clear hsp' h58 hH hq h50'
          generalize rdAns t = ans at *
          generalize rdS t = ps at *
          go_enter Tryz.func237, Tryz.ntmps237
          go_upto_region 5 with (first
            | (go_at_call 262; (with_reducible refine (hsp.out _).mono ?_); rintro e w1 ⟨v, rfl, hO, hb⟩; (obtain ⟨g, c, rfl, _, _⟩ := hO.blk (fun e => by have h1 := congrArg List.length e; rw [hil.out, List.length_nil] at h1; omega)); rw [hil.out] at hO ⊢; have hle2 := hid ((hS.out.call hb).le); replace hS := hid (hz2.out _ _ (hS.out.callOwn hb hO)); clear hb hO hsp)
            | ((with_reducible refine gate (N := 38) rfl ?_); refine build_mach rfl _ _ rfl 3 (ps.length : Int) rfl rfl ?_)
            | ((with_reducible refine gateOp (op := .store 27 (.tmp 5) (.tmp 38)) rfl ?_); refine store_mach rfl _ _ rfl w1.heap.size rfl ⟨3, (ps.length : Int), fun _ => 0, fun _ => 0⟩ rfl 27 _ hS.out.m0 ?_; intro w2 p3 ho hsz hbl; replace hS := hid (hS.out.setM hle2.out p3 ho hbl); clear p3 ho hsz hbl))
          generalize w1.heap.size = b5 at *
          by_cases h16 : ps.length ≤ 16
          · have d16 : decide ((ps.length : Int) > 16) = false := decide_eq_false (by omega)
            replace hS := hid (show St w.heap.size w [Asn.mb 27 b5 (rdP 3 ps 0 0), Asn.own w.heap.size 9 (.slice (some ⟨g, 0, none⟩) ps.length c) (strs ps), Asn.mb 27 w.heap.size zeroM] w2 from by
              rw [show rdP 3 ps 0 0 = ⟨3, (ps.length : Int), fun _ => 0, fun _ => 0⟩ from filP_zero]; exact hS.out)
            go_wp2
            go_loopw [6] (fun i wr => ∃ q : Nat, q ≤ ps.length ∧ i = .int .i64 q ∧ Hid (∀ p ∈ ps.take q, PartOk 3 p) ∧ St w.heap.size w [Asn.mb 27 b5 (rdP 3 ps q 0), Asn.own w.heap.size 9 (.slice (some ⟨g, 0, none⟩) ps.length c) (strs ps), Asn.mb 27 w.heap.size zeroM] wr) (fun i _ => ps.length - (intOf i).toNat)
            case atStart => exact ⟨0, Nat.zero_le _, rfl, hid (fun p hp => by simp at hp), hS.out⟩
            case round =>
              obtain ⟨q, hq, rfl, hpk, rS⟩ := hrel
              clear hS hb0 hb1 d2 d16
              have cL : wr.cell? ⟨b5, 0, none⟩ = some (.int .i64 3) := rS.m0.cL
              replace rS := hid rS
              by_cases hlt : q < ps.length
              · have dq : decide ((q : Int) < (ps.length : Int)) = true := decide_eq_true (by omega)
                obtain ⟨p, hp⟩ : ∃ p, ps[q]? = some p := ⟨_, List.getElem?_eq_getElem hlt⟩
                have cp := rS.out.o1.cellAt q (.string p) (by simp [strs, hp])
                have hpm' := hid (List.mem_of_getElem? hp)
                have hpsz : p.size ≤ 100000 := Nat.le_trans (hpz.out p hpm'.out) hxz
                have hbp := hid (show bpt ps q = p by simp [bpt, List.getD_eq_getElem?_getD, hp])
                have q0 : (0 : Int) ≤ (q : Int) := Int.natCast_nonneg _
                have q1 : (q : Int) < (ps.length : Int) := by omega
                replace hp := hid hp
                by_cases hsz : p.size = 2 * 3
                · have dsz : ((p.size : Int) != 2 * 3) = false := by simp; omega
                  go_upto_region 10 with (fail)
                  go_quiet (fail)
                  replace rS := hid (rS.out.drewN nq)
                  generalize World.drewN wr nq = wx at *
                  clear cp cL dsz
                  go_wp2
                  go_loopw [7] (fun i wr => ∃ x : Nat, x ≤ 3 ∧ i = .int .i64 x ∧ Hid (∀ y, y < x → (48 ≤ bt p (2 * y) ∧ bt p (2 * y) ≤ 50) ∧ 97 ≤ bt p (2 * y + 1) ∧ bt p (2 * y + 1) ≤ 112) ∧ St w.heap.size w [Asn.mb 27 b5 (rdP 3 ps q x), Asn.own w.heap.size 9 (.slice (some ⟨g, 0, none⟩) ps.length c) (strs ps), Asn.mb 27 w.heap.size zeroM] wr) (fun i _ => 3 - (intOf i).toNat)
                  case atStart => exact ⟨0, Nat.zero_le _, rfl, hid (fun y hy => absurd hy (Nat.not_lt_zero y)), rS.out⟩
                  case round =>
                    obtain ⟨x, hx, rfl, hch, rS⟩ := hrel
                    have cL : wr.cell? ⟨b5, 0, none⟩ = some (.int .i64 3) := rS.m0.cL
                    have cp := rS.o1.cellAt q (.string p) (by have h := hp.out; simp [strs, h])
                    replace rS := hid rS
                    by_cases hlx : x < 3
                    · have dx : decide ((x : Int) < 3) = true := decide_eq_true (by omega)
                      have g1 : IntKind.i64.wrap (2 * (x : Int)) = ((2 * x : Nat) : Int) := by rw [IntWalk.i64_in _ (by omega)]; omega
                      have g2 : IntKind.i64.wrap (IntKind.i64.wrap (2 * (x : Int)) + 1) = ((2 * x + 1 : Nat) : Int) := by rw [g1, IntWalk.i64_in _ (by omega)]; omega
                      replace g1 := hid g1; replace g2 := hid g2
                      have k1 : 2 * x < p.size := by omega
                      have k2 : 2 * x + 1 < p.size := by omega
                      go_upto_region 15 with (fail)
                      refine wp_region_quiet_lit (by kernel_rfl) (by kernel_rfl) ?_
                      iterate 6 (quiet_step (fail))
                      refine quiet_idx rfl _ _ _ rfl Tryz.underlying9 p (2 * x) _ rfl rfl g1.out k1 ?_
                      iterate 7 (quiet_step (fail))
                      refine quiet_idx rfl _ _ _ rfl Tryz.underlying9 p (2 * x + 1) _ rfl rfl g2.out k2 ?_
                      iterate 2 (quiet_step (fail))
                      refine wpQuiet_nil ?_
                      rintro _ ⟨nr, rfl⟩
                      replace rS := hid (rS.out.drewN nr)
                      generalize World.drewN wr nr = wy at *
                      have hB1 := bt_lt p (2 * x)
                      have hB2 := bt_lt p (2 * x + 1)
                      have hch2 := hid (fun (h : (48 ≤ bt p (2 * x) ∧ bt p (2 * x) ≤ 50) ∧ 97 ≤ bt p (2 * x + 1) ∧ bt p (2 * x + 1) ≤ 112) y (hy : y < x + 1) => (show (48 ≤ bt p (2 * y) ∧ bt p (2 * y) ≤ 50) ∧ 97 ≤ bt p (2 * y + 1) ∧ bt p (2 * y + 1) ≤ 112 from by
                        by_cases e : y = x
                        · subst e; exact h
                        · exact hch.out y (by omega)))
                      have hno := hid (fun (h : ¬ ((48 ≤ bt p (2 * x) ∧ bt p (2 * x) ≤ 50) ∧ 97 ≤ bt p (2 * x + 1) ∧ bt p (2 * x + 1) ≤ 112)) => hAf.out (fun h' => h ((h'.2 p hpm'.out).2 x hlx)))
                      have hst := hid (filP_step (L := 3) (n := ps.length) (f := fun q x => bt (bpt ps q) (2 * x + 1) - 97) (g := fun q x => bt (bpt ps q) (2 * x) - 48) q x hlx (by omega))
                      simp only [hbp.out] at hst
                      clear cp cL
                      generalize bt p (2 * x) = B1 at *
                      generalize bt p (2 * x + 1) = B2 at *
                      by_cases c1 : 48 ≤ B1
                      · by_cases c2 : B1 ≤ 50
                        · by_cases c3 : 97 ≤ B2
                          · by_cases c4 : B2 ≤ 112
                            · replace hch2 := hid (hch2.out ⟨⟨c1, c2⟩, c3, c4⟩)
                              obtain ⟨y1, rfl⟩ := Nat.exists_eq_add_of_le c1
                              obtain ⟨y2, rfl⟩ := Nat.exists_eq_add_of_le c3
                              have d1 : decide ((48 + (y1 : Int)) < 48) = false := decide_eq_false (by omega)
                              have d2 : decide ((48 + (y1 : Int)) > 50) = false := decide_eq_false (by omega)
                              have d3 : decide ((97 + (y2 : Int)) < 97) = false := decide_eq_false (by omega)
                              have d4 : decide ((97 + (y2 : Int)) > 112) = false := decide_eq_false (by omega)
                              have e1 : 48 + (y1 : Int) - 48 = y1 := by omega
                              have e2 : 97 + (y2 : Int) - 97 = y2 := by omega
                              obtain ⟨vo, co⟩ : ∃ u, wy.cell? ⟨b5, 50 + q * 3 + x, none⟩ = some u := ⟨_, rS.out.m0.cot q x (by omega) (by omega)⟩
                              have fo : wy.frozen? ⟨b5, 50 + q * 3 + x, none⟩ = false := World.rowIs.frozen rS.out.m0 _
                              obtain ⟨vn, cn⟩ : ∃ u, wy.cell? ⟨b5, 2 + q * 3 + x, none⟩ = some u := ⟨_, rS.out.m0.cnx q x (by omega) (by omega)⟩
                              have fn : wy.frozen? ⟨b5, 2 + q * 3 + x, none⟩ = false := World.rowIs.frozen rS.out.m0 _
                              go_wp2
                              go_roundw
                              case rel =>
                                refine ⟨x + 1, by omega, by go_num, hid hch2.out, ?_⟩
                                have e := hst.out
                                rw [Nat.add_sub_cancel_left, Nat.add_sub_cancel_left] at e
                                rw [show rdP 3 ps q (x + 1) = { rdP 3 ps q x with nx := upd (rdP 3 ps q x).nx (q * 3 + x) y2, ot := upd (rdP 3 ps q x).ot (q * 3 + x) y1 } from e]
                                exact (rS.out.setOt hle2.out q x y1 (by omega) (by omega)).setNx hle2.out q x y2 (by omega) (by omega)
                              case measure => simp [intOf]; omega
                            · have hA := hid (hno.out (fun h => by omega))
                              have d1 : decide ((B1 : Int) < 48) = false := decide_eq_false (by omega)
                              have d2 : decide ((B1 : Int) > 50) = false := decide_eq_false (by omega)
                              have d3 : decide ((B2 : Int) < 97) = false := decide_eq_false (by omega)
                              have d4 : decide ((B2 : Int) > 112) = true := decide_eq_true (by omega)
                              go_wp2_with (first
                                | ((with_reducible refine gate (N := 94) rfl ?_); refine build_zero rfl rfl ?_)
                                | ((with_reducible refine gateOp (op := .store 27 (.tmp 2) (.tmp 94)) rfl ?_); refine store_mach rfl _ _ rfl w.heap.size rfl zeroM rfl 27 _ rS.out.m2 ?_; intro W3 p2 ho hsz hbl; have pB := hid (hbl _ _ (Nat.le_refl _) rS.out.bel); replace p2 := hid p2; clear ho hsz hbl))
                              exact ret_mach_v rfl rfl rfl p2.out rfl ⟨by rw [hA.out]; rfl, pB.out⟩
                          · have hA := hid (hno.out (fun h => by omega))
                            have d1 : decide ((B1 : Int) < 48) = false := decide_eq_false (by omega)
                            have d2 : decide ((B1 : Int) > 50) = false := decide_eq_false (by omega)
                            have d3 : decide ((B2 : Int) < 97) = true := decide_eq_true (by omega)
                            go_wp2_with (first
                              | ((with_reducible refine gate (N := 94) rfl ?_); refine build_zero rfl rfl ?_)
                              | ((with_reducible refine gateOp (op := .store 27 (.tmp 2) (.tmp 94)) rfl ?_); refine store_mach rfl _ _ rfl w.heap.size rfl zeroM rfl 27 _ rS.out.m2 ?_; intro W3 p2 ho hsz hbl; have pB := hid (hbl _ _ (Nat.le_refl _) rS.out.bel); replace p2 := hid p2; clear ho hsz hbl))
                            exact ret_mach_v rfl rfl rfl p2.out rfl ⟨by rw [hA.out]; rfl, pB.out⟩
                        · have hA := hid (hno.out (fun h => by omega))
                          have d1 : decide ((B1 : Int) < 48) = false := decide_eq_false (by omega)
                          have d2 : decide ((B1 : Int) > 50) = true := decide_eq_true (by omega)
                          go_wp2_with (first
                            | ((with_reducible refine gate (N := 94) rfl ?_); refine build_zero rfl rfl ?_)
                            | ((with_reducible refine gateOp (op := .store 27 (.tmp 2) (.tmp 94)) rfl ?_); refine store_mach rfl _ _ rfl w.heap.size rfl zeroM rfl 27 _ rS.out.m2 ?_; intro W3 p2 ho hsz hbl; have pB := hid (hbl _ _ (Nat.le_refl _) rS.out.bel); replace p2 := hid p2; clear ho hsz hbl))
                          exact ret_mach_v rfl rfl rfl p2.out rfl ⟨by rw [hA.out]; rfl, pB.out⟩
                      · have hA := hid (hno.out (fun h => by omega))
                        have d1 : decide ((B1 : Int) < 48) = true := decide_eq_true (by omega)
                        go_wp2_with (first
                          | ((with_reducible refine gate (N := 94) rfl ?_); refine build_zero rfl rfl ?_)
                          | ((with_reducible refine gateOp (op := .store 27 (.tmp 2) (.tmp 94)) rfl ?_); refine store_mach rfl _ _ rfl w.heap.size rfl zeroM rfl 27 _ rS.out.m2 ?_; intro W3 p2 ho hsz hbl; have pB := hid (hbl _ _ (Nat.le_refl _) rS.out.bel); replace p2 := hid p2; clear ho hsz hbl))
                        exact ret_mach_v rfl rfl rfl p2.out rfl ⟨by rw [hA.out]; rfl, pB.out⟩
                    · have hxl : x = 3 := by omega
                      subst hxl
                      have hpk2 := hid (show ∀ p' ∈ ps.take (q + 1), PartOk 3 p' from fun p' hp' => by
                        rw [List.take_add_one, hp.out] at hp'
                        rcases List.mem_append.1 hp' with h | h
                        · exact hpk.out p' h
                        · obtain rfl : p' = p := by simpa using h
                          exact ⟨hsz, hch.out⟩)
                      clear cp
                      go_wp2
                      go_roundw
                      case rel => exact ⟨q + 1, by omega, by go_num, hpk2, by rw [show rdP 3 ps (q + 1) 0 = rdP 3 ps q 3 from (filP_row q (by omega)).symm]; exact rS.out⟩
                      case measure => simp [intOf]; omega
                · have dsz : ((p.size : Int) != 2 * 3) = true := by simp; omega
                  have hA := hid (hAf.out (fun h => hsz (h.2 p hpm'.out).1))
                  go_upto_region 10 with (fail)
                  go_quiet (fail)
                  replace rS := hid (rS.out.drewN nq)
                  generalize World.drewN wr nq = wx at *
                  clear cp cL
                  go_wp2_with (first
                    | ((with_reducible refine gate (N := 58) rfl ?_); refine build_zero rfl rfl ?_)
                    | ((with_reducible refine gateOp (op := .store 27 (.tmp 2) (.tmp 58)) rfl ?_); refine store_mach rfl _ _ rfl w.heap.size rfl zeroM rfl 27 _ rS.out.m2 ?_; intro W3 p2 ho hsz hbl; have pB := hid (hbl _ _ (Nat.le_refl _) rS.out.bel); replace p2 := hid p2; clear ho hsz hbl))
                  exact ret_mach_v rfl rfl rfl p2.out rfl ⟨by rw [hA.out]; rfl, pB.out⟩
              · obtain rfl : q = ps.length := by omega
                have hpk3 := hpk.out
                rw [List.take_length] at hpk3
                have hA := hid (hAt.out h16 hpk3)
                have hok := hid (rdP_ok 3 ps ps.length 0)
                have hM := hid (show rdP 3 ps ps.length 0 = rdM 3 ps from rfl)
                rw [hM.out] at rS hok
                have hLS := hid (fun W => l01Is_any W (rdM 3 ps) hok.out (decide (IsM (rdM 3 ps))) decide_eq_true_iff)
                clear hM hpk hpk3 hAf hAt cL
                generalize hrm : rdM 3 ps = M at *
                generalize decide (IsM M) = bM at *
                replace hrm := hid hrm
                go_upto_region 20 with (fail)
                replace rS := hid rS.out.drew
                refine wp_region_heldL (L := [(3, (fun w' : World => MB w' 27 b5 M))]) (by kernel_rfl) (HeldL.cons (fun _ => rS.out.m0) HeldL.nil) (fun hHeld => ?_)
                generalize World.drew wr = wa at *
                refine wpAnyL_takeP (i := 0) 3 [] (v := (.agg (mcells M))) (fun w' : World => MB w' 27 b5 M) rfl (by kernel_rfl) (by kernel_rfl) (by kernel_rfl) (by rfl) (by kernel_rfl) (by simp) (fun _ _ _ h => h) (Or.inl ⟨by rfl, ?_⟩) (by assumption) ?_
                · (intro W hW; exact exec_load _ rfl rfl (load_run hW))
                intro hHeld'
                clear hHeld; have hHeld := hHeld'; clear hHeld'
                try simp only [Act.put, List.getElem_toArray, List.getElem_cons_succ, List.getElem_cons_zero, List.setIfInBounds_toArray, List.set_cons_zero, List.set_cons_succ]
                refine wpAnyL_takeP (i := 1) 3 [2] (v := (.agg (mcells M))) (fun w' : World => MB w' 27 b5 M) rfl (by kernel_rfl) (by kernel_rfl) (by kernel_rfl) (by rfl) (by kernel_rfl) (by simp) (fun _ _ _ h => h) (Or.inl ⟨by rfl, ?_⟩) (by assumption) ?_
                · (intro W hW; exact exec_load _ rfl rfl (load_run hW))
                intro hHeld'
                clear hHeld; have hHeld := hHeld'; clear hHeld'
                try simp only [Act.put, List.getElem_toArray, List.getElem_cons_succ, List.getElem_cons_zero, List.setIfInBounds_toArray, List.set_cons_zero, List.set_cons_succ]
                refine wpAnyL_ready (rs := [2]) (by kernel_rfl) (by simp) ?_
                refine AllReadyL.cons rfl (fun K hK => ?_) AllReadyL.nil
                go_simp
                (with_reducible refine (hLS.out _).mono ?_)
                rintro e w4 ⟨rfl, hb⟩
                replace rS := hid (rS.out.call hb)
                clear hb
                go_simp
                refine hK.out _ _ (HeldL.cons (fun _ => rS.out.m0) HeldL.nil) (fun hHeld' => ?_)
                clear hK K hHeld; have hHeld := hHeld'; clear hHeld'
                try simp only [Act.put, List.getElem_toArray, List.getElem_cons_succ, List.getElem_cons_zero, List.setIfInBounds_toArray, List.set_cons_zero, List.set_cons_succ]
                refine wpAnyL_ready (rs := [3]) (by kernel_rfl) (by simp) ?_
                refine AllReadyL.cons rfl (fun K hK => ?_) AllReadyL.nil
                refine step_store_mach rfl _ _ rfl _ rfl M rfl _ _ rS.out.m2 ?_
                intro W9 p2 ho hbl
                have pB := hid (hbl _ _ (Nat.le_refl _) rS.out.bel)
                replace p2 := hid p2
                clear ho hbl
                refine hK.out _ _ (HeldL.cons (fun h => absurd h (by decide +kernel)) HeldL.nil) (fun hHeld' => ?_)
                clear hK K hHeld; have hHeld := hHeld'; clear hHeld'
                try simp only [Act.put, List.getElem_toArray, List.getElem_cons_succ, List.getElem_cons_zero, List.setIfInBounds_toArray, List.set_cons_zero, List.set_cons_succ]
                refine wpAnyL_take0 (i := 4) (v := ?_) rfl (by kernel_rfl) (by kernel_rfl) (by kernel_rfl) (by rfl) (fun _ _ _ h => h) (Or.inl ⟨by rfl, ?_⟩) (by assumption) ?_
                rotate_left
                · (intro W _; go_simp; (with_reducible rfl))
                intro hHeld'
                clear hHeld; have hHeld := hHeld'; clear hHeld'
                try simp only [Act.put, List.getElem_toArray, List.getElem_cons_succ, List.getElem_cons_zero, List.setIfInBounds_toArray, List.set_cons_zero, List.set_cons_succ]
                refine wpAnyL_done (by kernel_rfl) ?_ _
                go_wp2
                exact ret_mach_v rfl rfl rfl p2.out rfl ⟨by rw [hA.out]; rfl, pB.out⟩
          · have hA := hid (hAf.out (fun h => h16 h.1))
            have d16 : decide ((ps.length : Int) > 16) = true := decide_eq_true (by omega)
            go_wp2_with (first
              | ((with_reducible refine gate (N := 42) rfl ?_); refine build_zero rfl rfl ?_)
              | ((with_reducible refine gateOp (op := .store 27 (.tmp 2) (.tmp 42)) rfl ?_); refine store_mach rfl _ _ rfl w.heap.size rfl zeroM rfl 27 _ hS.out.m2 ?_; intro W3 p2 ho hsz hbl; have pB := hid (hbl _ _ (Nat.le_refl _) hS.out.bel); replace p2 := hid p2; clear ho hsz hbl))
            exact ret_mach_v rfl rfl rfl p2.out rfl ⟨by rw [hA.out]; rfl, pB.out⟩
      · have hA := hid (show rdAns t = (zeroM, false) by unfold rdAns; rw [if_neg (fun h => h50 h.1.2.2)])
        rw [hA.out]
        have hn0 : ¬ bt t 0 = 50 := fun h => h50 (.inl h)
        have hn1 : ¬ bt t 0 = 51 := fun h => h50 (.inr h)
        have d2 : decide ((t.size : Int) < 2) = false := decide_eq_false (by omega)
        rw [h58] at hb1
        generalize bt t 0 = b0 at *
        have e0 : ((b0 : Int) != 50) = true := by simp; omega
        have e1 : ((b0 : Int) != 51) = true := by simp; omega
        clear h58 hn0 hn1 h50
        go_enter Tryz.func237, Tryz.ntmps237
        go_wp2_with (first
          | ((with_reducible refine gate (N := 28) rfl ?_); refine build_zero rfl rfl ?_)
          | ((with_reducible refine gateOp (op := .store 27 (.tmp 2) (.tmp 28)) rfl ?_); refine store_mach rfl _ _ rfl w.heap.size rfl zeroM rfl 27 _ hS.out.m0 ?_; intro W3 p2 ho hsz hbl; have pB := hid (hbl _ _ (Nat.le_refl _) hS.out.bel); replace p2 := hid p2; clear ho hsz hbl))
        exact ret_mach_v rfl rfl rfl p2.out rfl ⟨rfl, pB.out⟩
    · have hA := hid (show rdAns t = (zeroM, false) by unfold rdAns; rw [if_neg (fun h => h58 h.1.2.1)])
      rw [hA.out]
      have d2 : decide ((t.size : Int) < 2) = false := decide_eq_false (by omega)
      clear hb0
      generalize bt t 1 = b1 at *
      have e0 : ((b1 : Int) != 58) = true := by simp; omega
      clear h58
      go_enter Tryz.func237, Tryz.ntmps237
      go_wp2_with (first
        | ((with_reducible refine gate (N := 28) rfl ?_); refine build_zero rfl rfl ?_)
        | ((with_reducible refine gateOp (op := .store 27 (.tmp 2) (.tmp 28)) rfl ?_); refine store_mach rfl _ _ rfl w.heap.size rfl zeroM rfl 27 _ hS.out.m0 ?_; intro W3 p2 ho hsz hbl; have pB := hid (hbl _ _ (Nat.le_refl _) hS.out.bel); replace p2 := hid p2; clear ho hsz hbl))
      exact ret_mach_v rfl rfl rfl p2.out rfl ⟨rfl, pB.out⟩
  · have hA := hid (show rdAns t = (zeroM, false) by unfold rdAns; rw [if_neg (fun h => h2 h.1.1)])
    rw [hA.out]
    have d2 : decide ((t.size : Int) < 2) = true := decide_eq_true (by omega)
    go_enter Tryz.func237, Tryz.ntmps237
    go_wp2_with (first
      | ((with_reducible refine gate (N := 28) rfl ?_); refine build_zero rfl rfl ?_)
      | ((with_reducible refine gateOp (op := .store 27 (.tmp 2) (.tmp 28)) rfl ?_); refine store_mach rfl _ _ rfl w.heap.size rfl zeroM rfl 27 _ hS.out.m0 ?_; intro W3 p2 ho hsz hbl; have pB := hid (hbl _ _ (Nat.le_refl _) hS.out.bel); replace p2 := hid p2; clear ho hsz hbl))
    exact ret_mach_v rfl rfl rfl p2.out rfl ⟨rfl, pB.out⟩
end Go.Proofs.YthmcdfjijkecfaaGreat
