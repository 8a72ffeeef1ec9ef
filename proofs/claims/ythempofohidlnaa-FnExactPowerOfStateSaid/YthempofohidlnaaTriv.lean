/- The trivial machine, and powers: the program's and the reference's. -/
import Derived.Test.YthempofohidlnaaProd
import Derived.Test.YthempofohidlnaaLawDual
namespace Go.Proofs.Ythempofohidlnaa
open Go.RowKit
set_option linter.unusedVariables false
set_option linter.unusedSimpArgs false

/-- The trivial machine, as far as it is written. -/
def trivP (l x : Nat) : Mach := ⟨l, 1, fun _ => 0, fun p => if p < x then p else 0⟩
theorem trivP_zero (l : Nat) : trivP l 0 = ⟨l, 1, fun _ => 0, fun _ => 0⟩ := by
  unfold trivP
  congr 1
theorem trivP_step (l x : Nat) : trivP l (x + 1) = { trivP l x with ot := upd (trivP l x).ot x x } := by
  unfold trivP upd
  congr 1
  funext p
  dsimp only
  by_cases h : p = x
  · subst h; simp
  · rw [if_neg h]
    by_cases hp : p < x
    · rw [if_pos hp, if_pos (by omega)]
    · rw [if_neg hp, if_neg (by omega)]
def trivM (l : Nat) : Mach := trivP l l
theorem trivM_ok (l : Nat) (hl : l ≤ 3) : (trivM l).Ok := fun i => ⟨by show 0 < 256; omega, by show (if i < l then i else 0) < 256; split <;> omega⟩
theorem trivM_good (l : Nat) (l2 : 2 ≤ l) (l3 : l ≤ 3) : Good (trivM l) l 1 := by
  refine ⟨rfl, rfl, l2, l3, by omega, by omega, ?_, ?_, ?_, ?_⟩
  · intro q x _ _; show 0 < 1; omega
  · intro q x hq hx
    show (if q * 3 + x < l then q * 3 + x else 0) < l
    rw [if_pos (by omega)]; omega
  · intro q hq y x hy hx
    show (if q * 3 + y < l then q * 3 + y else 0) ≠ (if q * 3 + x < l then q * 3 + x else 0)
    rw [if_pos (by omega), if_pos (by omega)]; omega
  · intro q x hq hx hn
    refine ⟨rfl, ?_⟩
    show (if q * 3 + x < l then q * 3 + x else 0) = 0
    by_cases h : q * 3 + x < l
    · exfalso; apply hn; omega
    · rw [if_neg h]

set_option maxHeartbeats 4000000 in
set_option maxRecDepth 100000 in
theorem trivialMachine_any (w : World) (l : Nat) (l3 : l ≤ 3) :
    Calls Try.prog 70 #[.int .i64 l] w fun e w' => e = .returned (.agg (mcells (trivM l))) ∧ Below w.heap.size w w' := by
  have hz := zero_mach
  have hS := hid (((St.start w).newMB ⟨0, 0, fun _ => 0, fun _ => 0⟩ 34).newMB ⟨0, 0, fun _ => 0, fun _ => 0⟩ 34)
  rw [heap_alloc_size] at hS
  have hz0 := hid (trivP_zero l)
  generalize mcells ⟨0, 0, fun _ => 0, fun _ => 0⟩ = zs at *
  go_enter Try.func70, Try.ntmps70
  go_wp2_with (first
    | ((with_reducible refine gate (N := 6) rfl ?_); refine build_mach rfl _ _ rfl (l : Int) 1 rfl rfl ?_)
    | ((with_reducible refine gateOp (op := .store 34 (.tmp 3) (.tmp 6)) rfl ?_); refine store_mach rfl _ _ rfl (w.heap.size + 1) rfl ⟨(l : Int), 1, fun _ => 0, fun _ => 0⟩ rfl 34 _ hS.out.m0 ?_; intro W1 p3 ho hsz hbl; replace hS := hid (hS.out.setM (Nat.le_succ _) p3 ho hbl); clear p3 ho hsz hbl))
  rw [← hz0.out] at hS
  go_loopw [8] (fun i wr => ∃ x : Nat, x ≤ l ∧ i = .int .i64 x ∧ St w.heap.size w [Asn.mb 34 (w.heap.size + 1) (trivP l x), Asn.mb 34 w.heap.size ⟨0, 0, fun _ => 0, fun _ => 0⟩] wr) (fun i _ => l - (intOf i).toNat)
  case atStart => exact ⟨0, Nat.zero_le _, rfl, hS.out⟩
  case round =>
    obtain ⟨x, hx, rfl, rS⟩ := hrel
    clear hS
    replace rS := hid rS
    by_cases hxl : x < l
    · have dx : decide ((x : Int) < (l : Int)) = true := decide_eq_true (by omega)
      have x3 : (x : Int) < 3 := by omega
      have x0 : (0 : Int) ≤ (x : Int) := Int.natCast_nonneg _
      have hst := hid (trivP_step l x)
      obtain ⟨u, co⟩ : ∃ u, wr.cell? ⟨w.heap.size + 1, 50 + x, none⟩ = some u := ⟨_, by have h := rS.out.m0.cot 0 x (by omega) (by omega); simpa using h⟩
      have fo : wr.frozen? ⟨w.heap.size + 1, 50 + x, none⟩ = false := World.rowIs.frozen rS.out.m0 _
      have zS := rS.out.setOt (Nat.le_succ _) 0 x x (by omega) (by omega)
      simp only [Nat.zero_mul, Nat.add_zero, Nat.zero_add] at zS
      replace zS := hid zS
      rw [← hst.out] at zS
      have xm : (x : Int) % 256 = x := by omega
      go_wp2
      go_roundw
      case rel => exact ⟨x + 1, by omega, by go_num, zS.out⟩
      case measure => simp [intOf]; omega
    · obtain rfl : l = x := by omega
      have dx : decide ((l : Int) < (l : Int)) = false := decide_eq_false (by omega)
      go_wp2_with (first
        | ((with_reducible refine gate (N := 18) rfl ?_); refine load_mach rfl _ rfl (w.heap.size + 1) rfl (trivP l l) rS.out.m0 ?_)
        | ((with_reducible refine gateOp (op := .store 34 (.tmp 2) (.tmp 18)) rfl ?_); refine store_mach rfl _ _ rfl w.heap.size rfl (trivP l l) rfl 34 _ rS.out.m1 ?_; intro W3 p2 ho hsz hbl; have pB := hid (hbl _ _ (Nat.le_refl _) rS.out.bel); replace p2 := hid p2; clear ho hsz hbl))
      exact ret_mach rfl rfl p2.out rfl ⟨rfl, pB.out⟩

set_option maxHeartbeats 4000000 in
set_option maxRecDepth 100000 in
theorem l07Trivial_any (w : World) (l : Nat) (l3 : l ≤ 3) :
    Calls Try.prog 68 #[.int .i64 l] w fun e w' => e = .returned (.agg (mcells (trivM l))) ∧ Below w.heap.size w w' := by
  have hz := zero_mach
  have hS := hid (((St.start w).newMB ⟨0, 0, fun _ => 0, fun _ => 0⟩ 34).newMB ⟨0, 0, fun _ => 0, fun _ => 0⟩ 34)
  rw [heap_alloc_size] at hS
  have hz0 := hid (trivP_zero l)
  generalize mcells ⟨0, 0, fun _ => 0, fun _ => 0⟩ = zs at *
  go_enter Try.func68, Try.ntmps68
  go_wp2_with (first
    | ((with_reducible refine gate (N := 6) rfl ?_); refine build_mach rfl _ _ rfl (l : Int) 1 rfl rfl ?_)
    | ((with_reducible refine gateOp (op := .store 34 (.tmp 3) (.tmp 6)) rfl ?_); refine store_mach rfl _ _ rfl (w.heap.size + 1) rfl ⟨(l : Int), 1, fun _ => 0, fun _ => 0⟩ rfl 34 _ hS.out.m0 ?_; intro W1 p3 ho hsz hbl; replace hS := hid (hS.out.setM (Nat.le_succ _) p3 ho hbl); clear p3 ho hsz hbl))
  rw [← hz0.out] at hS
  go_loopw [4] (fun i wr => ∃ x : Nat, x ≤ l ∧ i = .int .i64 x ∧ St w.heap.size w [Asn.mb 34 (w.heap.size + 1) (trivP l x), Asn.mb 34 w.heap.size ⟨0, 0, fun _ => 0, fun _ => 0⟩] wr) (fun i _ => l - (intOf i).toNat)
  case atStart => exact ⟨0, Nat.zero_le _, rfl, hS.out⟩
  case round =>
    obtain ⟨x, hx, rfl, rS⟩ := hrel
    clear hS
    replace rS := hid rS
    by_cases hxl : x < l
    · have dx : decide ((x : Int) < (l : Int)) = true := decide_eq_true (by omega)
      have x3 : (x : Int) < 3 := by omega
      have x0 : (0 : Int) ≤ (x : Int) := Int.natCast_nonneg _
      have hst := hid (trivP_step l x)
      obtain ⟨u, co⟩ : ∃ u, wr.cell? ⟨w.heap.size + 1, 50 + x, none⟩ = some u := ⟨_, by have h := rS.out.m0.cot 0 x (by omega) (by omega); simpa using h⟩
      have fo : wr.frozen? ⟨w.heap.size + 1, 50 + x, none⟩ = false := World.rowIs.frozen rS.out.m0 _
      have zS := rS.out.setOt (Nat.le_succ _) 0 x x (by omega) (by omega)
      simp only [Nat.zero_mul, Nat.add_zero, Nat.zero_add] at zS
      replace zS := hid zS
      rw [← hst.out] at zS
      have xm : (x : Int) % 256 = x := by omega
      go_wp2
      go_roundw
      case rel => exact ⟨x + 1, by omega, by go_num, zS.out⟩
      case measure => simp [intOf]; omega
    · obtain rfl : l = x := by omega
      have dx : decide ((l : Int) < (l : Int)) = false := decide_eq_false (by omega)
      go_wp2_with (first
        | ((with_reducible refine gate (N := 18) rfl ?_); refine load_mach rfl _ rfl (w.heap.size + 1) rfl (trivP l l) rS.out.m0 ?_)
        | ((with_reducible refine gateOp (op := .store 34 (.tmp 2) (.tmp 18)) rfl ?_); refine store_mach rfl _ _ rfl w.heap.size rfl (trivP l l) rfl 34 _ rS.out.m1 ?_; intro W3 p2 ho hsz hbl; have pB := hid (hbl _ _ (Nat.le_refl _) rS.out.bel); replace p2 := hid p2; clear ho hsz hbl))
      exact ret_mach rfl rfl p2.out rfl ⟨rfl, pB.out⟩

end Go.Proofs.Ythempofohidlnaa
