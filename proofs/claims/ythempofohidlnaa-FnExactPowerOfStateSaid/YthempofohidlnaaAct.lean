/- The reference's l01Act: the word to which a state leads a word, by appends. -/
import Derived.Test.YthempofohidlnaaWord
import Derived.Test.YthempofohidlnaaOwn
import Derived.RegionTactic
import Derived.BigRegion
import Derived.Deep.CutBlock
namespace Go.Proofs.Ythempofohidlnaa
open Go.RowKit
set_option linter.unusedVariables false
set_option linter.unusedSimpArgs false

/-- A word's bytes. -/
def wb (u : List Nat) : List Value := u.map fun x : Nat => .int .u8 (48 + (x : Int))
theorem wb_snoc (u : List Nat) (x : Nat) : wb (u ++ [x]) = wb u ++ [.int .u8 (48 + (x : Int))] := by simp [wb]
theorem wb_length (u : List Nat) : (wb u).length = u.length := by simp [wb]

set_option maxHeartbeats 1000000 in
set_option maxRecDepth 100000 in
theorem l01Act_any (w : World) (m : Mach) (l s : Nat) (g : Good m l s) (q : Nat) (hq : q < s) (u : List Nat) (hu : ∀ x ∈ u, x < l) (hlen : u.length ≤ 1000) :
    Calls Try.prog 110 #[.agg (mcells m), .int .i64 q, .string (wstr u)] w fun e w' =>
      e = .returned (.tuple #[.string (wstr (img m q u)), .int .i64 (sec m q u : Nat)]) ∧ Below w.heap.size w w' := by
  have hsz := wstr_size u
  have hbyte := hid (fun k hk => wstr_byte u k hk (fun x hx => by have := hu x hx; have := g.l3; omega))
  have hM := hid ((MB.new w m 34).alloc (.cells #[] 5))
  have hB := hid (below_alloc (below_alloc (Below.refl w.heap.size w) (Nat.le_refl _) (.cells (mcells m) 34)) (Nat.le_refl _) (.cells #[] 5))
  have hO := Own.new (w.alloc (.cells (mcells m) 34)) (w.heap.size + 1) 5 (by simp)
  rw [heap_alloc_size] at hO
  replace hO := hid hO
  have s16 := g.s16
  have l3 := g.l3
  replace g := hid g
  replace hu := hid hu
  generalize hws : wstr u = ws at *
  replace hws := hid hws
  go_enter Try.func110, Try.ntmps110
  go_wp2
  go_loopw [1, 8, 9] (fun p v i wr => ∃ k : Nat, k ≤ u.length ∧ i = .int .i64 k ∧ p = .int .i64 (sec m q (u.take k) : Nat) ∧ MB wr 34 w.heap.size m ∧ Own wr (w.heap.size + 1) 5 v (wb (img m q (u.take k))) ∧ Below w.heap.size w wr) (fun _ _ i _ => u.length - (intOf i).toNat)
  case atStart =>
    exact ⟨0, Nat.zero_le _, rfl, rfl, hM.out, hO.out, hB.out⟩
  case round =>
    obtain ⟨k, hk, rfl, rfl, r1, r2, rB⟩ := hrel
    clear hM hO hB
    replace r1 := hid r1; replace r2 := hid r2; replace rB := hid rB
    by_cases hlt : k < u.length
    · have hx := hu.out _ (getD_mem u k hlt)
      have hb := hbyte.out k (by omega)
      have htk := hid (take_snoc' u k hlt)
      have hq2 := sec_lt g.out (u.take k) q hq (fun x hx => hu.out x (List.mem_of_mem_take hx))
      have hsn := hid (sec_snoc m (u.getD k 0) (u.take k) q)
      have him := hid (img_snoc m (u.getD k 0) (u.take k) q)
      have hol := g.out.ot _ _ hq2 hx
      have hnl := g.out.nx _ _ hq2 hx
      have hil := hid (show (wb (img m q (u.take k))).length = k by rw [wb_length, img_length, List.length_take]; omega)
      have c1 := r1.out.cot (sec m q (u.take k)) (u.getD k 0) (by omega) (by omega)
      have c2 := hid (fun W (hW : MB W 34 w.heap.size m) => hW.cnx (sec m q (u.take k)) (u.getD k 0) (by omega) (by omega))
      have hlt1 := hid r1.out.lt
      generalize hqk : sec m q (u.take k) = qk at *
      generalize hxk : u.getD k 0 = x at *
      generalize hok : m.ot (qk * 3 + x) = ot at *
      generalize hnk : m.nx (qk * 3 + x) = nx at *
      generalize him0 : img m q (u.take k) = im at *
      replace hqk := hid hqk; replace hxk := hid hxk; replace hok := hid hok; replace hnk := hid hnk; replace him0 := hid him0
      have e1 : 48 + (x : Int) - 48 = x := by omega
      have e2 : (48 + (ot : Int)) % 256 = 48 + ot := by omega
      go_wp2_with (first
        | ((with_reducible refine gate (N := 31) rfl ?_); (refine app1 120 5 (.int .u8 0) 1 Try.underlying120 info_u8 rfl (by omega) rfl _ _ rfl (w.heap.size + 1) _ _ rfl r2.out hlt1.out _ rfl rfl (by have := hil.out; omega) ?_; intro gn cap w2 hO2 hb2 hold hsz2 _; have t1 := hid (show MB w2 34 w.heap.size m from World.rowIs.of_block r1.out (hold _ hlt1.out (fun e => by have := (r2.out.lt _ e).1; omega))); replace hO2 := hid hO2; have tB := hid (rB.out.trans (hb2.mono (Nat.le_succ _))); clear hb2 hold hsz2 c1 r1 r2 rB; have c1 := c2.out _ t1.out)))
      go_roundw
      case rel =>
        refine ⟨k + 1, by omega, by go_num, by rw [htk.out, hsn.out], t1.out, ?_, tB.out⟩
        rw [htk.out, him.out, wb_snoc]
        exact hO2.out
      case measure => simp [intOf]; omega
    · obtain rfl : k = u.length := by omega
      have htk : u.take u.length = u := List.take_length
      rw [htk] at r2
      have hconv := r2.out.conv
      rw [htk]
      clear htk
      go_wp2
      go_ret2
      exact ⟨rfl, rB.out⟩
end Go.Proofs.Ythempofohidlnaa
