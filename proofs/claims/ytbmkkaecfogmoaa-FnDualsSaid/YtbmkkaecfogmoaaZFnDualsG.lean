/- What the proof of FnDuals leans on, part 7 of 26. -/
import Derived.Test.YtbmkkaecfogmoaaZFnDualsF
import Derived.Laws.BytesArg
import Derived.OwnWalk
/- Words as lists of letters; what states make of them: lead and l01Act. -/
namespace Go.Proofs.Ytbmkkaecfogmoaa
open Go.RowKit
set_option linter.unusedVariables false
set_option linter.unusedSimpArgs false

/-- The text of a word. -/
def wstr (u : List Nat) : ByteArray := strOfNums (u.map fun x : Nat => 48 + (x : Int))
theorem wstr_size (u : List Nat) : (wstr u).size = u.length := by simp [wstr, strOfNums_size]
theorem wstr_byte (u : List Nat) (k : Nat) (hk : k < (wstr u).size) (hu : ∀ x ∈ u, x < 200) : ((wstr u)[k]'hk).toNat = 48 + u.getD k 0 := by
  have hk' : k < u.length := by rwa [wstr_size] at hk
  have hb : u[k] < 200 := hu _ (List.getElem_mem hk')
  have : (wstr u)[k]'hk = UInt8.ofNat ((48 + (u[k] : Int)).toNat) := by
    show (wstr u).data[k]'_ = _
    simp [wstr, strOfNums]
  rw [this, List.getD_eq_getElem?_getD, List.getElem?_eq_getElem hk', Option.getD_some, UInt8.toNat_ofNat']
  omega

/-- What a state puts out for a word, and where it ends. -/
def img (m : Mach) : Nat → List Nat → List Nat
  | _, [] => []
  | q, x :: u => m.ot (q * 3 + x) :: img m (m.nx (q * 3 + x)) u
def sec (m : Mach) : Nat → List Nat → Nat
  | q, [] => q
  | q, x :: u => sec m (m.nx (q * 3 + x)) u
theorem img_length (m : Mach) : ∀ (u : List Nat) (q : Nat), (img m q u).length = u.length
  | [], _ => rfl
  | x :: u, q => by simp [img, img_length m u]
theorem sec_snoc (m : Mach) (x : Nat) : ∀ (u : List Nat) (q : Nat), sec m q (u ++ [x]) = m.nx (sec m q u * 3 + x)
  | [], _ => rfl
  | y :: u, q => by simp [sec, sec_snoc m x u]
theorem img_snoc (m : Mach) (x : Nat) : ∀ (u : List Nat) (q : Nat), img m q (u ++ [x]) = img m q u ++ [m.ot (sec m q u * 3 + x)]
  | [], _ => rfl
  | y :: u, q => by simp [img, sec, img_snoc m x u]
theorem sec_lt {m : Mach} {l s : Nat} (g : Good m l s) : ∀ (u : List Nat) (q : Nat), q < s → (∀ x ∈ u, x < l) → sec m q u < s
  | [], q, hq, _ => hq
  | x :: u, q, hq, hu => sec_lt g u _ (g.nx q x hq (hu x (by simp))) (fun y hy => hu y (by simp [hy]))
theorem img_lt {m : Mach} {l s : Nat} (g : Good m l s) : ∀ (u : List Nat) (q : Nat), q < s → (∀ x ∈ u, x < l) → ∀ y ∈ img m q u, y < l
  | [], q, _, _, y, hy => by simp [img] at hy
  | x :: u, q, hq, hu, y, hy => by
    simp only [img, List.mem_cons] at hy
    rcases hy with rfl | hy
    · exact g.ot q x hq (hu x (by simp))
    · exact img_lt g u _ (g.nx q x hq (hu x (by simp))) (fun z hz => hu z (by simp [hz])) y hy
theorem take_snoc' (u : List Nat) (k : Nat) (h : k < u.length) : u.take (k + 1) = u.take k ++ [u.getD k 0] := by
  rw [List.take_succ_eq_append_getElem h, List.getD_eq_getElem?_getD, List.getElem?_eq_getElem h]; rfl
theorem getD_mem (u : List Nat) (k : Nat) (h : k < u.length) : u.getD k 0 ∈ u := by
  rw [List.getD_eq_getElem?_getD, List.getElem?_eq_getElem h]; exact List.getElem_mem h

theorem info_u8 : (Try.prog.info? 5).map (fun i => (i.zero, i.size, i.bytes)) = some (some (.int .u8 0), 1, 1) := by kernel_rfl

/-- The digits of a list, by their places; 0 from the place k on. -/
def dgs (u : List Nat) (i : Nat) : Value := .int .u8 (if i < u.length then 48 + u.getD i 0 else 0 : Nat)

theorem dgs_snoc (im : List Nat) (ot j : Nat) : (if j = im.length then Value.int .u8 (48 + (ot : Int)) else dgs im j) = dgs (im ++ [ot]) j := by
  unfold dgs
  by_cases h : j = im.length
  · subst h
    rw [if_pos rfl, if_pos (by simp)]
    simp
  · rw [if_neg h]
    by_cases h2 : j < im.length
    · rw [if_pos h2, if_pos (by simp; omega)]
      simp [List.getD_eq_getElem?_getD, List.getElem?_append_left h2]
    · rw [if_neg h2, if_neg (by simp; omega)]

/-- A row of digits read as a text. -/
theorem conv_dgs {w : World} {b n t : Nat} {u : List Nat} (hn : u.length = n) (h : w.rowIs b t n (dgs u)) : (convert 22 9 (.slice (some ⟨b, 0, none⟩) n n)).run Try.prog w = .ok (.string (wstr u)) w := by
  refine run_convert_bytes_arg w 22 5 Try.underlying22 Try.underlying5 b 0 n n (u.map fun x : Nat => 48 + (x : Int)) (by simpa using hn) (fun i hi => ?_) 9 Try.underlying9
  rw [Nat.zero_add, World.rowIs.cell h hi]
  unfold dgs
  have hi' : i < u.length := by omega
  rw [if_pos hi']
  simp [List.getD_eq_getElem?_getD, List.getElem?_eq_getElem hi']

set_option maxHeartbeats 1000000 in
set_option maxRecDepth 100000 in
theorem lead_any (b : Nat) (w : World) (m : Mach) (hm : MB w 27 b m) (l s : Nat) (g : Good m l s) (q : Nat) (hq : q < s) (u : List Nat) (hu : ∀ x ∈ u, x < l) (hlen : u.length ≤ 1000) :
    Calls Try.prog 88 #[.pointer (some ⟨b, 0, none⟩), .int .i64 q, .string (wstr u)] w fun e w' =>
      e = .returned (.tuple #[.string (wstr (img m q u)), .int .i64 (sec m q u : Nat)]) ∧ Below w.heap.size w w' := by
  have hsz := wstr_size u
  have hmk := fun W : World => run_make_row' (P := Try.prog) 22 5 (.int .u8 0) 1 Try.underlying22 info_u8 rfl .i64 .i64 u.length (by omega) (by omega) W
  have hbyte := hid (fun k hk => wstr_byte u k hk (fun x hx => by have := hu x hx; have := g.l3; omega))
  have hmade := hid (World.rowIs_made w (.int .u8 0) u.length 5)
  have hB := hid (below_alloc (Below.refl w.heap.size w) (Nat.le_refl _) (.cells (madeCells #[.int .u8 0] u.length) 5))
  have hM := hid (hm.alloc (.cells (madeCells #[.int .u8 0] u.length) 5))
  have hblt := hid hm.lt
  have s16 := g.s16
  have l3 := g.l3
  replace g := hid g
  replace hu := hid hu
  clear hm
  generalize hws : wstr u = ws at *
  generalize hmc : madeCells #[.int .u8 0] u.length = mc at *
  replace hws := hid hws
  clear hmc
  go_enter Try.func88, Try.ntmps88
  go_wp2
  clear hmk
  go_loopw [1, 16] (fun p i wr => ∃ k : Nat, k ≤ u.length ∧ i = .int .i64 k ∧ p = .int .i64 (sec m q (u.take k) : Nat) ∧ MB wr 27 b m ∧ wr.rowIs w.heap.size 5 u.length (dgs (img m q (u.take k))) ∧ Below w.heap.size w wr) (fun _ i _ => u.length - (intOf i).toNat)
  case atStart =>
    refine ⟨0, Nat.zero_le _, rfl, rfl, hM.out, World.rowIs.congr hmade.out (fun i hi => ?_), hB.out⟩
    unfold dgs
    simp [img]
  case round =>
    obtain ⟨k, hk, rfl, rfl, r1, r2, rB⟩ := hrel
    clear hM hmade hB
    replace r1 := hid r1; replace r2 := hid r2; replace rB := hid rB
    by_cases hlt : k < u.length
    · have hx := hu.out _ (getD_mem u k hlt)
      have hb := hbyte.out k (by omega)
      have htk := hid (take_snoc' u k hlt)
      have hq2 := sec_lt g.out (u.take k) q hq (fun x hx => hu.out x (List.mem_of_mem_take hx))
      have hsn := hid (sec_snoc m (u.getD k 0) (u.take k) q)
      have him := hid (img_snoc m (u.getD k 0) (u.take k) q)
      have hol := g.out.ot _ _ hq2 hx
      have hnl := g.out.nx _ _ hq2 hx
      have hout := hid (fun W hW => out_any b W m hW (sec m q (u.take k)) (u.getD k 0) (by omega) (by omega) (by omega))
      have hnext := hid (fun W hW => next_any b W m hW (sec m q (u.take k)) (u.getD k 0) (by omega) (by omega) (by omega))
      have hil := hid (show (img m q (u.take k)).length = k by rw [img_length, List.length_take]; omega)
      obtain ⟨vo, co⟩ : ∃ v, wr.cell? ⟨w.heap.size, k, none⟩ = some v := ⟨_, r2.out.cell hlt⟩
      have fo : wr.frozen? ⟨w.heap.size, k, none⟩ = false := r2.out.frozen k
      generalize hqk : sec m q (u.take k) = qk at *
      generalize hxk : u.getD k 0 = x at *
      generalize hok : m.ot (qk * 3 + x) = ot at *
      generalize hnk : m.nx (qk * 3 + x) = nx at *
      generalize him0 : img m q (u.take k) = im at *
      replace hqk := hid hqk; replace hxk := hid hxk; replace hok := hid hok; replace hnk := hid hnk; replace him0 := hid him0
      have e1 : 48 + (x : Int) - 48 = x := by omega
      go_wp2_with (first
        | (go_at_call 185; (with_reducible refine (hout.out _ r1.out).mono ?_); rintro e w1 ⟨rfl, rfl⟩)
        | (go_at_call 189; (with_reducible refine (letter_any ot (by omega) _).mono ?_); rintro e w1 ⟨rfl, rfl⟩)
        | (go_at_call 184; (with_reducible refine (hnext.out _ (r1.out.setOther (by have := hblt.out; simp; omega) _)).mono ?_); rintro e w1 ⟨rfl, rfl⟩))
      go_roundw
      case rel =>
        refine ⟨k + 1, by omega, by go_num, by rw [htk.out, hsn.out], r1.out.setOther (by have := hblt.out; simp; omega) _, ?_, rB.out.setCell (by simp) _⟩
        rw [htk.out, him.out]
        refine World.rowIs.congr (World.rowIs.set r2.out k _) (fun i hi => ?_)
        have := dgs_snoc im ot i
        rw [hil.out] at this
        exact this
      case measure => simp [intOf]; omega
    · obtain rfl : k = u.length := by omega
      have htk : u.take u.length = u := List.take_length
      rw [htk] at r2
      have hconv := conv_dgs (img_length m u q) r2.out
      rw [htk]
      clear htk
      go_wp2
      go_ret2
      exact ⟨rfl, rB.out⟩
end Go.Proofs.Ytbmkkaecfogmoaa
