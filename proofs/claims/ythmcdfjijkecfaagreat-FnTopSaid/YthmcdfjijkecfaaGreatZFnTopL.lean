/- What the proof of FnTop leans on, part 12 of 28. -/
import Derived.Test.YthmcdfjijkecfaaGreatZFnTopK
/- Lists of texts. -/
namespace Go.Proofs.YthmcdfjijkecfaaGreat
open Go.RowKit
set_option linter.unusedVariables false
set_option linter.unusedSimpArgs false
def strs (L : List ByteArray) : List Value := L.map Value.string
theorem strs_length (L : List ByteArray) : (strs L).length = L.length := by simp [strs]
theorem strs_snoc (L : List ByteArray) (s : ByteArray) : strs (L ++ [s]) = strs L ++ [.string s] := by simp [strs]
end Go.Proofs.YthmcdfjijkecfaaGreat

/- Parts of a text between bytes: the reference's l01Split. -/
namespace Go.Proofs.YthmcdfjijkecfaaGreat
open Go.RowKit
set_option linter.unusedVariables false
set_option linter.unusedSimpArgs false
-- @LONG

/-- A byte of a text. -/
def bt (s : ByteArray) (i : Nat) : Nat := if h : i < s.size then (s[i]'h).toNat else 0
theorem bt_eq {s : ByteArray} {i : Nat} (h : i < s.size) : (s[i]'h).toNat = bt s i := by unfold bt; rw [dif_pos h]
theorem bt_lt (s : ByteArray) (i : Nat) : bt s i < 256 := by
  unfold bt; split
  · exact UInt8.toNat_lt _
  · omega
section
variable {ops : Array Oper} {C : World → Prop} {Q : Act → Prop} {a : Act} {o : Oper} {rest : List Oper}
/-- A byte of a text, in a region that only reads. -/
theorem quiet_idx (hw : Region.wanted o (yielded ops a.tmps) = true) (t : TypeId) (x y : Operand) (ho : o.op = .index t x y) (ht : Tryz.prog.underlying t = some .string) (s : ByteArray) (k : Nat) (i : Int) (hx : a.eval x = .string s) (hy : a.eval y = .int .i64 i) (hi : i = (k : Nat)) (hk : k < s.size)
    (h : wpQuiet Tryz.prog ops C Q rest (a.put o.dst (.int .u8 (bt s k : Nat)))) : wpQuiet Tryz.prog ops C Q (o :: rest) a := by
  subst hi
  exact BigFrame.wpQuiet_want hw fun K hK => ⟨.int .u8 (bt s k : Nat), fun w _ => by
    have e : (execOp a.eval o).run Tryz.prog w = .ok (.value (.int .u8 (bt s k : Nat))) w := by
      unfold execOp
      simp only [ho, hx, hy]
      have e2 : (Instr.index t (.string s) (.int .i64 (k : Nat))).run Tryz.prog w = .ok (.int .u8 (bt s k : Nat)) w := by
        rw [run_index_string w t s .i64 k ht, dif_pos ⟨by omega, by omega⟩]
        have e3 := bt_eq hk
        simp only [Int.toNat_natCast, e3]
      simp [go_sem, e2]
    unfold Oper.quietAt
    rw [e]
    exact ⟨rfl, rfl⟩, hK _ h⟩
end
/-- The parts that are done, and where the next one begins, behind i bytes. -/
def splP (s : ByteArray) (c : Nat) : Nat → List ByteArray × Nat
  | 0 => ([], 0)
  | i + 1 => if bt s i = c then ((splP s c i).1 ++ [s.extract (splP s c i).2 i], i + 1) else splP s c i
/-- The parts of a text between the bytes c. -/
def splL (s : ByteArray) (c : Nat) : List ByteArray := (splP s c s.size).1 ++ [s.extract (splP s c s.size).2 s.size]
theorem splP_at (s : ByteArray) (c : Nat) : ∀ i, (splP s c i).2 ≤ i
  | 0 => Nat.le_refl _
  | i + 1 => by
    have := splP_at s c i
    unfold splP; split
    · exact Nat.le_refl _
    · omega
theorem splP_len (s : ByteArray) (c : Nat) : ∀ i, (splP s c i).1.length ≤ i
  | 0 => Nat.le_refl _
  | i + 1 => by
    have := splP_len s c i
    unfold splP; split
    · simp; omega
    · omega
theorem splL_len (s : ByteArray) (c : Nat) : (splL s c).length ≤ s.size + 1 ∧ 1 ≤ (splL s c).length := by
  have := splP_len s c s.size
  unfold splL; simp; omega
theorem splP_sz (s : ByteArray) (c : Nat) : ∀ i, i ≤ s.size → ∀ p ∈ (splP s c i).1, p.size ≤ s.size
  | 0, _, p, hp => by cases hp
  | i + 1, h, p, hp => by
    rw [splP] at hp
    split at hp
    · rcases List.mem_append.1 hp with hp | hp
      · exact splP_sz s c i (by omega) p hp
      · rw [List.mem_singleton.1 hp, ByteArray.size_extract]; omega
    · exact splP_sz s c i (by omega) p hp
theorem splL_sz (s : ByteArray) (c : Nat) : ∀ p ∈ splL s c, p.size ≤ s.size := fun p hp => by
  unfold splL at hp
  rcases List.mem_append.1 hp with hp | hp
  · exact splP_sz s c _ (Nat.le_refl _) p hp
  · rw [List.mem_singleton.1 hp, ByteArray.size_extract]; omega
set_option maxHeartbeats 2000000 in
set_option maxRecDepth 100000 in
theorem l01Split_any (w : World) (s : ByteArray) (hs : s.size ≤ 100000) (c : Nat) :
    Calls Tryz.prog 262 #[.string s, .int .u8 c] w fun e w' => ∃ v, e = .returned v ∧ Own w' w.heap.size 9 v (strs (splL s c)) ∧ Below w.heap.size w w' := by
  have hS0 := hid ((St.start w).newOwn [] 9 (by simp))
  have hb := hid (fun k (hk : k < s.size) => bt_eq hk)
  have hat := hid (splP_at s c)
  have hln := hid (splP_len s c)
  have hst := hid (fun k => (show splP s c (k + 1) = if bt s k = c then ((splP s c k).1 ++ [s.extract (splP s c k).2 k], k + 1) else splP s c k from rfl))
  have hen := hid (show splL s c = (splP s c s.size).1 ++ [s.extract (splP s c s.size).2 s.size] from rfl)
  rw [hen.out]
  obtain ⟨P, hP⟩ : ∃ P, P = splP s c := ⟨_, rfl⟩
  have h0 := hid (show P 0 = ([], 0) by rw [hP]; rfl)
  rw [← hP] at hat hln hst ⊢
  clear hP hen
  go_enter Tryz.func262, Tryz.ntmps262
  go_wp2
  go_loopw [5, 6, 7] (fun o a i wr => ∃ k : Nat, k ≤ s.size ∧ i = .int .i64 k ∧ a = .int .i64 ((P k).2 : Nat) ∧ St w.heap.size w [Asn.own w.heap.size 9 o (strs (P k).1)] wr) (fun _ _ i _ => s.size - (intOf i).toNat)
  case atStart => exact ⟨0, Nat.zero_le _, rfl, by rw [h0.out]; rfl, by rw [h0.out]; exact hS0.out⟩
  case round =>
    obtain ⟨k, hk, rfl, rfl, rS⟩ := hrel
    clear hS0
    replace rS := hid rS
    by_cases hlt : k < s.size
    · have hbk := hb.out k hlt
      have hak := hat.out k
      have hlk := hln.out k
      have hsk := hst.out k
      have dk : decide ((k : Int) < (s.size : Int)) = true := decide_eq_true (by omega)
      have hpl := hid (strs_length (P k).1)
      generalize bt s k = b at *
      by_cases e : b = c
      · subst e
        rw [if_pos rfl] at hsk
        replace hsk := hid hsk
        generalize hat' : (P k).2 = at0 at *
        go_wp2_with (first
          | ((with_reducible refine gate (N := 26) rfl ?_); refine St.app 64 9 (.string { data := #[] }) 16 Tryz.underlying64 info_str rfl (by omega) rfl _ _ rfl _ _ rfl rS.out _ rfl rfl (P k).1.length hpl.out (by omega) ?_; intro gn cap w2 hO2; replace rS := hid hO2; clear hO2))
        go_roundw
        case rel => exact ⟨k + 1, by omega, by go_num, by rw [hsk.out]; go_num, by rw [hsk.out, strs_snoc]; exact rS.out⟩
        case measure => simp [intOf]; omega
      · rw [if_neg e] at hsk
        replace hsk := hid hsk
        have db : ((b : Int) == (c : Int)) = false := by simp; omega
        go_wp2
        go_roundw
        case rel => exact ⟨k + 1, by omega, by go_num, by rw [hsk.out], by rw [hsk.out]; exact rS.out⟩
        case measure => simp [intOf]; omega
    · obtain rfl : k = s.size := by omega
      have hak := hat.out s.size
      have hlk := hln.out s.size
      have hpl := hid (strs_length (P s.size).1)
      generalize hat' : (P s.size).2 = at0 at *
      go_wp2_with (first
        | ((with_reducible refine gate (N := 34) rfl ?_); refine St.app 64 9 (.string { data := #[] }) 16 Tryz.underlying64 info_str rfl (by omega) rfl _ _ rfl _ _ rfl rS.out _ rfl rfl (P s.size).1.length hpl.out (by omega) ?_; intro gn cap w2 hO2; replace rS := hid hO2; clear hO2))
      go_ret
      exact ⟨_, rfl, by rw [strs_snoc, hat']; exact rS.out.o0, rS.out.bel⟩
end Go.Proofs.YthmcdfjijkecfaaGreat
