/- What the proof of FnPortraits leans on, part 12 of 26. -/
import Derived.Test.YtbmkkaecfogmoaaZFnPortraitsK
import Derived.BigQuiet
import Derived.Laws.Strings
/- Texts joined, in a region that only reads. -/
namespace Go.Proofs.Ytbmkkaecfogmoaa
open Go.RowKit
set_option linter.unusedVariables false
set_option linter.unusedSimpArgs false

section
variable {ops : Array Oper} {C : World → Prop} {Q : Act → Prop} {a : Act} {o : Oper} {rest : List Oper}
/-- Two texts joined, in a region that only reads. -/
theorem quiet_add (hw : Region.wanted o (yielded ops a.tmps) = true) (x y : Operand) (t t2 : TypeId) (ho : o.op = .binOp .add t x y t2) (s1 s2 : ByteArray) (hx : a.eval x = .string s1) (hy : a.eval y = .string s2) (hs : s1.size + s2.size ≤ 9223372036854775807)
    (h : wpQuiet Try.prog ops C Q rest (a.put o.dst (.string (s1 ++ s2)))) : wpQuiet Try.prog ops C Q (o :: rest) a :=
  BigFrame.wpQuiet_want hw fun K hK => ⟨.string (s1 ++ s2), fun w _ => by
    have e : (execOp a.eval o).run Try.prog w = .ok (.value (.string (s1 ++ s2))) w := by
      unfold execOp
      simp only [ho, hx, hy]
      have e2 : (Op.stringOp .add s1 s2).run Try.prog w = .ok (.string (s1 ++ s2)) w := by apply run_string_add_sum; exact hs
      simp [go_sem, e2]
    unfold Oper.quietAt
    rw [e]
    exact ⟨rfl, rfl⟩, hK _ h⟩
end
end Go.Proofs.Ytbmkkaecfogmoaa
