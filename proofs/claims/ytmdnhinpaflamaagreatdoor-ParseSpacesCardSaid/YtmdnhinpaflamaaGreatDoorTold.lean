/- What is parsed is a statement that is shown, and how long it is then. No program in sight. -/
import Derived.Test.YtmdnhinpaflamaaGreatDoorPlD
namespace Go.Proofs.YtmdnhinpaflamaaGreatDoor
open Go.RowKit
set_option linter.unusedVariables false
set_option linter.unusedSimpArgs false
namespace CM
open LexM (Tok)
open PM (B Ex Col It St PS zeroTok wordy two un colEx opOr opAnd opSum opTerm opComp)
open Pc (Pc Line okName okText render toks blanks)
section
variable {α β : Type} {N : Nat}
end
theorem rlen_app (a b : Line) : (render (a ++ b)).length = (render a).length + (render b).length := by
 induction a with
 |nil => simp [render]
 |cons x a ih =>
  obtain ⟨g, c⟩ := x
  simp only [List.cons_append, render, List.length_append, ih]
  omega
theorem rlen_cons (g : Nat) (c : Pc) (L : Line) : (render ((g, c) :: L)).length = g + c.bytes.length + (render L).length := by simp [render, blanks]; omega
theorem b_name (t : B) : (Pc.name t).bytes = t := rfl
theorem b_word (t : B) : (Pc.word t).bytes = t := rfl
theorem b_num (v : Nat) : (Pc.num v).bytes = Lib.decDigits v := rfl
theorem b_text (t : B) : (Pc.text t).bytes = 39 :: (Pc.quo t ++ [39]) := rfl
theorem b_sign (t : B) : (Pc.sign t).bytes = t := rfl
theorem rlen_nil : (render []).length = 0 := rfl
theorem rlen_gap (p : Pr) (g : Nat) : (render (p.line g)).length = g + (render (p.line 0)).length := by cases p <;> simp only [Pr.line, rlen_cons] <;> omega
theorem rlen_cl (c : Cl) (g : Nat) : (render (c.line g)).length = (render (c.line 0)).length + g := by
 unfold Cl.line
 split <;> simp only [rlen_cons] <;> omega
theorem rlen_sel (s : Sel) : (render (s.line 1)).length = (render (s.line 0)).length + 1 := by simp only [Sel.line, rlen_cons]; omega
theorem rlen_wr (s : Wr) : (render (s.line 1)).length = (render (s.line 0)).length + 1 := by cases s <;> simp only [Wr.line, rlen_cons] <;> omega
end CM
end Go.Proofs.YtmdnhinpaflamaaGreatDoor
