/- An expression that is made. -/
import Derived.Test.YtmdnhinpaflamaaDoorGaC
import Derived.Test.YtmdnhinpaflamaaDoorRefB
namespace Go.Proofs.YtmdnhinpaflamaaDoor
open Go.RowKit
set_option linter.unusedVariables false
namespace Gn
open PM (Ex B)
open Px (z7 put7 frPut7 blkPut7 ret_cell7 c7_of ItS itC kIt)
open CM (Pr)

theorem render_app : ∀ (a b : Pc.Line), Pc.render (a ++ b) = Pc.render a ++ Pc.render b
  | [], b => rfl
  | (g, c) :: a, b => by simp [Pc.render, render_app a b]
theorem line_gap (p : Pr) (g : Nat) : Pc.render (p.line g) = Pc.blanks g ++ Pc.render (p.line 0) := by cases p <;> simp [Pr.line, Pc.render, Pc.blanks]
/-- the text of an expression -/
def sh (p : Pr) : B := Pc.render (p.line 0)
theorem sh_one (p : Pr) : Pc.render (p.line 1) = 32 :: sh p := by rw [line_gap]; rfl
theorem sh_int (v : Nat) : sh (.int v) = Lib.decDigits v := by simp [sh, Pr.line, Pc.render, Pc.blanks, Pc.Pc.bytes]
theorem sh_text (t : B) : sh (.text t) = 39 :: (Pc.quo t ++ [39]) := by simp [sh, Pr.line, Pc.render, Pc.blanks, Pc.Pc.bytes]
theorem sh_col (n : B) : sh (.col n) = n := by simp [sh, Pr.line, Pc.render, Pc.blanks, Pc.Pc.bytes]
theorem sh_tcol (t n : B) : sh (.tcol t n) = t ++ [46] ++ n := by simp [sh, Pr.line, Pc.render, Pc.blanks, Pc.Pc.bytes]
theorem sh_neg (a : Pr) : sh (.neg a) = [40, 45] ++ sh a ++ [41] := by simp [sh, Pr.line, Pc.render, Pc.blanks, Pc.Pc.bytes, render_app]
theorem sh_not (a : Pr) : sh (.not a) = [40, 110, 111, 116, 32] ++ sh a ++ [41] := by
  have := sh_one a
  simp [sh, Pr.line, Pc.render, Pc.blanks, Pc.Pc.bytes, render_app] at this ⊢
  rw [this]; rfl
def opB (o : Nat) : B := (CM.opPc o).bytes
theorem sh_bin (o : Nat) (a b : Pr) : sh (.bin o a b) = [40] ++ sh a ++ [32] ++ opB o ++ [32] ++ sh b ++ [41] := by
  have := sh_one b
  simp [sh, Pr.line, Pc.render, Pc.blanks, Pc.Pc.bytes, render_app, opB] at this ⊢
  rw [this]
  rfl
theorem opB_len (o : Nat) : (opB o).length ≤ 3 := by unfold opB CM.opPc; split <;> decide
end Gn
end Go.Proofs.YtmdnhinpaflamaaDoor
