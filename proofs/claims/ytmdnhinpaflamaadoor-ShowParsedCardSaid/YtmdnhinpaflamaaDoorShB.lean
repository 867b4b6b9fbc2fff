/- How the document shows an expression. -/
import Derived.Test.YtmdnhinpaflamaaDoorShA
import Derived.Deep.RegionHeld3
namespace Go.Proofs.YtmdnhinpaflamaaDoor
open Go.RowKit
set_option linter.unusedVariables false
namespace Sh
open PM (Ex B)
open CM (Pr)
open Gn (sh opB)

theorem bs {s : ByteArray} {l : B} {n : Nat} (h : bt l = s) (hl : l.length ≤ n) : (s.size : Int) ≤ n := by rw [← h, bt_size]; omega
theorem okName_len {t : B} (h : Pc.okName t = true) : t.length ≤ 16 := by
  simp only [Pc.okName, Bool.and_eq_true, decide_eq_true_eq] at h
  exact h.2
theorem okName_ne {t : B} (h : Pc.okName t = true) : t ≠ [] := by
  rintro rfl
  rw [show Pc.okName [] = false from by decide] at h
  cases h
end Sh
end Go.Proofs.YtmdnhinpaflamaaDoor
