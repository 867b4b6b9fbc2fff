/- How the document shows a value, a column. -/
import Derived.Test.YtmdnhinpaflamaaDoorGaD
namespace Go.Proofs.YtmdnhinpaflamaaDoor
open Go.RowKit
set_option linter.unusedVariables false
namespace Sh
open PM (Ex B)
open CM (Pr)
open Gn (sh)

/-- a text, as bytes -/
abbrev bt (l : B) : ByteArray := ⟨l.toArray⟩
theorem bt_cat (a b : B) : bt a ++ bt b = bt (a ++ b) := by
  apply ByteArray.ext
  rw [ByteArray.data_append]
  simp
theorem bt_size (a : B) : (bt a).size = a.length := by simp [ByteArray.size]
/-- a column's text -/
def colT (t n : B) : B := if t.isEmpty then n else t ++ [46] ++ n
theorem colT_one (n : B) : colT [] n = sh (.col n) := by rw [Gn.sh_col]; rfl
theorem colT_two {t n : B} (h : t ≠ []) : colT t n = sh (.tcol t n) := by
  rw [Gn.sh_tcol]
  cases t with
  | nil => exact absurd rfl h
  | cons => rfl
end Sh
end Go.Proofs.YtmdnhinpaflamaaDoor
