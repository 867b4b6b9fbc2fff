/- SameExpr, SameExprs: whether two are the same. -/
import Derived.Test.YtmdnhinpaflamaaDoorPaA
import Derived.BigQuiet
import Derived.Deep.RegionWith
namespace Go.Proofs.YtmdnhinpaflamaaDoor
open Go.RowKit
set_option linter.unusedVariables false
namespace Sx
open PM (Ex B)
theorem es_form {A : Nat → Prop} {w : World} {l : List Ex} {v : Value} (h : Rep.Es 41 A w l v) : ∃ a c, v = .slice a l.length c ∧ l.length ≤ maxLen := by
  cases h with
  | mk _ _ xs hl hr hb =>
    rcases hr.form with ⟨rfl, h1, h2⟩ | ⟨g, off, cap, rfl, h1, h2⟩
    · exact ⟨none, 0, by rw [h1], by omega⟩
    · exact ⟨_, _, rfl, by omega⟩
end Sx
end Go.Proofs.YtmdnhinpaflamaaDoor
