/- Texts made of words, with spaces between: their words are these. No program in sight. -/
import Derived.Test.YtmdnhinpaflamaaDoorLex
import Derived.Test.YtmdnhinpaflamaaDoorPlB
namespace Go.Proofs.YtmdnhinpaflamaaDoor
open Go.RowKit
namespace Pc
open LexM (Tok)


theorem head_app {l : B} (r : B) (h : l ≠ []) : (l ++ r).headD 0 = l.headD 0 := by
  cases l with
  | nil => exact absurd rfl h
  | cons => rfl
end Pc
end Go.Proofs.YtmdnhinpaflamaaDoor
