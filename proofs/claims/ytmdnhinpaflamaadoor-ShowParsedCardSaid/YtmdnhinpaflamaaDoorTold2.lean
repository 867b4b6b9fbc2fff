/- What a text says, shown, is parsed again as it was. No program in sight. -/
import Derived.Test.YtmdnhinpaflamaaDoorPcF
import Derived.Test.YtmdnhinpaflamaaDoorPlD
import Derived.Test.YtmdnhinpaflamaaDoorTold
namespace Go.Proofs.YtmdnhinpaflamaaDoor
open Go.RowKit
set_option linter.unusedVariables false
namespace CM
open LexM (Tok)
open PM (B Ex Col It St PS zeroTok wordy two un colEx opOr opAnd opSum opTerm opComp)
open Pc (Pc Line okName okText render toks blanks)
end CM
end Go.Proofs.YtmdnhinpaflamaaDoor
namespace Go.Proofs.YtmdnhinpaflamaaDoor
open Go.RowKit
set_option linter.unusedVariables false
namespace CM
open LexM (Tok)
open PM (B Ex Col It St PS zeroTok wordy two un colEx opOr opAnd opSum opTerm opComp)
open Pc (Pc Line okName okText render toks blanks)
/-- what a text says, shown again: the same; or too long; or too deep -/
theorem shown_again {q : Qs} {D : Nat} (ho : q.ok D = true) : PM.parse (render q.line) = .inr q.st ∨ (∃ k, PM.parse (render q.line) = .inl (k, 6)) ∨ PM.parse (render q.line) = .inl (0, 7) := by
  by_cases hl : (render q.line).length ≤ 400
  · have hok : q.ok (max D 64) = true := qs_up (Nat.le_max_left D 64) ho
    have h1 := parseL_deep (Nat.le_max_right D 64) hok 0 (render q.line).length
    have hlex : LexM.lex (render q.line) = .inr (toks 0 q.line ++ [⟨6, [], 0, (render q.line).length⟩]) := by
      have := Pc.lex_line q.line 0 (qs_fits hok) (by simpa [blanks] using hl)
      simpa [blanks] using this
    rw [CM.parse_eq, CM.parse, hlex]
    rcases h1 with h | h
    · exact .inl h
    · exact .inr (.inl h)
  · right; right
    rw [CM.parse_eq, CM.parse, Pc.lex_long (by omega)]
    rfl
end CM
end Go.Proofs.YtmdnhinpaflamaaDoor
