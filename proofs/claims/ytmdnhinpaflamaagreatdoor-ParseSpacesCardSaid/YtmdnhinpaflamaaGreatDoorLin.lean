/- What is shown is parsed as it was: the whole way from the bytes. No program in sight. -/
import Derived.Test.YtmdnhinpaflamaaGreatDoorPc
import Derived.Test.YtmdnhinpaflamaaGreatDoorPlD
namespace Go.Proofs.YtmdnhinpaflamaaGreatDoor
open Go.RowKit
set_option linter.unusedVariables false
namespace CM
open LexM (Tok)
open PM (B Ex Col It St PS zeroTok wordy two un colEx opOr opAnd opSum opTerm opComp)
open Pc (Pc Line okName okText render toks blanks)
theorem parse_keys {q : Qs} {L : Line} {k : Nat} (ho : q.ok 64 = true) (hk : keys L = keys q.line) (hf : Pc.fits L = true) (hl : (render L ++ blanks k).length <= 400) : PM.parse (render L ++ blanks k) = .inr q.st := by
 rw [CM.parse_eq, CM.parse, Pc.lex_line L k hf hl]
 exact parseL_keys ho hk 0 _
theorem parse_line {q : Qs} {k : Nat} (ho : q.ok 64 = true) (hl : (render q.line ++ blanks k).length <= 400) : PM.parse (render q.line ++ blanks k) = .inr q.st := parse_keys ho rfl (qs_fits ho) hl
theorem parse_shown {q : Qs} (ho : q.ok 64 = true) (hl : (render q.line).length <= 400) : PM.parse (render q.line) = .inr q.st := by
 have h := parse_line (k := 0) ho (by simpa [blanks] using hl)
 simpa [blanks] using h
end CM
end Go.Proofs.YtmdnhinpaflamaaGreatDoor
