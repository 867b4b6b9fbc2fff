/- What is shown is parsed as it was: expressions. No program in sight. -/
import Derived.Test.YtmdnhinpaflamaaGreatDoorPlB
namespace Go.Proofs.YtmdnhinpaflamaaGreatDoor
open Go.RowKit
namespace CM
open LexM (Tok)
open PM (B Ex Col It St PS zeroTok wordy two un colEx opOr opAnd opSum opTerm opComp)

theorem lev_not (n : Nat) : (lev (n + 1)).2 = notF (lev (n + 1)).1 (lev n).2 := rfl
theorem lev_un (n : Nat) : (lev (n + 1)).1 = unaryF (lev n).1 (lev n).2 := rfl
end CM
end Go.Proofs.YtmdnhinpaflamaaGreatDoor
namespace Go.Proofs.YtmdnhinpaflamaaGreatDoor
open Go.RowKit
namespace CM
open LexM (Tok)
open PM (B Ex Col It St PS zeroTok wordy two un colEx opOr opAnd opSum opTerm opComp)

def aggW (k : Nat) : B := match k with | 0 => [115, 117, 109] | 1 => [109, 105, 110] | _ => [109, 97, 120]
end CM
end Go.Proofs.YtmdnhinpaflamaaGreatDoor
namespace Go.Proofs.YtmdnhinpaflamaaGreatDoor
open Go.RowKit
namespace CM
open LexM (Tok)
open PM (B Ex Col It St PS zeroTok wordy two un colEx opOr opAnd opSum opTerm opComp)

variable {D : Nat}
end CM
end Go.Proofs.YtmdnhinpaflamaaGreatDoor
namespace Go.Proofs.YtmdnhinpaflamaaGreatDoor
open Go.RowKit
namespace CM
open PM (B)

end CM
end Go.Proofs.YtmdnhinpaflamaaGreatDoor
