/- A table's columns: what they are called, and their kinds. -/
import Derived.Test.YtmdnhinpaflamaaDoorBas
import Derived.Deep.RegionHeldLaw
import Derived.RegionTactic
namespace Go.Proofs.YtmdnhinpaflamaaDoor
open Go.RowKit
set_option linter.unusedVariables false
namespace Gn
section
variable {T1 T2 : TypeId} {s1 s2 : Nat} {wr W W' : World} {u4 u5 v4 v5 v' : Value} {n4 n5 n' : Nat} {c4 c5 c' : List Value}
end
end Gn
end Go.Proofs.YtmdnhinpaflamaaDoor
