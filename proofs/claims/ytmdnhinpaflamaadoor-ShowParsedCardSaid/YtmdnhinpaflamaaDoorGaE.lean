/- The tables that statements are made of; a table's columns. -/
import Derived.Test.YtmdnhinpaflamaaDoorGaC
import Derived.Test.YtmdnhinpaflamaaDoorGcol
namespace Go.Proofs.YtmdnhinpaflamaaDoor
open Go.RowKit
set_option linter.unusedVariables false
namespace Gn
open PM (Ex B)
open Px (ItS itC kIt)
end Gn
end Go.Proofs.YtmdnhinpaflamaaDoor
