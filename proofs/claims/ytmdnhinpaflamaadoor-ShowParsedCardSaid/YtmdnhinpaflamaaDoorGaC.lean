/- A column of a kind among some. -/
import Derived.Test.YtmdnhinpaflamaaDoorGaB
import Derived.Test.YtmdnhinpaflamaaDoorGaR
namespace Go.Proofs.YtmdnhinpaflamaaDoor
open Go.RowKit
set_option linter.unusedVariables false
namespace Gn
open PM (Ex B)
open Px (z7 put7 frPut7 blkPut7 ret_cell7 c7_of ItS itC kIt)

end Gn
end Go.Proofs.YtmdnhinpaflamaaDoor
