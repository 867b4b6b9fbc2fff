/- What choices are read from: Picks. -/
import Derived.Test.YtmdnhinpaflamaaGreatDoorPaA
import Derived.BigQuiet
import Derived.BigRegion
import Derived.Deep.RegionWith
namespace Go.Proofs.YtmdnhinpaflamaaGreatDoor
open Go.RowKit
set_option linter.unusedVariables false
namespace Gn
open PM (Ex B)

end Gn
end Go.Proofs.YtmdnhinpaflamaaGreatDoor
