/- The document's Parse. -/
import Derived.Test.YtmdnhinpaflamaaDoorBas
import Derived.Test.YtmdnhinpaflamaaDoorShelf
import Derived.Lib.AppendIntMem
import Derived.Lib.ItoaLen
namespace Go.Proofs.YtmdnhinpaflamaaDoor
open Go.RowKit

namespace Parse
end Parse
end Go.Proofs.YtmdnhinpaflamaaDoor
namespace Go.Proofs.YtmdnhinpaflamaaDoor
open Go.RowKit

end Go.Proofs.YtmdnhinpaflamaaDoor
