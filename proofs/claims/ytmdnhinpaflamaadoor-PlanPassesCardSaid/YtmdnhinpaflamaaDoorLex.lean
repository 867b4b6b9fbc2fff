/- lex: a name, a number. -/
import Derived.Test.YtmdnhinpaflamaaDoorBas
import Derived.Test.YtmdnhinpaflamaaDoorShelf
import Derived.Lib.IndexAny
import Derived.Lib.SlicesS
namespace Go.Proofs.YtmdnhinpaflamaaDoor
open Go.RowKit

namespace Lx
open LexM (Tok)
end Lx
end Go.Proofs.YtmdnhinpaflamaaDoor
namespace Go.Proofs.YtmdnhinpaflamaaDoor
open Go.RowKit

namespace Lx
open LexM (Tok)


end Lx
end Go.Proofs.YtmdnhinpaflamaaDoor
namespace Go.Proofs.YtmdnhinpaflamaaDoor
open Go.RowKit

namespace Lx
open LexM (Tok)

end Lx
end Go.Proofs.YtmdnhinpaflamaaDoor
namespace Go.Proofs.YtmdnhinpaflamaaDoor
open Go.RowKit

namespace Lx
open LexM (Tok)

end Lx
end Go.Proofs.YtmdnhinpaflamaaDoor
namespace Go.Proofs.YtmdnhinpaflamaaDoor
open Go.RowKit

namespace Lx
open LexM (Tok)


end Lx
end Go.Proofs.YtmdnhinpaflamaaDoor
namespace Go.Proofs.YtmdnhinpaflamaaDoor
open Go.RowKit

namespace Lx
open LexM (Tok)

end Lx
end Go.Proofs.YtmdnhinpaflamaaDoor
namespace Go.Proofs.YtmdnhinpaflamaaDoor
open Go.RowKit

namespace Lx
open LexM (Tok)

/-- a word's cells -/
def tokC (t : Tok) : List Value := [.int .i64 t.kind, .string ⟨t.text.toArray⟩, .int .i64 t.int, .int .i64 t.pos]
def toksC (l : List Tok) : List Value := l.flatMap tokC
theorem four_new (w : World) (E : TypeId) (l : List Value) (j : Nat) (u : Value) (h : l[j]? = some u) : (w.alloc (.cells l.toArray E)).cell? ((⟨w.heap.size, 0, none⟩ : Addr).add j) = some u := by
  rw [Addr.add_lit, Nat.zero_add]
  exact ((Blk.new w E l).cell j).trans h
end Lx
end Go.Proofs.YtmdnhinpaflamaaDoor
namespace Go.Proofs.YtmdnhinpaflamaaDoor
open Go.RowKit

namespace Lx
open LexM (Tok)

theorem lex_a : LexM.lex [97, 60, 61, 49] = .inr [⟨1, [97], 0, 0⟩, ⟨5, [60, 61], 0, 1⟩, ⟨3, [], 1, 3⟩, ⟨6, [], 0, 4⟩] := by rfl
theorem lex_b : LexM.lex [49, 97] = .inl (1, 4) := by rfl

end Lx
end Go.Proofs.YtmdnhinpaflamaaDoor
namespace Go.Proofs.YtmdnhinpaflamaaDoor
open Go.RowKit

namespace Lx
open LexM (Tok)

theorem size_of_cell {w : World} {v : Value} (h : w.cell? ⟨1, 0, none⟩ = some v) : 1 < w.heap.size := World.block_lt_of_cell? w _ h
end Lx
end Go.Proofs.YtmdnhinpaflamaaDoor
