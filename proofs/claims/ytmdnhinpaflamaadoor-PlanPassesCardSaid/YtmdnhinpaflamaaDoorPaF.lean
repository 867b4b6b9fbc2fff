/- parse: Parse. -/
import Derived.Test.YtmdnhinpaflamaaDoorPaC
import Derived.Test.YtmdnhinpaflamaaDoorLex
import Derived.RegionTactic
import Derived.Test.YtmdnhinpaflamaaDoorBas
import Derived.Test.YtmdnhinpaflamaaDoorPaA
import Derived.BigQuiet
import Derived.Deep.RegionWith
namespace Go.Proofs.YtmdnhinpaflamaaDoor
open Go.RowKit
namespace Px
open LexM (Tok)
open PM (PS B Ex)
open Lx (toksC tokC)

end Px
end Go.Proofs.YtmdnhinpaflamaaDoor
namespace Go.Proofs.YtmdnhinpaflamaaDoor
open Go.RowKit
namespace PM
end PM
namespace Px
open PM (PS B Ex)

/-- thirteen cells, written out -/
structure Cells13 where
  kind : Int
  table : B
  name : B
  join : B
  a3 : Option Addr
  a4 : Option Addr
  a5 : Option Addr
  a6 : Option Addr
  a8 : Option Addr
  a9 : Option Addr
  a10 : Option Addr
  a12 : Option Addr
  l3 : Nat
  l4 : Nat
  l5 : Nat
  l6 : Nat
  l8 : Nat
  l9 : Nat
  l10 : Nat
  l12 : Nat
  c3 : Nat
  c4 : Nat
  c5 : Nat
  c6 : Nat
  c8 : Nat
  c9 : Nat
  c10 : Nat
  c12 : Nat
  desc : Bool
def Cells13.list (c : Cells13) : List Value := [.int .i64 c.kind, .string ⟨c.table.toArray⟩, .string ⟨c.name.toArray⟩, .slice c.a3 c.l3 c.c3, .slice c.a4 c.l4 c.c4, .slice c.a5 c.l5 c.c5, .slice c.a6 c.l6 c.c6, .string ⟨c.join.toArray⟩, .slice c.a8 c.l8 c.c8, .slice c.a9 c.l9 c.c9, .slice c.a10 c.l10 c.c10, .bool c.desc, .slice c.a12 c.l12 c.c12]
theorem sr_cells {A : Nat → Prop} {w : World} {x : PM.St} {cs : List Value} (h : SR A w x cs) : ∃ c : Cells13, cs = c.list := by
  obtain ⟨kind, table, name, join, a3, a4, a5, a6, a8, a9, a10, a12, l3, l4, l5, l6, l8, l9, l10, l12, c3, c4, c5, c6, c8, c9, c10, c12, desc, he, _⟩ := st_cells (b := 0) (e := .returned (.agg cs.toArray)) ⟨cs, rfl, SR.mono (A' := fun b => 0 ≤ b) (fun _ _ => Nat.zero_le _) h⟩
  refine ⟨⟨kind, table, name, join, a3, a4, a5, a6, a8, a9, a10, a12, l3, l4, l5, l6, l8, l9, l10, l12, c3, c4, c5, c6, c8, c9, c10, c12, desc⟩, ?_⟩
  simp only [Ending.returned.injEq, Value.agg.injEq] at he
  have := congrArg Array.toList he
  simpa [Cells13.list] using this
theorem slice_len {T : TypeId} {size : Nat} {w : World} {a : Option Addr} {l c n : Nat} {xs : List Value} (h : Row w T size (.slice a l c) n xs) : l = n := by
  rcases h.form with ⟨h1, h2, _⟩ | ⟨g, off, cap, h1, _⟩
  · cases h1; exact h2.symm
  · cases h1; rfl
theorem es_len {A : Nat → Prop} {w : World} {a : Option Addr} {l c : Nat} {xs : List Ex} (h : Rep.Es 41 A w xs (.slice a l c)) : l = xs.length := by
  cases h with
  | mk _ _ _ _ h2 _ => exact slice_len h2
end Px
end Go.Proofs.YtmdnhinpaflamaaDoor
namespace Go.Proofs.YtmdnhinpaflamaaDoor
open Go.RowKit
namespace Sm
open PM (Ex B)

/-- an expression's cells, written out -/
theorem e_cells {A : Nat → Prop} {w : World} {x : Ex} {cs : List Value} (h : Rep.E 41 A w x cs) : ∃ (op kind int : Int) (text table name : B) (args : List Ex) (a : Option Addr) (n c : Nat),
    x = .mk op kind int text table name args ∧ cs = [.int .i64 op, .int .i64 kind, .int .i64 int, .string ⟨text.toArray⟩, .string ⟨table.toArray⟩, .string ⟨name.toArray⟩, .slice a n c] ∧ Rep.Es 41 A w args (.slice a n c) := by
  cases h with
  | mk op kind int text table name args v h =>
    cases h with
    | mk _ _ xs hl hr hb =>
      rcases hr.form with ⟨rfl, h1, h2⟩ | ⟨g, off, cap, rfl, h1⟩
      · exact ⟨op, kind, int, text, table, name, args, none, 0, 0, rfl, rfl, .mk _ _ xs hl hr hb⟩
      · exact ⟨op, kind, int, text, table, name, args, _, _, _, rfl, rfl, .mk _ _ xs hl hr hb⟩
end Sm
end Go.Proofs.YtmdnhinpaflamaaDoor
namespace Go.Proofs.YtmdnhinpaflamaaDoor
open Go.RowKit
namespace Px
open PM (PS B Ex)

theorem ret2_cell7 {fn : Func} {n i : Nat} (h : fn.results = #[.cell n 41, .tmp i]) (tmps : Array Value) (T : Nat) (h2 : tmps.getD n undef = .pointer (some ⟨T, 0, none⟩)) (u : Value) (hu : tmps.getD i undef = u) (w : World) (a0 a1 a2 a3 a4 a5 a6 : Value) (hb : Blk w T 41 [a0, a1, a2, a3, a4, a5, a6]) :
    (results fn tmps).run Tryd.prog w = .ok (.tuple #[.agg #[a0, a1, a2, a3, a4, a5, a6], u]) w := by
  obtain ⟨c0, c1, c2, c3, c4, c5, c6, f0, f1, f2, f3, f4, f5, f6⟩ := c7_of hb
  have h2' : tmps[n]?.getD undef = .pointer (some ⟨T, 0, none⟩) := by simpa using h2
  have hu' : tmps[i]?.getD undef = u := by simpa using hu
  clear h2 hu
  simp [results, h, h2', hu', go_sem, c0, c1, c2, c3, c4, c5, c6]
end Px
end Go.Proofs.YtmdnhinpaflamaaDoor
