/-
  No cell of these rows narrows 'for every input' (looked for: loops, veiled, ifaces, maps, wideKeys, modest, calm, conditions, laid).
  DERIVED. THE GIVEN ROWS OF THIS SEAT. 3 by the template 'for every input the law returns true; each argument reads behind the call as it read before'; 0 by the template 'total and deterministic' (their statements: YtmlmjajhmenjmaaTotals.lean).
  GIVEN WITH THE SEED: the statements are not yours to turn. If you find one false, say at which input.
  Laid BY PROGRAM, IN A SANDBOX (cutbox-rows.mjs): the forced cells as the released guide's own fill.sh prints them over the translation ec6d410a8531e05c… (all of the seat's roots in one cut). By AI agents, Wed Nov 11 2026. No macro, syntax, notation, axiom, sorry.
-/
import Derived.Test.YtmlmjajhmenjmaaChecked
import GoSem.Claim
import GoSem.ClaimJoined
import GoSem.ClaimMapViews
import Derived.JoinedTies
import Derived.KernelRfl
namespace Go.Proofs.Ytmlmjajhmenjmaa
/- THE CELL 'sum', in the pinned program and in every row, IS THE sha256 OF THE DUMP (.gsa) THAT YtmlmjajhmenjmaaProg.lean LOADS. Nothing in Lean hashes anything: it is a label: what it is worth is what the hold of that sum in a sandbox is worth. -/
noncomputable def Try.pinned : Pinned := { name := "ytmlmjajhmenjmaa", sum := "ec6d410a8531e05ceb0dd914c175cdd56dc80d89f15f97242da18a3d667e3034", checked := Try.checked }
namespace Rows
def none {H : Type} : Left H := { results := [], args := [] }

/-- 'quarantinelaw18.UndoOnce': WHATEVER THE INPUT: true; the input reads as it did. -/
def undoOnceSpec : ChangeSpec := { name := "undoOnce", fn := fun _ => fun
  | [d] => { results := [.lit (.bool true)], args := [d] }
  | _ => none }
def undoOnceRow : OpenClaim := { program := "ytmlmjajhmenjmaa", sum := "ec6d410a8531e05ceb0dd914c175cdd56dc80d89f15f97242da18a3d667e3034", func := "quarantine/quarantinelaw18.UndoOnce", spec := "undoOnce", apart := false }
def UndoOnceSaid : Prop := undoOnceRow.holds Try.pinned (OpenSpec.ofChange undoOnceSpec)

/-- ITS FALSE NEIGHBOUR: 'it returns false'. Refute it at one input. -/
def undoOnceWrong : ChangeSpec := { name := "undoOnce", fn := fun _ => fun
  | [d] => { results := [.lit (.bool false)], args := [d] }
  | _ => none }
def UndoOnceWrongFalsely : Prop := undoOnceRow.holds Try.pinned (OpenSpec.ofChange undoOnceWrong)

/-- 'quarantinelaw18.UndoAll': WHATEVER THE INPUT: true; the input reads as it did. -/
def undoAllSpec : ChangeSpec := { name := "undoAll", fn := fun _ => fun
  | [d] => { results := [.lit (.bool true)], args := [d] }
  | _ => none }
def undoAllRow : OpenClaim := { program := "ytmlmjajhmenjmaa", sum := "ec6d410a8531e05ceb0dd914c175cdd56dc80d89f15f97242da18a3d667e3034", func := "quarantine/quarantinelaw18.UndoAll", spec := "undoAll", apart := false }
def UndoAllSaid : Prop := undoAllRow.holds Try.pinned (OpenSpec.ofChange undoAllSpec)

/-- ITS FALSE NEIGHBOUR: 'it returns false'. Refute it at one input. -/
def undoAllWrong : ChangeSpec := { name := "undoAll", fn := fun _ => fun
  | [d] => { results := [.lit (.bool false)], args := [d] }
  | _ => none }
def UndoAllWrongFalsely : Prop := undoAllRow.holds Try.pinned (OpenSpec.ofChange undoAllWrong)

/-- 'quarantinelaw18.UndoPairs': WHATEVER THE INPUT: true; the input reads as it did. -/
def undoPairsSpec : ChangeSpec := { name := "undoPairs", fn := fun _ => fun
  | [d1, d2] => { results := [.lit (.bool true)], args := [d1, d2] }
  | _ => none }
def undoPairsRow : OpenClaim := { program := "ytmlmjajhmenjmaa", sum := "ec6d410a8531e05ceb0dd914c175cdd56dc80d89f15f97242da18a3d667e3034", func := "quarantine/quarantinelaw18.UndoPairs", spec := "undoPairs", apart := false }
def UndoPairsSaid : Prop := undoPairsRow.holds Try.pinned (OpenSpec.ofChange undoPairsSpec)

/-- ITS FALSE NEIGHBOUR: 'it returns false'. Refute it at one input. -/
def undoPairsWrong : ChangeSpec := { name := "undoPairs", fn := fun _ => fun
  | [d1, d2] => { results := [.lit (.bool false)], args := [d1, d2] }
  | _ => none }
def UndoPairsWrongFalsely : Prop := undoPairsRow.holds Try.pinned (OpenSpec.ofChange undoPairsWrong)

/- THE SECOND FORM. 'bulk': how many values and letters a reading holds, each counted each time it is reached (what is shared counts as often as it is met; a slice's spare places count too). A statement '..UptoSaid' is the law's where the arguments, and the package variables that the reading takes, are together of bulk at most 1048576: NARROWER than '..Said'. Prove '..Said' where nothing that the law and all that it calls make is longer than what came in: it says more and counts as full. Else prove '..UptoSaid'. A law counts once. -/
mutual
def uptoBulk {H : Type} : DataW H → Nat
  | .lit (.string bytes) => bytes.length + 1
  | .lit _ => 1
  | .nil => 1
  | .ptr d => uptoBulk d + 1
  | .slice elems spare => uptoBulkAll elems + uptoBulkAll spare + 1
  | .agg parts => uptoBulkAll parts + 1
  | .iface _ d => uptoBulk d + 1
  | .map entries => uptoBulkEntries entries + 1
  | .held _ => 1
def uptoBulkAll {H : Type} : List (DataW H) → Nat
  | [] => 0
  | d :: r => uptoBulk d + uptoBulkAll r
def uptoBulkEntries {H : Type} : List (Lit × DataW H) → Nat
  | [] => 0
  | x :: r => uptoBulkEntry x + uptoBulkEntries r
def uptoBulkEntry {H : Type} : Lit × DataW H → Nat
  | (.string bytes, d) => bytes.length + uptoBulk d + 1
  | (_, d) => uptoBulk d + 1
 end
def uptoSmall : (H : Type) → List (DataW H) → Bool := fun _ ds => decide (uptoBulkAll ds ≤ 1048576)
def OpenSpec.upto (s : _root_.Go.ChangeSpec) : _root_.Go.OpenSpec := { _root_.Go.OpenSpec.ofChange s with cond := some uptoSmall }

/-- 'quarantinelaw18.UndoOnce', WHERE WHAT IT READS IS OF BULK AT MOST 1048576: true; the input reads as it did. -/
def undoOnceUptoRow : OpenClaim := { program := "ytmlmjajhmenjmaa", sum := "ec6d410a8531e05ceb0dd914c175cdd56dc80d89f15f97242da18a3d667e3034", func := "quarantine/quarantinelaw18.UndoOnce", spec := "undoOnce", apart := false, narrowed := true }
def UndoOnceUptoSaid : Prop := undoOnceUptoRow.holds Try.pinned (OpenSpec.upto undoOnceSpec)

/-- 'quarantinelaw18.UndoAll', WHERE WHAT IT READS IS OF BULK AT MOST 1048576: true; the input reads as it did. -/
def undoAllUptoRow : OpenClaim := { program := "ytmlmjajhmenjmaa", sum := "ec6d410a8531e05ceb0dd914c175cdd56dc80d89f15f97242da18a3d667e3034", func := "quarantine/quarantinelaw18.UndoAll", spec := "undoAll", apart := false, narrowed := true }
def UndoAllUptoSaid : Prop := undoAllUptoRow.holds Try.pinned (OpenSpec.upto undoAllSpec)

/-- 'quarantinelaw18.UndoPairs', WHERE WHAT IT READS IS OF BULK AT MOST 1048576: true; the input reads as it did. -/
def undoPairsUptoRow : OpenClaim := { program := "ytmlmjajhmenjmaa", sum := "ec6d410a8531e05ceb0dd914c175cdd56dc80d89f15f97242da18a3d667e3034", func := "quarantine/quarantinelaw18.UndoPairs", spec := "undoPairs", apart := false, narrowed := true }
def UndoPairsUptoSaid : Prop := undoPairsUptoRow.holds Try.pinned (OpenSpec.upto undoPairsSpec)

end Rows
end Go.Proofs.Ytmlmjajhmenjmaa
