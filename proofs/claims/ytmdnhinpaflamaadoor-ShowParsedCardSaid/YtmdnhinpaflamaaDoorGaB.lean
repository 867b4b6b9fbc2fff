/- What is made of numbers: values, literals, two of them. -/
import Derived.Test.YtmdnhinpaflamaaDoorGaA
import Derived.Test.YtmdnhinpaflamaaDoorPaF
import Derived.Test.YtmdnhinpaflamaaDoorPlC
namespace Go.Proofs.YtmdnhinpaflamaaDoor
open Go.RowKit
set_option linter.unusedVariables false
namespace Gn
open PM (Ex B)
open Px (z7 put7 frPut7 blkPut7 ret_cell7 c7_of)

theorem es_new {A : Nat → Prop} {w : World} {l : List Ex} {cs : List Value} (hL : Rep.L 41 A w l cs) (hn : A w.heap.size) (hm : l.length ≤ maxLen) :
    Rep.Es 41 A (w.alloc (.cells cs.toArray 41)) l (.slice (some ⟨w.heap.size, 0, none⟩) l.length l.length) := by
  have hlen := hL.length
  refine .mk l _ cs (Rep.L.keep ((Fr.refl [] w).alloc _) (fun g h => by simp) hL) ⟨hlen, .inr ⟨w.heap.size, 0, l.length, cs, rfl, Blk.new w _ cs, Nat.le_refl _, hm, by omega, ?_⟩⟩ (fun g hg => ?_)
  · rw [List.drop_zero, List.take_of_length_le (by omega)]
  · simp only [Value.ownBlock, Option.some.injEq] at hg
    subst hg
    exact hn
end Gn
end Go.Proofs.YtmdnhinpaflamaaDoor
