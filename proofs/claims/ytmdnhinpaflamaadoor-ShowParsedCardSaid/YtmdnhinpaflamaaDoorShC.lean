/- How the document shows tags, a where, expressions. -/
import Derived.Test.YtmdnhinpaflamaaDoorShB
import Derived.Test.YtmdnhinpaflamaaDoorGaE
import Derived.Test.YtmdnhinpaflamaaDoorShJ
namespace Go.Proofs.YtmdnhinpaflamaaDoor
open Go.RowKit
set_option linter.unusedVariables false
set_option linter.unusedSimpArgs false
namespace Sh
open PM (Ex B)
open CM (Pr Qs Wr Sel Im Co Cl)
open Gn (sh)
open Px (SR SS ItS TagS ColS)
theorem jn_len {α : Type} (f : α → B) : ∀ l : List α, 2 * l.length ≤ (jn f l).length + 2
  | [] => by simp
  | x :: r => by
    have key : ∀ r : List α, 2 * r.length ≤ (r.flatMap (fun y => 44 :: 32 :: f y)).length := fun r => by
      induction r with
      | nil => simp
      | cons y r ih => simp only [List.flatMap_cons, List.length_append, List.length_cons] at ih ⊢; omega
    have := key r
    simp only [jn, List.length_append, List.length_cons]
    omega
end Sh
end Go.Proofs.YtmdnhinpaflamaaDoor
