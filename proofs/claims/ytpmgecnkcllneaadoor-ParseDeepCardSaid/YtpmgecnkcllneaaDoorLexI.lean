/- lex: begun. -/
import Derived.Test.YtpmgecnkcllneaaDoorLexH
namespace Go.Proofs.YtpmgecnkcllneaaDoor
open Go.RowKit

namespace Lx
open LexM (Tok)

/-- words that are there: where they lie -/
theorem toks_at {w : World} {v : Value} {l : List Tok} (h : Row w 67 4 v l.length (toksC l)) (hne : l ≠ []) :
    ∃ g off cap, v = .slice (some ⟨g, off, none⟩) l.length cap ∧ l.length ≤ cap ∧ ∀ j u, (toksC l)[j]? = some u → w.cell? ⟨g, off + j, none⟩ = some u := by
  rcases h.form with ⟨_, h0, _⟩ | ⟨g, off, cap, rfl, hc, _⟩
  · exact absurd (List.eq_nil_of_length_eq_zero h0) hne
  · refine ⟨g, off, cap, rfl, hc, fun j u hj => ?_⟩
    rw [h.cells j (List.getElem?_eq_some_iff.1 hj).1, List.getD_eq_getElem?_getD, hj]
    rfl

theorem lex_a : LexM.lex [97, 60, 61, 49] = .inr [⟨1, [97], 0, 0⟩, ⟨5, [60, 61], 0, 1⟩, ⟨3, [], 1, 3⟩, ⟨6, [], 0, 4⟩] := by rfl
theorem lex_b : LexM.lex [49, 97] = .inl (1, 4) := by rfl

end Lx
end Go.Proofs.YtpmgecnkcllneaaDoor
