/- Choices, beside other choices. -/
import Derived.Test.YtmdnhinpaflamaaDoorPnW
namespace Go.Proofs.YtmdnhinpaflamaaDoor
open Go.RowKit
set_option linter.unusedVariables false
set_option linter.unusedSimpArgs false
namespace Pn
open Gn (PK)
/-- choices stay where other ones are read -/
theorem pk_beside {C C' M M' : Nat} {w w' : World} {P P' : Nat} (h : PK C M w P) (h' : PK C' M' w P') (hne : P ≠ P') (hf : Fr [some P'] w w') : PK C M w' P := by
  obtain ⟨hl', hle', a', len', cap', n', h1', h2', h3', -⟩ := h'
  obtain ⟨hl, hle, a, len, cap, n, h1, h2, h3, h4⟩ := h
  refine ⟨hl, Nat.le_trans hle hf.size, a, len, cap, n, h1, h2, h3.keep hf (by simp; exact hne), fun j hj => ?_⟩
  obtain ⟨g, off, k, e, hg, hlt, hk, hc⟩ := h4 j hj
  refine ⟨g, off, k, e, hg, hlt, hk, (hf.cell (p := ⟨g, off + j, none⟩) (Nat.lt_of_lt_of_le hlt hle) ?_).trans hc⟩
  simp only [List.mem_singleton, Option.some.injEq]
  rintro rfl
  have h5 := h3'.cell (off + j)
  rw [hc] at h5
  rcases hx : off + j with _ | _ | m <;> rw [hx] at h5 <;> simp at h5
end Pn
end Go.Proofs.YtmdnhinpaflamaaDoor
