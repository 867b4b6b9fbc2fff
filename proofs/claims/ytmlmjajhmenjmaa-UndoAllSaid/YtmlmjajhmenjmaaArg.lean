/- A slice of integers that came in as an argument; each once, as a list. -/
import Derived.Test.YtmlmjajhmenjmaaBegun
namespace Go.Proofs.Ytmlmjajhmenjmaa
open Go.RowKit

/-- the elements of a slice of integers, wherever it lies -/
def Arg (k : IntKind) (w : World) (a : Option Addr) (l : List Int) : Prop :=
  ∀ j, j < l.length → ∃ b off, a = some ⟨b, off, none⟩ ∧ b < w.heap.size ∧ w.cell? ⟨b, off + j, none⟩ = some (.int k (l.getD j 0))

theorem Arg.keep {k : IntKind} {w w' : World} {a : Option Addr} {l : List Int} (h : Arg k w a l) (hf : Fr [] w w') : Arg k w' a l := fun j hj => by
  obtain ⟨b, off, e, hb, hc⟩ := h j hj
  exact ⟨b, off, e, Nat.lt_of_lt_of_le hb hf.size, (hf.cell (p := ⟨b, off + j, none⟩) hb (by simp)).trans hc⟩

/-- what the row's own reading of an argument gives -/
theorem arg_of {k : IntKind} {w : World} {x : Addr} {len cap : Nat} {zs : List Int} (hl : len ≤ cap) (hz : zs.length = cap)
    (hc : ∀ i, i < zs.length → w.cell? (x.add i) = some (.int k (zs.getD i 0))) : (zs.take len).length = len ∧ Arg k w (some x) (zs.take len) := by
  have hlen : (zs.take len).length = len := by simp; omega
  refine ⟨hlen, fun j hj => ?_⟩
  have h := hc j (by omega)
  have h0 := hc 0 (by omega)
  obtain ⟨b, off, spot⟩ := x
  have hspot : spot = none := by simpa [Addr.add] using World.cell?_spot h0
  subst hspot
  rw [Addr.add_lit] at h
  refine ⟨b, off, rfl, World.block_lt_of_cell? w _ h, ?_⟩
  rw [h]
  simp [List.getD_eq_getElem?_getD, List.getElem?_take_of_lt (show j < len by omega)]
end Go.Proofs.Ytmlmjajhmenjmaa
