/- A list that grows, as it lies in memory. -/
import Derived.Test.YtmdnhinpaflamaaDoorPaF
import Derived.Test.YtmdnhinpaflamaaDoorGaA
namespace Go.Proofs.YtmdnhinpaflamaaDoor
open Go.RowKit
set_option linter.unusedVariables false
namespace Gn
open PM (Ex B)
open Px (Kd RL LsR kEx kIt kTag)

variable {α : Type} {K : Kd α} {T : TypeId} {w0 w w' w4 : World} {v v' : Value} {l : List α}
/-- a list in blocks from w0 on, what it is of beside its own -/
structure Gr (K : Kd α) (T : TypeId) (b0 : Nat) (w : World) (v : Value) (l : List α) : Prop where
  ex : ∃ cs, RL K (fun b => b0 ≤ b ∧ v.ownBlock ≠ some b) w l cs ∧ Row w T K.size v l.length cs
  own : ∀ b, v.ownBlock = some b → b0 ≤ b
variable {b0 : Nat}
theorem Gr.nil : Gr K T b0 w (.slice none 0 0) [] := ⟨⟨[], .nil, Row.nil _ _ _⟩, fun b h => by simp [Value.ownBlock] at h⟩
theorem Gr.keep {X : List (Option Nat)} (h : Gr K T b0 w v l) (hf : Fr X w w') (hX : ∀ g, b0 ≤ g → some g ∉ X) : Gr K T b0 w' v l := by
  obtain ⟨⟨cs, h1, h2⟩, h3⟩ := h
  exact ⟨⟨cs, RL.keep hf (fun g hg => hX g hg.1) h1, h2.keep hf (fun g hg => hX g (h3 g hg))⟩, h3⟩
theorem Gr.row (h : Gr K T b0 w v l) : ∃ cs, Row w T K.size v l.length cs := by obtain ⟨⟨cs, _, h⟩, _⟩ := h; exact ⟨cs, h⟩
theorem Gr.form (h : Gr K T b0 w v l) : ∃ a cap, v = .slice a l.length cap := by
  obtain ⟨cs, h⟩ := h.row
  rcases h.form with ⟨rfl, h0, _⟩ | ⟨g, off, cap, rfl, _, _⟩
  · exact ⟨none, 0, by rw [h0]⟩
  · exact ⟨_, _, rfl⟩
theorem Gr.done (h : Gr K T b0 w v l) : LsR K T b0 w v l := by
  obtain ⟨⟨cs, h1, h2⟩, h3⟩ := h
  exact ⟨cs, RL.mono (fun _ h => h.1) h1, h2, h3⟩
theorem Gr.live (h : Gr K T b0 w v l) : ∀ b, v.ownBlock = some b → b < w.heap.size := by
  obtain ⟨⟨cs, h1, h2⟩, h3⟩ := h
  exact fun b hb => h2.block_lt hb
/-- one more: x's cells have been laid into a block, and appended -/
theorem Gr.push {x : α} {cs ys : List Value} (hR : RL K (fun b => b0 ≤ b ∧ v.ownBlock ≠ some b) w l cs) (hrow : Row w T K.size v l.length cs) (hown : ∀ b, v.ownBlock = some b → b0 ≤ b)
    (hb : b0 ≤ w.heap.size) (hx : K.E (fun b => b0 ≤ b ∧ v.ownBlock ≠ some b) w x ys)
    (hrow' : Row w4 T K.size v' (l.length + 1) (cs ++ ys)) (hf4 : Fr [v.ownBlock] (w.alloc (.cells ys.toArray T)) w4) (hown' : v'.ownBlock = v.ownBlock ∨ ∃ k, w.heap.size + 1 ≤ k ∧ v'.ownBlock = some k) :
    Gr K T b0 w4 v' (l ++ [x]) ∧ (∀ {X : List (Option Nat)} {wz : World}, wz.heap.size ≤ b0 → Fr X wz w → Fr X wz w4) := by
  have hvl : ∀ b, v.ownBlock = some b → b < w.heap.size := fun b hb => hrow.block_lt hb
  have hv' : ∀ b, v'.ownBlock = some b → v.ownBlock = some b ∨ w.heap.size < b := by
    intro b hb
    rcases hown' with h | ⟨k, hk, h⟩
    · exact .inl (h ▸ hb)
    · rw [h] at hb
      simp at hb hk
      omega
  have hL : RL K (fun b => b0 ≤ b ∧ v.ownBlock ≠ some b) w (l ++ [x]) (cs ++ ys) := .snoc _ _ _ _ hR hx
  have h2 : RL K (fun b => b0 ≤ b ∧ v'.ownBlock ≠ some b) w4 (l ++ [x]) (cs ++ ys) := by
    refine RL.mono (fun b hb => ⟨hb.1.1, fun h => ?_⟩) (RL.keep (A := fun b => (b0 ≤ b ∧ v.ownBlock ≠ some b) ∧ b < w.heap.size) hf4 (fun b hb => by simp; exact fun h => hb.1.2 h.symm) (RL.keep ((Fr.refl [] w).alloc _) (fun b hb => by simp) hL.live))
    rcases hv' b h with h | h
    · exact hb.1.2 h
    · have := hb.2
      omega
  refine ⟨⟨⟨cs ++ ys, h2, by rw [List.length_append]; exact hrow'⟩, fun b hb => ?_⟩, fun hz hF => ?_⟩
  · rcases hv' b hb with h | h
    · exact hown b h
    · omega
  · refine (hF.alloc _).trans' hf4 (fun i hi => .inr ?_)
    simp at hi
    have := hown i hi.symm
    omega
theorem Gr.flat {cells : α → List Value} {size : Nat} {hl : ∀ x, (cells x).length = size} {h1 : ∀ x, ∀ u ∈ cells x, u.oneCell' = true} (h : Gr (Px.kFlat cells size hl h1) T b0 w v l) : Px.FlatS T cells size (fun g => b0 ≤ g) w v l := Px.flat_of h.done
end Gn
end Go.Proofs.YtmdnhinpaflamaaDoor
