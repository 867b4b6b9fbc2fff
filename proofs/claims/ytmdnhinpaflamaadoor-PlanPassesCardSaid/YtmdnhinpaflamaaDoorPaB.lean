/- parse: and, expr, sum, term. -/
import Derived.Test.YtmdnhinpaflamaaDoorPaA
namespace Go.Proofs.YtmdnhinpaflamaaDoor
open Go.RowKit
namespace Px
open PM (PS B Ex)

end Px
end Go.Proofs.YtmdnhinpaflamaaDoor
namespace Go.Proofs.YtmdnhinpaflamaaDoor
open Go.RowKit
namespace Px
open PM (PS B Ex)

end Px
end Go.Proofs.YtmdnhinpaflamaaDoor
namespace Go.Proofs.YtmdnhinpaflamaaDoor
open Go.RowKit
namespace Px
open PM (PS B Ex)


end Px
end Go.Proofs.YtmdnhinpaflamaaDoor
namespace Go.Proofs.YtmdnhinpaflamaaDoor
open Go.RowKit
namespace Px
open PM (PS B Ex)


end Px
end Go.Proofs.YtmdnhinpaflamaaDoor
namespace Go.Proofs.YtmdnhinpaflamaaDoor
open Go.RowKit
namespace Px
open PM (PS B Ex)

/-- how things of a kind lie in memory: their cells; A: in which blocks what they are of may lie -/
structure Kd (α : Type) where
  size : Nat
  E : (Nat → Prop) → World → α → List Value → Prop
  keep : ∀ {A : Nat → Prop} {X : List (Option Nat)} {w w' : World} {x : α} {cs : List Value}, Fr X w w' → (∀ g, A g → some g ∉ X) → E A w x cs → E A w' x cs
  mono : ∀ {A A' : Nat → Prop} {w : World} {x : α} {cs : List Value}, (∀ g, A g → A' g) → E A w x cs → E A' w x cs
  live : ∀ {A : Nat → Prop} {w : World} {x : α} {cs : List Value}, E A w x cs → E (fun g => A g ∧ g < w.heap.size) w x cs
  len : ∀ {A : Nat → Prop} {w : World} {x : α} {cs : List Value}, E A w x cs → cs.length = size
  one : ∀ {A : Nat → Prop} {w : World} {x : α} {cs : List Value}, E A w x cs → ∀ u ∈ cs, u.oneCell' = true

variable {α : Type} {K : Kd α} {A : Nat → Prop} {w w' : World}
inductive RL (K : Kd α) (A : Nat → Prop) (w : World) : List α → List Value → Prop
  | nil : RL K A w [] []
  | snoc (l : List α) (e : α) (xs ys : List Value) (h : RL K A w l xs) (k : K.E A w e ys) : RL K A w (l ++ [e]) (xs ++ ys)
theorem RL.keep {X : List (Option Nat)} {l : List α} {cs : List Value} (hf : Fr X w w') (hX : ∀ g, A g → some g ∉ X) (h : RL K A w l cs) : RL K A w' l cs := by
  induction h with
  | nil => exact .nil
  | snoc l e xs ys _ k ih => exact .snoc l e xs ys ih (K.keep hf hX k)
theorem RL.mono {A' : Nat → Prop} {l : List α} {cs : List Value} (hA : ∀ g, A g → A' g) (h : RL K A w l cs) : RL K A' w l cs := by
  induction h with
  | nil => exact .nil
  | snoc l e xs ys _ k ih => exact .snoc l e xs ys ih (K.mono hA k)
theorem RL.live {l : List α} {cs : List Value} (h : RL K A w l cs) : RL K (fun g => A g ∧ g < w.heap.size) w l cs := by
  induction h with
  | nil => exact .nil
  | snoc l e xs ys _ k ih => exact .snoc l e xs ys ih (K.live k)
/-- a list that is returned: it lies in blocks from b on -/
def LsR (K : Kd α) (T : TypeId) (b : Nat) (w : World) (v : Value) (l : List α) : Prop :=
  ∃ cs, RL K (fun g => b ≤ g) w l cs ∧ Row w T K.size v l.length cs ∧ ∀ g, v.ownBlock = some g → b ≤ g
/-- expressions -/
def kEx : Kd Ex where
  size := 7
  E := Rep.E 41
  keep := fun h1 h2 h3 => Rep.E.keep h1 h2 h3
  mono := fun h1 h2 => Rep.E.mono h1 h2
  live := fun h => Rep.E.live h
  len := fun h => h.length
  one := fun h => by
    cases h with
    | mk op kind int t tb n args v hv =>
      cases hv with
      | mk _ _ xs h1 h2 h3 =>
        rcases h2.form with ⟨rfl, _, _⟩ | ⟨g, off, cap, rfl, _, _⟩
        · simp [Rep.str, Value.oneCell']
        · simp [Rep.str, Value.oneCell']
/-- things without a part of their own in memory -/
def kFlat (cells : α → List Value) (size : Nat) (hl : ∀ x, (cells x).length = size) (h1 : ∀ x, ∀ u ∈ cells x, u.oneCell' = true) : Kd α where
  size := size
  E := fun _ _ x cs => cs = cells x
  keep := fun _ _ h => h
  mono := fun _ h => h
  live := fun h => h
  len := fun h => by subst h; exact hl _
  one := fun h => by subst h; exact h1 _
def colC (c : PM.Col) : List Value := [.string ⟨c.name.toArray⟩, .int .i64 c.kind, .string ⟨c.ref.toArray⟩]
def itC (i : PM.It) : List Value := [.int .i64 i.agg, .string ⟨i.table.toArray⟩, .string ⟨i.name.toArray⟩]
def u16C (n : Int) : List Value := [.int .u16 n]
def kIt : Kd PM.It := kFlat itC 3 (fun _ => rfl) (fun _ => by simp [itC, Value.oneCell'])
def kTag : Kd Int := kFlat u16C 1 (fun _ => rfl) (fun _ => by simp [u16C, Value.oneCell'])
theorem flat_list {cells : α → List Value} {size : Nat} {hl : ∀ x, (cells x).length = size} {h1 : ∀ x, ∀ u ∈ cells x, u.oneCell' = true} {l : List α} {cs : List Value} (h : RL (kFlat cells size hl h1) A w l cs) : cs = l.flatMap cells := by
  induction h with
  | nil => rfl
  | snoc l e xs ys _ k ih => rw [List.flatMap_append, ih, show ys = cells e from k]; simp
theorem ex_list {l : List Ex} {cs : List Value} (h : RL kEx A w l cs) : Rep.L 41 A w l cs := by
  induction h with
  | nil => exact .nil
  | snoc l e xs ys _ k ih => exact ih.snoc k
theorem ex_es {b : Nat} {w : World} {v : Value} {l : List Ex} (h : LsR kEx 41 b w v l) : Rep.Es 41 (fun g => b ≤ g) w l v := by
  obtain ⟨cs, h1, h2, h3⟩ := h
  exact .mk l v cs (ex_list h1) h2 h3
end Px
end Go.Proofs.YtmdnhinpaflamaaDoor
namespace Go.Proofs.YtmdnhinpaflamaaDoor
open Go.RowKit
namespace Px
open PM (PS B Ex)

theorem lim96 {n b : Nat} (h : n ≤ 1000) (hb : b ≤ 96) : n + 1 ≤ maxLen ∧ (n + 1) * b ≤ 140737488355328 := by
  refine ⟨by unfold maxLen; omega, ?_⟩
  have : (n + 1) * b ≤ 1001 * 96 := Nat.mul_le_mul (by omega) hb
  omega

end Px
end Go.Proofs.YtmdnhinpaflamaaDoor
