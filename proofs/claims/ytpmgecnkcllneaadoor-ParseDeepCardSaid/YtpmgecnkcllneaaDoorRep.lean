/- Expressions as they lie in memory. Over any program; 'T': the number of the type api.Expr; 'A': in which blocks what they are of may lie. -/
import Derived.Test.YtpmgecnkcllneaaDoorMem
import Derived.Test.YtpmgecnkcllneaaDoorParseM
namespace Go.Proofs.YtpmgecnkcllneaaDoor
open Go.RowKit

namespace Rep
open PM (Ex B)

/-- bytes as a value -/
def str (b : B) : Value := .string ⟨b.toArray⟩

mutual
/-- an expression's seven cells; what it is of lies in blocks of A -/
inductive E (T : TypeId) (A : Nat → Prop) (w : World) : Ex → List Value → Prop
  | mk (op kind int : Int) (text table name : B) (args : List Ex) (v : Value) (h : Es T A w args v) :
    E T A w (.mk op kind int text table name args) [.int .i64 op, .int .i64 kind, .int .i64 int, str text, str table, str name, v]
/-- some, one behind another -/
inductive L (T : TypeId) (A : Nat → Prop) (w : World) : List Ex → List Value → Prop
  | nil : L T A w [] []
  | cons (e : Ex) (r : List Ex) (xs ys : List Value) (h : E T A w e xs) (k : L T A w r ys) : L T A w (e :: r) (xs ++ ys)
/-- a slice of expressions -/
inductive Es (T : TypeId) (A : Nat → Prop) (w : World) : List Ex → Value → Prop
  | mk (l : List Ex) (v : Value) (xs : List Value) (h : L T A w l xs) (k : Row w T 7 v l.length xs) (hb : ∀ g, v.ownBlock = some g → A g) : Es T A w l v
end

variable {T : TypeId} {A : Nat → Prop} {w w' : World}

mutual
theorem E.keep {X : List (Option Nat)} {e : Ex} {cs : List Value} (hf : Fr X w w') (hX : ∀ g, A g → some g ∉ X) : E T A w e cs → E T A w' e cs
  | .mk op kind int text table name args v h => .mk op kind int text table name args v (Es.keep hf hX h)
theorem L.keep {X : List (Option Nat)} {l : List Ex} {cs : List Value} (hf : Fr X w w') (hX : ∀ g, A g → some g ∉ X) : L T A w l cs → L T A w' l cs
  | .nil => .nil
  | .cons e r xs ys h k => .cons e r xs ys (E.keep hf hX h) (L.keep hf hX k)
theorem Es.keep {X : List (Option Nat)} {l : List Ex} {v : Value} (hf : Fr X w w') (hX : ∀ g, A g → some g ∉ X) : Es T A w l v → Es T A w' l v
  | .mk l v xs h k hb => .mk l v xs (L.keep hf hX h) (k.keep hf (fun g hg => hX g (hb g hg))) hb
end

mutual
theorem E.mono {A' : Nat → Prop} {e : Ex} {cs : List Value} (hA : ∀ g, A g → A' g) : E T A w e cs → E T A' w e cs
  | .mk op kind int text table name args v h => .mk op kind int text table name args v (Es.mono hA h)
theorem L.mono {A' : Nat → Prop} {l : List Ex} {cs : List Value} (hA : ∀ g, A g → A' g) : L T A w l cs → L T A' w l cs
  | .nil => .nil
  | .cons e r xs ys h k => .cons e r xs ys (E.mono hA h) (L.mono hA k)
theorem Es.mono {A' : Nat → Prop} {l : List Ex} {v : Value} (hA : ∀ g, A g → A' g) : Es T A w l v → Es T A' w l v
  | .mk l v xs h k hk => .mk l v xs (L.mono hA h) k (fun g hg => hA g (hk g hg))
end

mutual
/-- they lie there already -/
theorem E.live {e : Ex} {cs : List Value} : E T A w e cs → E T (fun g => A g ∧ g < w.heap.size) w e cs
  | .mk op kind int text table name args v h => .mk op kind int text table name args v (Es.live h)
theorem L.live {l : List Ex} {cs : List Value} : L T A w l cs → L T (fun g => A g ∧ g < w.heap.size) w l cs
  | .nil => .nil
  | .cons e r xs ys h k => .cons e r xs ys (E.live h) (L.live k)
theorem Es.live {l : List Ex} {v : Value} : Es T A w l v → Es T (fun g => A g ∧ g < w.heap.size) w l v
  | .mk l v xs h k hk => .mk l v xs (L.live h) k (fun g hg => ⟨hk g hg, k.block_lt hg⟩)
end

theorem E.length {e : Ex} {cs : List Value} (h : E T A w e cs) : cs.length = 7 := by cases h; rfl
theorem L.length {l : List Ex} {cs : List Value} : L T A w l cs → cs.length = l.length * 7
  | .nil => rfl
  | .cons e r xs ys h k => by rw [List.length_append, h.length, L.length k, List.length_cons]; omega
theorem L.snoc {l : List Ex} {xs : List Value} {e : Ex} {ys : List Value} (h : L T A w l xs) (k : E T A w e ys) : L T A w (l ++ [e]) (xs ++ ys) := by
  induction l generalizing xs with
  | nil =>
    cases h
    have := L.cons e [] ys [] k .nil
    rwa [List.append_nil] at this
  | cons d r ih =>
    cases h with
    | cons _ _ xs ys' h1 h2 =>
      rw [List.append_assoc, List.cons_append]
      exact .cons d _ xs _ h1 (ih h2)
theorem Es.nil : Es T A w [] (.slice none 0 0) := .mk [] _ [] .nil (Row.nil _ _ _) (fun g h => by simp [Value.ownBlock] at h)
/-- the k-th -/
theorem L.at {l : List Ex} {xs : List Value} (h : L T A w l xs) (k : Nat) (hk : k < l.length) : ∃ ys, E T A w l[k] ys ∧ ∀ i, i < 7 → xs[k * 7 + i]? = ys[i]? := by
  induction l generalizing xs k with
  | nil => simp at hk
  | cons d r ih =>
    cases h with
    | cons _ _ xs ys h1 h2 =>
      cases k with
      | zero => exact ⟨xs, h1, fun i hi => by rw [List.getElem?_append_left (by rw [h1.length]; omega)]; simp⟩
      | succ k =>
        obtain ⟨zs, g1, g2⟩ := ih h2 k (by simpa using hk)
        refine ⟨zs, g1, fun i hi => ?_⟩
        rw [List.getElem?_append_right (by rw [h1.length]; omega), h1.length, show (k + 1) * 7 + i - 7 = k * 7 + i by omega]
        exact g2 i hi
/-- the k-th one's cells, in memory -/
theorem Es.at {l : List Ex} {v : Value} (h : Es T A w l v) (k : Nat) (hk : k < l.length) : ∃ g off cap ys, v = .slice (some ⟨g, off, none⟩) l.length cap ∧ l.length ≤ cap ∧ A g ∧ E T A w l[k] ys ∧ ∀ i u, ys[i]? = some u → w.cell? ⟨g, off + k * 7 + i, none⟩ = some u := by
  cases h with
  | mk _ _ xs hl hr hb =>
    obtain ⟨ys, h1, h2⟩ := hl.at k hk
    rcases hr.form with ⟨_, h0, _⟩ | ⟨g, off, cap, rfl, hc, _⟩
    · omega
    · refine ⟨g, off, cap, ys, rfl, hc, hb g rfl, h1, fun i u hi => ?_⟩
      have hi7 : i < 7 := by have := (List.getElem?_eq_some_iff.1 hi).1; rw [h1.length] at this; exact this
      have hx := (h2 i hi7).trans hi
      have hlt := (List.getElem?_eq_some_iff.1 hx).1
      rw [Nat.add_assoc, hr.cells _ hlt, List.getD_eq_getElem?_getD, hx]
      rfl
end Rep
end Go.Proofs.YtpmgecnkcllneaaDoor
