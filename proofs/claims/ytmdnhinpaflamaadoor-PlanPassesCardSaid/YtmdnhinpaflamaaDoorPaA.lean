/- Expressions as they lie in memory. Over any program; 'T': the number of the type api.Expr; 'A': in which blocks what they are of may lie. -/
import Derived.Test.YtmdnhinpaflamaaDoorBas
import Derived.Test.YtmdnhinpaflamaaDoorPlA
import Derived.Orders
import Derived.Tactics
import Derived.KernelRfl
import Derived.BigQuiet
import Derived.Test.YtmdnhinpaflamaaDoorLex
import Derived.Deep.RegionWith
import Derived.Carry
import Derived.MapKept
namespace Go.Proofs.YtmdnhinpaflamaaDoor
open Go.RowKit

namespace Rep
open PM (Ex B)

/-- bytes as a value -/
def str (b : B) : Value := .string ⟨b.toArray⟩

mutual
/-- an expression's seven cells; what it is of lies in blocks of A -/
inductive E (T : TypeId) (A : Nat → Prop) (w : World) : Ex → List Value → Prop
  | mk (op kind int : Int) (text table name : B) (args : List Ex) (v : Value) (h : Es T A w args v) :
    E T A w (.mk op kind int text table name args) [.int .i64 op, .int .i64 kind, .int .i64 int, str text, str table, str name, v]
/-- some, one behind another -/
inductive L (T : TypeId) (A : Nat → Prop) (w : World) : List Ex → List Value → Prop
  | nil : L T A w [] []
  | cons (e : Ex) (r : List Ex) (xs ys : List Value) (h : E T A w e xs) (k : L T A w r ys) : L T A w (e :: r) (xs ++ ys)
/-- a slice of expressions -/
inductive Es (T : TypeId) (A : Nat → Prop) (w : World) : List Ex → Value → Prop
  | mk (l : List Ex) (v : Value) (xs : List Value) (h : L T A w l xs) (k : Row w T 7 v l.length xs) (hb : ∀ g, v.ownBlock = some g → A g) : Es T A w l v
end

variable {T : TypeId} {A : Nat → Prop} {w w' : World}

mutual
theorem E.keep {X : List (Option Nat)} {e : Ex} {cs : List Value} (hf : Fr X w w') (hX : ∀ g, A g → some g ∉ X) : E T A w e cs → E T A w' e cs
  | .mk op kind int text table name args v h => .mk op kind int text table name args v (Es.keep hf hX h)
theorem L.keep {X : List (Option Nat)} {l : List Ex} {cs : List Value} (hf : Fr X w w') (hX : ∀ g, A g → some g ∉ X) : L T A w l cs → L T A w' l cs
  | .nil => .nil
  | .cons e r xs ys h k => .cons e r xs ys (E.keep hf hX h) (L.keep hf hX k)
theorem Es.keep {X : List (Option Nat)} {l : List Ex} {v : Value} (hf : Fr X w w') (hX : ∀ g, A g → some g ∉ X) : Es T A w l v → Es T A w' l v
  | .mk l v xs h k hb => .mk l v xs (L.keep hf hX h) (k.keep hf (fun g hg => hX g (hb g hg))) hb
end

mutual
theorem E.mono {A' : Nat → Prop} {e : Ex} {cs : List Value} (hA : ∀ g, A g → A' g) : E T A w e cs → E T A' w e cs
  | .mk op kind int text table name args v h => .mk op kind int text table name args v (Es.mono hA h)
theorem L.mono {A' : Nat → Prop} {l : List Ex} {cs : List Value} (hA : ∀ g, A g → A' g) : L T A w l cs → L T A' w l cs
  | .nil => .nil
  | .cons e r xs ys h k => .cons e r xs ys (E.mono hA h) (L.mono hA k)
theorem Es.mono {A' : Nat → Prop} {l : List Ex} {v : Value} (hA : ∀ g, A g → A' g) : Es T A w l v → Es T A' w l v
  | .mk l v xs h k hk => .mk l v xs (L.mono hA h) k (fun g hg => hA g (hk g hg))
end

mutual
/-- they lie there already -/
theorem E.live {e : Ex} {cs : List Value} : E T A w e cs → E T (fun g => A g ∧ g < w.heap.size) w e cs
  | .mk op kind int text table name args v h => .mk op kind int text table name args v (Es.live h)
theorem L.live {l : List Ex} {cs : List Value} : L T A w l cs → L T (fun g => A g ∧ g < w.heap.size) w l cs
  | .nil => .nil
  | .cons e r xs ys h k => .cons e r xs ys (E.live h) (L.live k)
theorem Es.live {l : List Ex} {v : Value} : Es T A w l v → Es T (fun g => A g ∧ g < w.heap.size) w l v
  | .mk l v xs h k hk => .mk l v xs (L.live h) k (fun g hg => ⟨hk g hg, k.block_lt hg⟩)
end

theorem E.length {e : Ex} {cs : List Value} (h : E T A w e cs) : cs.length = 7 := by cases h; rfl
theorem L.length {l : List Ex} {cs : List Value} : L T A w l cs → cs.length = l.length * 7
  | .nil => rfl
  | .cons e r xs ys h k => by rw [List.length_append, h.length, L.length k, List.length_cons]; omega
theorem L.snoc {l : List Ex} {xs : List Value} {e : Ex} {ys : List Value} (h : L T A w l xs) (k : E T A w e ys) : L T A w (l ++ [e]) (xs ++ ys) := by
  induction l generalizing xs with
  | nil =>
    cases h
    have := L.cons e [] ys [] k .nil
    rwa [List.append_nil] at this
  | cons d r ih =>
    cases h with
    | cons _ _ xs ys' h1 h2 =>
      rw [List.append_assoc, List.cons_append]
      exact .cons d _ xs _ h1 (ih h2)
theorem Es.nil : Es T A w [] (.slice none 0 0) := .mk [] _ [] .nil (Row.nil _ _ _) (fun g h => by simp [Value.ownBlock] at h)
/-- the k-th -/
theorem L.at {l : List Ex} {xs : List Value} (h : L T A w l xs) (k : Nat) (hk : k < l.length) : ∃ ys, E T A w l[k] ys ∧ ∀ i, i < 7 → xs[k * 7 + i]? = ys[i]? := by
  induction l generalizing xs k with
  | nil => simp at hk
  | cons d r ih =>
    cases h with
    | cons _ _ xs ys h1 h2 =>
      cases k with
      | zero => exact ⟨xs, h1, fun i hi => by rw [List.getElem?_append_left (by rw [h1.length]; omega)]; simp⟩
      | succ k =>
        obtain ⟨zs, g1, g2⟩ := ih h2 k (by simpa using hk)
        refine ⟨zs, g1, fun i hi => ?_⟩
        rw [List.getElem?_append_right (by rw [h1.length]; omega), h1.length, show (k + 1) * 7 + i - 7 = k * 7 + i by omega]
        exact g2 i hi
/-- the k-th one's cells, in memory -/
theorem Es.at {l : List Ex} {v : Value} (h : Es T A w l v) (k : Nat) (hk : k < l.length) : ∃ g off cap ys, v = .slice (some ⟨g, off, none⟩) l.length cap ∧ l.length ≤ cap ∧ A g ∧ E T A w l[k] ys ∧ ∀ i u, ys[i]? = some u → w.cell? ⟨g, off + k * 7 + i, none⟩ = some u := by
  cases h with
  | mk _ _ xs hl hr hb =>
    obtain ⟨ys, h1, h2⟩ := hl.at k hk
    rcases hr.form with ⟨_, h0, _⟩ | ⟨g, off, cap, rfl, hc, _⟩
    · omega
    · refine ⟨g, off, cap, ys, rfl, hc, hb g rfl, h1, fun i u hi => ?_⟩
      have hi7 : i < 7 := by have := (List.getElem?_eq_some_iff.1 hi).1; rw [h1.length] at this; exact this
      have hx := (h2 i hi7).trans hi
      have hlt := (List.getElem?_eq_some_iff.1 hx).1
      rw [Nat.add_assoc, hr.cells _ hlt, List.getD_eq_getElem?_getD, hx]
      rfl
end Rep
end Go.Proofs.YtmdnhinpaflamaaDoor
namespace Go.Proofs.YtmdnhinpaflamaaDoor.Seq
open Go

section
variable {P : Program} {ops : Array Oper} {Inv : World → Prop} {Q : Exit → Act → World → Prop}

section
variable {held : Nat → Bool} {k : Nat} {o : Oper} {l : List Oper} {a : Act} {w : World}
end
end
end Go.Proofs.YtmdnhinpaflamaaDoor.Seq
namespace Go.Proofs.YtmdnhinpaflamaaDoor.Seq
open Go

section
variable {P : Program} {ops : Array Oper} {Inv : World → Prop} {Q : Exit → Act → World → Prop} {held : Nat → Bool} {k : Nat} {o : Oper} {l : List Oper} {a : Act} {w : World}

end
end Go.Proofs.YtmdnhinpaflamaaDoor.Seq
namespace Go.Proofs.YtmdnhinpaflamaaDoor
open Go.RowKit

namespace Px
open LexM (Tok)
open PM (PS B)
open Lx (toksC tokC)

theorem frSet {w : World} {P i : Nat} (v : Value) : Fr [some P] w (w.setCell ⟨P, i, none⟩ v) := (Fr.refl [some P] w).setCell (p := ⟨P, i, none⟩) (.inl (by simp)) v
end Px
end Go.Proofs.YtmdnhinpaflamaaDoor
namespace Go.Proofs.YtmdnhinpaflamaaDoor
open Go.RowKit

namespace Px
open LexM (Tok)
open PM (PS B)
open Lx (toksC tokC)

end Px
end Go.Proofs.YtmdnhinpaflamaaDoor
namespace Go.Proofs.YtmdnhinpaflamaaDoor
open Go.RowKit

namespace Px
open LexM (Tok)
open PM (PS B)
open Lx (toksC tokC)

theorem ret_cell4 {fn : Func} {n : Nat} (h : fn.results = #[.cell n 120]) (tmps : Array Value) (T : Nat) (h2 : tmps.getD n undef = .pointer (some ⟨T, 0, none⟩)) (w : World) (a b c d : Value) (hb : Blk w T 120 [a, b, c, d]) :
    (results fn tmps).run Tryd.prog w = .ok (.agg #[a, b, c, d]) w := by
  have c0 := hb.cell 0
  have c1 := hb.cell 1
  have c2 := hb.cell 2
  have c3 := hb.cell 3
  simp only [List.getElem?_cons_zero, List.getElem?_cons_succ] at c0 c1 c2 c3
  have h2' : tmps[n]?.getD undef = .pointer (some ⟨T, 0, none⟩) := by simpa using h2
  simp [results, h, h2', go_sem, c0, c1, c2, c3]

end Px
end Go.Proofs.YtmdnhinpaflamaaDoor
namespace Go.Proofs.YtmdnhinpaflamaaDoor
open Go.RowKit

namespace Px
open LexM (Tok)
open PM (PS B Ex)
open Lx (toksC tokC)

/-- an expression that is returned -/
def ExR (b : Nat) (w : World) (e : Ending) (x : Ex) : Prop := ∃ cs, e = .returned (.agg cs.toArray) ∧ Rep.E 41 (fun g => b ≤ g) w x cs
def z7 : List Value := [.int .i64 0, .int .i64 0, .int .i64 0, .string ⟨#[]⟩, .string ⟨#[]⟩, .string ⟨#[]⟩, .slice none 0 0]
theorem ret_cell7 {fn : Func} {n : Nat} (h : fn.results = #[.cell n 41]) (tmps : Array Value) (T : Nat) (h2 : tmps.getD n undef = .pointer (some ⟨T, 0, none⟩)) (w : World) (a b c d e f g : Value) (hb : Blk w T 41 [a, b, c, d, e, f, g]) :
    (results fn tmps).run Tryd.prog w = .ok (.agg #[a, b, c, d, e, f, g]) w := by
  have c0 := hb.cell 0
  have c1 := hb.cell 1
  have c2 := hb.cell 2
  have c3 := hb.cell 3
  have c4 := hb.cell 4
  have c5 := hb.cell 5
  have c6 := hb.cell 6
  simp only [List.getElem?_cons_zero, List.getElem?_cons_succ] at c0 c1 c2 c3 c4 c5 c6
  have h2' : tmps[n]?.getD undef = .pointer (some ⟨T, 0, none⟩) := by simpa using h2
  simp [results, h, h2', go_sem, c0, c1, c2, c3, c4, c5, c6]

def put7 (w : World) (T : Nat) (a b c d e f g : Value) : World := ((((((w.setCell ⟨T, 0, none⟩ a).setCell ⟨T, 1, none⟩ b).setCell ⟨T, 2, none⟩ c).setCell ⟨T, 3, none⟩ d).setCell ⟨T, 4, none⟩ e).setCell ⟨T, 5, none⟩ f).setCell ⟨T, 6, none⟩ g
theorem frPut7 {X : List (Option Nat)} {z w : World} {T : Nat} (h : Fr X z w) (hT : some T ∈ X ∨ z.heap.size ≤ T) (a b c d e f g : Value) : Fr X z (put7 w T a b c d e f g) :=
  ((((((h.setCell (p := ⟨T, 0, none⟩) hT a).setCell (p := ⟨T, 1, none⟩) hT b).setCell (p := ⟨T, 2, none⟩) hT c).setCell (p := ⟨T, 3, none⟩) hT d).setCell (p := ⟨T, 4, none⟩) hT e).setCell (p := ⟨T, 5, none⟩) hT f).setCell (p := ⟨T, 6, none⟩) hT g
theorem blkPut7 {w : World} {T : Nat} {l : List Value} (h : Blk w T 41 l) (hl : l.length = 7) (a b c d e f g : Value) : Blk (put7 w T a b c d e f g) T 41 [a, b, c, d, e, f, g] := by
  obtain ⟨x0, x1, x2, x3, x4, x5, x6, rfl⟩ : ∃ x0 x1 x2 x3 x4 x5 x6, l = [x0, x1, x2, x3, x4, x5, x6] := by
    rcases l with _ | ⟨x0, _ | ⟨x1, _ | ⟨x2, _ | ⟨x3, _ | ⟨x4, _ | ⟨x5, _ | ⟨x6, _ | _⟩⟩⟩⟩⟩⟩⟩ <;> simp at hl
    exact ⟨x0, x1, x2, x3, x4, x5, x6, rfl⟩
  exact ((((((h.set 0 a).set 1 b).set 2 c).set 3 d).set 4 e).set 5 f).set 6 g
/-- what a walk is told of seven cells -/
structure C7 (w : World) (T : Nat) (a b c d e f g : Value) : Prop where
  c0 : w.cell? ⟨T, 0, none⟩ = some a
  c1 : w.cell? ⟨T, 1, none⟩ = some b
  c2 : w.cell? ⟨T, 2, none⟩ = some c
  c3 : w.cell? ⟨T, 3, none⟩ = some d
  c4 : w.cell? ⟨T, 4, none⟩ = some e
  c5 : w.cell? ⟨T, 5, none⟩ = some f
  c6 : w.cell? ⟨T, 6, none⟩ = some g
  f0 : w.frozen? ⟨T, 0, none⟩ = false
  f1 : w.frozen? ⟨T, 1, none⟩ = false
  f2 : w.frozen? ⟨T, 2, none⟩ = false
  f3 : w.frozen? ⟨T, 3, none⟩ = false
  f4 : w.frozen? ⟨T, 4, none⟩ = false
  f5 : w.frozen? ⟨T, 5, none⟩ = false
  f6 : w.frozen? ⟨T, 6, none⟩ = false
theorem c7_of {w : World} {T : Nat} {a b c d e f g : Value} (h : Blk w T 41 [a, b, c, d, e, f, g]) : C7 w T a b c d e f g :=
  ⟨h.cell 0, h.cell 1, h.cell 2, h.cell 3, h.cell 4, h.cell 5, h.cell 6, h.free 0, h.free 1, h.free 2, h.free 3, h.free 4, h.free 5, h.free 6⟩

/-- the column's cells: a block known whole -/
def colCells (t n : B) : List Value := [.int .i64 2, .int .i64 0, .int .i64 0, .string ⟨#[]⟩, .string ⟨t.toArray⟩, .string ⟨n.toArray⟩, .slice none 0 0]
theorem col_rep (A : Nat → Prop) (w : World) (t n : B) : Rep.E 41 A w (PM.colEx t n) (colCells t n) := .mk 2 0 0 [] t n [] _ Rep.Es.nil

end Px
end Go.Proofs.YtmdnhinpaflamaaDoor
namespace Go.Proofs.YtmdnhinpaflamaaDoor
open Go.RowKit

namespace Px
open LexM (Tok)
open PM (PS B Ex)

/-- an expression's seven cells, written out -/
theorem ex_cells {b : Nat} {w : World} {e : Ending} {x : Ex} (h : ExR b w e x) : ∃ (op kind int : Int) (t tb n : B) (a : Option Addr) (len cap : Nat), e = .returned (.agg #[.int .i64 op, .int .i64 kind, .int .i64 int, .string ⟨t.toArray⟩, .string ⟨tb.toArray⟩, .string ⟨n.toArray⟩, .slice a len cap]) ∧
    Rep.E 41 (fun g => b ≤ g) w x [.int .i64 op, .int .i64 kind, .int .i64 int, .string ⟨t.toArray⟩, .string ⟨tb.toArray⟩, .string ⟨n.toArray⟩, .slice a len cap] := by
  obtain ⟨cs, rfl, hr⟩ := h
  have hr' := hr
  cases hr with
  | mk op kind int t tb n args v hv =>
    obtain ⟨a, len, cap, rfl⟩ : ∃ a len cap, v = .slice a len cap := by
      cases hv with
      | mk _ _ xs h1 h2 h3 =>
        rcases h2.form with ⟨rfl, _, _⟩ | ⟨g, off, cap, rfl, _, _⟩
        · exact ⟨_, _, _, rfl⟩
        · exact ⟨_, _, _, rfl⟩
    exact ⟨op, kind, int, t, tb, n, a, len, cap, rfl, hr'⟩

end Px
end Go.Proofs.YtmdnhinpaflamaaDoor
namespace Go.Proofs.YtmdnhinpaflamaaDoor
open Go.RowKit

namespace Px
open LexM (Tok)
open PM (PS B Ex)

end Px
end Go.Proofs.YtmdnhinpaflamaaDoor
namespace Go.Proofs.YtmdnhinpaflamaaDoor

namespace PM
end PM
end Go.Proofs.YtmdnhinpaflamaaDoor
namespace Go.Proofs.YtmdnhinpaflamaaDoor
open Go.RowKit
namespace Px
open PM (PS B Ex)

end Px
end Go.Proofs.YtmdnhinpaflamaaDoor
