/- parse: what a walk through a reader of statements carries along; statements in memory. -/
import Derived.Test.YtmdnhinpaflamaaDoorPaB
namespace Go.Proofs.YtmdnhinpaflamaaDoor
open Go.RowKit
namespace Px
open PM (PS B Ex)

section
variable {w0 w w' : World} {P g b i : Nat} {s s' : PS} {v : Value} {T : TypeId} {cs : List Value}
end

/-- things without a part of their own, in a slice -/
def FlatS {α : Type} (T : TypeId) (cells : α → List Value) (size : Nat) (A : Nat → Prop) (w : World) (v : Value) (l : List α) : Prop :=
  Row w T size v l.length (l.flatMap cells) ∧ ∀ g, v.ownBlock = some g → A g
namespace FlatS
variable {α : Type} {T : TypeId} {cells : α → List Value} {size : Nat} {A A' : Nat → Prop} {w w' : World} {v : Value} {l : List α}
theorem keep {X : List (Option Nat)} (hf : Fr X w w') (hX : ∀ g, A g → some g ∉ X) (h : FlatS T cells size A w v l) : FlatS T cells size A w' v l := ⟨h.1.keep hf (fun g hg => hX g (h.2 g hg)), h.2⟩
theorem mono (hA : ∀ g, A g → A' g) (h : FlatS T cells size A w v l) : FlatS T cells size A' w v l := ⟨h.1, fun g hg => hA g (h.2 g hg)⟩
theorem live (h : FlatS T cells size A w v l) : FlatS T cells size (fun g => A g ∧ g < w.heap.size) w v l := ⟨h.1, fun g hg => ⟨h.2 g hg, h.1.block_lt hg⟩⟩
theorem nil : FlatS T cells size A w (.slice none 0 0) ([] : List α) := ⟨Row.nil w T size, fun g h => by simp [Value.ownBlock] at h⟩
theorem form (h : FlatS T cells size A w v l) : ∃ a len cap, v = .slice a len cap := by
  rcases h.1.form with ⟨rfl, _, _⟩ | ⟨g, off, cap, rfl, _, _⟩
  · exact ⟨_, _, _, rfl⟩
  · exact ⟨_, _, _, rfl⟩
end FlatS
theorem _root_.Go.Proofs.YtmdnhinpaflamaaDoor.Rep.Es.form {T : TypeId} {A : Nat → Prop} {w : World} {v : Value} {l : List Ex} (h : Rep.Es T A w l v) : ∃ a len cap, v = .slice a len cap := by
  cases h with
  | mk _ _ xs h1 h2 h3 =>
    rcases h2.form with ⟨rfl, _, _⟩ | ⟨g, off, cap, rfl, _, _⟩
    · exact ⟨_, _, _, rfl⟩
    · exact ⟨_, _, _, rfl⟩
theorem flat_of {α : Type} {T : TypeId} {b : Nat} {w : World} {v : Value} {l : List α} {cells : α → List Value} {size : Nat} {hl : ∀ x, (cells x).length = size} {h1 : ∀ x, ∀ u ∈ cells x, u.oneCell' = true} (h : LsR (kFlat cells size hl h1) T b w v l) : FlatS T cells size (fun g => b ≤ g) w v l := by
  obtain ⟨cs, h1, h2, h3⟩ := h
  rw [flat_list h1] at h2
  exact ⟨h2, h3⟩

abbrev ColS := FlatS 73 colC 3
abbrev ItS := FlatS 75 itC 3
abbrev TagS := FlatS 103 u16C 1
mutual
/-- a statement's thirteen cells -/
inductive SR (A : Nat → Prop) (w : World) : PM.St → List Value → Prop
  | mk (kind : Int) (table name : B) (cols : List PM.Col) (tags : List Int) (values : List Ex) (items : List PM.It) (join : B) (on wher order : List Ex) (desc : Bool) (inner : List PM.St) (v3 v4 v5 v6 v8 v9 v10 v12 : Value)
      (h3 : ColS A w v3 cols) (h4 : TagS A w v4 tags) (h5 : Rep.Es 41 A w values v5) (h6 : ItS A w v6 items) (h8 : Rep.Es 41 A w on v8) (h9 : Rep.Es 41 A w wher v9) (h10 : Rep.Es 41 A w order v10) (h12 : SS A w inner v12) :
      SR A w (.mk kind table name cols tags values items join on wher order desc inner) [.int .i64 kind, .string ⟨table.toArray⟩, .string ⟨name.toArray⟩, v3, v4, v5, v6, .string ⟨join.toArray⟩, v8, v9, v10, .bool desc, v12]
inductive SL (A : Nat → Prop) (w : World) : List PM.St → List Value → Prop
  | nil : SL A w [] []
  | cons (e : PM.St) (r : List PM.St) (xs ys : List Value) (h : SR A w e xs) (k : SL A w r ys) : SL A w (e :: r) (xs ++ ys)
inductive SS (A : Nat → Prop) (w : World) : List PM.St → Value → Prop
  | mk (l : List PM.St) (v : Value) (xs : List Value) (h : SL A w l xs) (k : Row w 64 13 v l.length xs) (hb : ∀ g, v.ownBlock = some g → A g) : SS A w l v
end
section
variable {A : Nat → Prop} {w w' : World}
mutual
theorem SR.keep {X : List (Option Nat)} {e : PM.St} {cs : List Value} (hf : Fr X w w') (hX : ∀ g, A g → some g ∉ X) : SR A w e cs → SR A w' e cs
  | .mk kind table name cols tags values items join on wher order desc inner v3 v4 v5 v6 v8 v9 v10 v12 h3 h4 h5 h6 h8 h9 h10 h12 =>
    .mk kind table name cols tags values items join on wher order desc inner v3 v4 v5 v6 v8 v9 v10 v12 (h3.keep hf hX) (h4.keep hf hX) (Rep.Es.keep hf hX h5) (h6.keep hf hX) (Rep.Es.keep hf hX h8) (Rep.Es.keep hf hX h9) (Rep.Es.keep hf hX h10) (SS.keep hf hX h12)
theorem SL.keep {X : List (Option Nat)} {l : List PM.St} {cs : List Value} (hf : Fr X w w') (hX : ∀ g, A g → some g ∉ X) : SL A w l cs → SL A w' l cs
  | .nil => .nil
  | .cons e r xs ys h k => .cons e r xs ys (SR.keep hf hX h) (SL.keep hf hX k)
theorem SS.keep {X : List (Option Nat)} {l : List PM.St} {v : Value} (hf : Fr X w w') (hX : ∀ g, A g → some g ∉ X) : SS A w l v → SS A w' l v
  | .mk l v xs h k hb => .mk l v xs (SL.keep hf hX h) (k.keep hf (fun g hg => hX g (hb g hg))) hb
end
mutual
theorem SR.mono {A' : Nat → Prop} {e : PM.St} {cs : List Value} (hA : ∀ g, A g → A' g) : SR A w e cs → SR A' w e cs
  | .mk kind table name cols tags values items join on wher order desc inner v3 v4 v5 v6 v8 v9 v10 v12 h3 h4 h5 h6 h8 h9 h10 h12 =>
    .mk kind table name cols tags values items join on wher order desc inner v3 v4 v5 v6 v8 v9 v10 v12 (h3.mono hA) (h4.mono hA) (Rep.Es.mono hA h5) (h6.mono hA) (Rep.Es.mono hA h8) (Rep.Es.mono hA h9) (Rep.Es.mono hA h10) (SS.mono hA h12)
theorem SL.mono {A' : Nat → Prop} {l : List PM.St} {cs : List Value} (hA : ∀ g, A g → A' g) : SL A w l cs → SL A' w l cs
  | .nil => .nil
  | .cons e r xs ys h k => .cons e r xs ys (SR.mono hA h) (SL.mono hA k)
theorem SS.mono {A' : Nat → Prop} {l : List PM.St} {v : Value} (hA : ∀ g, A g → A' g) : SS A w l v → SS A' w l v
  | .mk l v xs h k hk => .mk l v xs (SL.mono hA h) k (fun g hg => hA g (hk g hg))
end
theorem SS.nil : SS A w [] (.slice none 0 0) := .mk [] _ [] .nil (Row.nil _ _ _) (fun g h => by simp [Value.ownBlock] at h)
theorem SS.form {l : List PM.St} {v : Value} (h : SS A w l v) : ∃ a len cap, v = .slice a len cap := by
  cases h with
  | mk _ _ xs h1 h2 h3 =>
    rcases h2.form with ⟨rfl, _, _⟩ | ⟨g, off, cap, rfl, _, _⟩
    · exact ⟨_, _, _, rfl⟩
    · exact ⟨_, _, _, rfl⟩
theorem SR.length {e : PM.St} {cs : List Value} (h : SR A w e cs) : cs.length = 13 := by cases h; rfl
end
/-- a statement is returned -/
def StR (b : Nat) (w : World) (e : Ending) (x : PM.St) : Prop := ∃ cs, e = .returned (.agg cs.toArray) ∧ SR (fun g => b ≤ g) w x cs
theorem st_cells {b : Nat} {w : World} {e : Ending} {x : PM.St} (h : StR b w e x) : ∃ (kind : Int) (table name join : B) (a3 a4 a5 a6 a8 a9 a10 a12 : Option Addr) (l3 l4 l5 l6 l8 l9 l10 l12 c3 c4 c5 c6 c8 c9 c10 c12 : Nat) (desc : Bool),
    e = .returned (.agg #[.int .i64 kind, .string ⟨table.toArray⟩, .string ⟨name.toArray⟩, .slice a3 l3 c3, .slice a4 l4 c4, .slice a5 l5 c5, .slice a6 l6 c6, .string ⟨join.toArray⟩, .slice a8 l8 c8, .slice a9 l9 c9, .slice a10 l10 c10, .bool desc, .slice a12 l12 c12]) ∧
    SR (fun g => b ≤ g) w x [.int .i64 kind, .string ⟨table.toArray⟩, .string ⟨name.toArray⟩, .slice a3 l3 c3, .slice a4 l4 c4, .slice a5 l5 c5, .slice a6 l6 c6, .string ⟨join.toArray⟩, .slice a8 l8 c8, .slice a9 l9 c9, .slice a10 l10 c10, .bool desc, .slice a12 l12 c12] := by
  obtain ⟨cs, rfl, hr⟩ := h
  have hr' := hr
  cases hr with
  | mk kind table name cols tags values items join on wher order desc inner v3 v4 v5 v6 v8 v9 v10 v12 h3 h4 h5 h6 h8 h9 h10 h12 =>
    obtain ⟨a3, l3, c3, rfl⟩ := h3.form
    obtain ⟨a4, l4, c4, rfl⟩ := h4.form
    obtain ⟨a5, l5, c5, rfl⟩ := h5.form
    obtain ⟨a6, l6, c6, rfl⟩ := h6.form
    obtain ⟨a8, l8, c8, rfl⟩ := h8.form
    obtain ⟨a9, l9, c9, rfl⟩ := h9.form
    obtain ⟨a10, l10, c10, rfl⟩ := h10.form
    obtain ⟨a12, l12, c12, rfl⟩ := h12.form
    exact ⟨kind, table, name, join, a3, a4, a5, a6, a8, a9, a10, a12, l3, l4, l5, l6, l8, l9, l10, l12, c3, c4, c5, c6, c8, c9, c10, c12, desc, rfl, hr'⟩

theorem ret_cell13 {fn : Func} {n : Nat} (h : fn.results = #[.cell n 64]) (tmps : Array Value) (T : Nat) (h2 : tmps.getD n undef = .pointer (some ⟨T, 0, none⟩)) (w : World) (a0 a1 a2 a3 a4 a5 a6 a7 a8 a9 a10 a11 a12 : Value) (hb : Blk w T 64 [a0, a1, a2, a3, a4, a5, a6, a7, a8, a9, a10, a11, a12]) :
    (results fn tmps).run Tryd.prog w = .ok (.agg #[a0, a1, a2, a3, a4, a5, a6, a7, a8, a9, a10, a11, a12]) w := by
  have c0 := hb.cell 0
  have c1 := hb.cell 1
  have c2 := hb.cell 2
  have c3 := hb.cell 3
  have c4 := hb.cell 4
  have c5 := hb.cell 5
  have c6 := hb.cell 6
  have c7 := hb.cell 7
  have c8 := hb.cell 8
  have c9 := hb.cell 9
  have c10 := hb.cell 10
  have c11 := hb.cell 11
  have c12 := hb.cell 12
  simp only [List.getElem?_cons_zero, List.getElem?_cons_succ] at c0 c1 c2 c3 c4 c5 c6 c7 c8 c9 c10 c11 c12
  have h2' : tmps[n]?.getD undef = .pointer (some ⟨T, 0, none⟩) := by simpa using h2
  simp [results, h, h2', go_sem, c0, c1, c2, c3, c4, c5, c6, c7, c8, c9, c10, c11, c12]
def put13 (w : World) (T : Nat) (a0 a1 a2 a3 a4 a5 a6 a7 a8 a9 a10 a11 a12 : Value) : World := (((((((((((((w.setCell ⟨T, 0, none⟩ a0).setCell ⟨T, 1, none⟩ a1).setCell ⟨T, 2, none⟩ a2).setCell ⟨T, 3, none⟩ a3).setCell ⟨T, 4, none⟩ a4).setCell ⟨T, 5, none⟩ a5).setCell ⟨T, 6, none⟩ a6).setCell ⟨T, 7, none⟩ a7).setCell ⟨T, 8, none⟩ a8).setCell ⟨T, 9, none⟩ a9).setCell ⟨T, 10, none⟩ a10).setCell ⟨T, 11, none⟩ a11).setCell ⟨T, 12, none⟩ a12)
theorem frPut13 {X : List (Option Nat)} {z w : World} {T : Nat} (h : Fr X z w) (hT : some T ∈ X ∨ z.heap.size ≤ T) (a0 a1 a2 a3 a4 a5 a6 a7 a8 a9 a10 a11 a12 : Value) : Fr X z (put13 w T a0 a1 a2 a3 a4 a5 a6 a7 a8 a9 a10 a11 a12) := (((((((((((((h.setCell (p := ⟨T, 0, none⟩) hT a0).setCell (p := ⟨T, 1, none⟩) hT a1).setCell (p := ⟨T, 2, none⟩) hT a2).setCell (p := ⟨T, 3, none⟩) hT a3).setCell (p := ⟨T, 4, none⟩) hT a4).setCell (p := ⟨T, 5, none⟩) hT a5).setCell (p := ⟨T, 6, none⟩) hT a6).setCell (p := ⟨T, 7, none⟩) hT a7).setCell (p := ⟨T, 8, none⟩) hT a8).setCell (p := ⟨T, 9, none⟩) hT a9).setCell (p := ⟨T, 10, none⟩) hT a10).setCell (p := ⟨T, 11, none⟩) hT a11).setCell (p := ⟨T, 12, none⟩) hT a12)
theorem blkPut13 {w : World} {T : Nat} {x0 x1 x2 x3 x4 x5 x6 x7 x8 x9 x10 x11 x12 : Value} (h : Blk w T 64 [x0, x1, x2, x3, x4, x5, x6, x7, x8, x9, x10, x11, x12]) (a0 a1 a2 a3 a4 a5 a6 a7 a8 a9 a10 a11 a12 : Value) : Blk (put13 w T a0 a1 a2 a3 a4 a5 a6 a7 a8 a9 a10 a11 a12) T 64 [a0, a1, a2, a3, a4, a5, a6, a7, a8, a9, a10, a11, a12] := (((((((((((((h.set 0 a0).set 1 a1).set 2 a2).set 3 a3).set 4 a4).set 5 a5).set 6 a6).set 7 a7).set 8 a8).set 9 a9).set 10 a10).set 11 a11).set 12 a12)
/-- what a walk is told of 13 cells -/
structure C13 (w : World) (T : Nat) (a0 a1 a2 a3 a4 a5 a6 a7 a8 a9 a10 a11 a12 : Value) : Prop where
  c0 : w.cell? ⟨T, 0, none⟩ = some a0
  c1 : w.cell? ⟨T, 1, none⟩ = some a1
  c2 : w.cell? ⟨T, 2, none⟩ = some a2
  c3 : w.cell? ⟨T, 3, none⟩ = some a3
  c4 : w.cell? ⟨T, 4, none⟩ = some a4
  c5 : w.cell? ⟨T, 5, none⟩ = some a5
  c6 : w.cell? ⟨T, 6, none⟩ = some a6
  c7 : w.cell? ⟨T, 7, none⟩ = some a7
  c8 : w.cell? ⟨T, 8, none⟩ = some a8
  c9 : w.cell? ⟨T, 9, none⟩ = some a9
  c10 : w.cell? ⟨T, 10, none⟩ = some a10
  c11 : w.cell? ⟨T, 11, none⟩ = some a11
  c12 : w.cell? ⟨T, 12, none⟩ = some a12
  f0 : w.frozen? ⟨T, 0, none⟩ = false
  f1 : w.frozen? ⟨T, 1, none⟩ = false
  f2 : w.frozen? ⟨T, 2, none⟩ = false
  f3 : w.frozen? ⟨T, 3, none⟩ = false
  f4 : w.frozen? ⟨T, 4, none⟩ = false
  f5 : w.frozen? ⟨T, 5, none⟩ = false
  f6 : w.frozen? ⟨T, 6, none⟩ = false
  f7 : w.frozen? ⟨T, 7, none⟩ = false
  f8 : w.frozen? ⟨T, 8, none⟩ = false
  f9 : w.frozen? ⟨T, 9, none⟩ = false
  f10 : w.frozen? ⟨T, 10, none⟩ = false
  f11 : w.frozen? ⟨T, 11, none⟩ = false
  f12 : w.frozen? ⟨T, 12, none⟩ = false
theorem c13_of {w : World} {T : Nat} {a0 a1 a2 a3 a4 a5 a6 a7 a8 a9 a10 a11 a12 : Value} (h : Blk w T 64 [a0, a1, a2, a3, a4, a5, a6, a7, a8, a9, a10, a11, a12]) : C13 w T a0 a1 a2 a3 a4 a5 a6 a7 a8 a9 a10 a11 a12 :=
  ⟨h.cell 0, h.cell 1, h.cell 2, h.cell 3, h.cell 4, h.cell 5, h.cell 6, h.cell 7, h.cell 8, h.cell 9, h.cell 10, h.cell 11, h.cell 12, h.free 0, h.free 1, h.free 2, h.free 3, h.free 4, h.free 5, h.free 6, h.free 7, h.free 8, h.free 9, h.free 10, h.free 11, h.free 12⟩
end Px
end Go.Proofs.YtmdnhinpaflamaaDoor
namespace Go.Proofs.YtmdnhinpaflamaaDoor
open Go.RowKit
namespace Px
open PM (PS B Ex)

end Px
end Go.Proofs.YtmdnhinpaflamaaDoor
namespace Go.Proofs.YtmdnhinpaflamaaDoor
open Go.RowKit
namespace Px
open PM (PS B Ex)

end Px
end Go.Proofs.YtmdnhinpaflamaaDoor
namespace Go.Proofs.YtmdnhinpaflamaaDoor
open Go.RowKit
namespace PM
end PM
namespace Px
open PM (PS B Ex)

end Px
end Go.Proofs.YtmdnhinpaflamaaDoor
