/- parse: what a walk through a reader of statements carries along; statements in memory. -/
import Derived.Test.YtmdnhinpaflamaaGreatDoorPaB
namespace Go.Proofs.YtmdnhinpaflamaaGreatDoor
open Go.RowKit
namespace Px
open PM (PS B Ex)

/-- the parser where the walk stands; w0: where the call began -/
structure Bd (w0 : World) (P g : Nat) (w : World) (s : PS) : Prop where
  pr : PR w P g s
  fr : Fr [some P] w0 w
  lt : P < w0.heap.size
section
variable {w0 w w' : World} {P g b i : Nat} {s s' : PS} {v : Value} {T : TypeId} {cs : List Value}
theorem Bd.start (h : PR w P g s) : Bd w P g w s := ⟨h, Fr.refl _ _, h.lt⟩
theorem Bd.alloc (h : Bd w0 P g w s) (o : Obj) : Bd w0 P g (w.alloc o) s := ⟨h.pr.alloc o, h.fr.alloc o, h.lt⟩
theorem Bd.drew (h : Bd w0 P g w s) : Bd w0 P g w.drew s := ⟨h.pr.keep (Fr.drew (Fr.refl [] w)) (by simp) (by simp), h.fr.drew, h.lt⟩
theorem Bd.set (h : Bd w0 P g w s) (hb : w0.heap.size ≤ b) : Bd w0 P g (w.setCell ⟨b, i, none⟩ v) s := by
  have h1 := h.lt
  have h2 := h.pr.ne
  exact ⟨h.pr.keep (frSet (P := b) _) (by simp; omega) (by simp; omega), h.fr.setCell (p := ⟨b, i, none⟩) (.inr hb) v, h.lt⟩
theorem Bd.call (h : Bd w0 P g w s) (h' : PR w' P g s') (hf : Fr [some P] w w') : Bd w0 P g w' s' := ⟨h', h.fr.trans hf, h.lt⟩
theorem Bd.call0 (h : Bd w0 P g w s) (h' : PR w' P g s') (hf : Fr [] w w') : Bd w0 P g w' s' := ⟨h', h.fr.trans' hf (by simp), h.lt⟩
theorem Bd.size (h : Bd w0 P g w s) : w0.heap.size ≤ w.heap.size := h.fr.size

/-- a block of the call's own -/
structure Ow (w0 w : World) (b : Nat) (T : TypeId) (cs : List Value) : Prop where
  blk : Blk w b T cs
  ge : w0.heap.size ≤ b
theorem Ow.new (h : w0.heap.size ≤ w.heap.size) (T : TypeId) (cs : List Value) : Ow w0 (w.alloc (.cells cs.toArray T)) w.heap.size T cs := ⟨Blk.new w T cs, h⟩
theorem Ow.new1 (h : w0.heap.size ≤ w.heap.size) (o : Obj) (T : TypeId) (cs : List Value) : Ow w0 ((w.alloc o).alloc (.cells cs.toArray T)) (w.heap.size + 1) T cs := by
  have := Ow.new (w0 := w0) (w := w.alloc o) (by simp; omega) T cs
  rwa [World.size_alloc] at this
theorem Ow.alloc (h : Ow w0 w b T cs) (o : Obj) : Ow w0 (w.alloc o) b T cs := ⟨Blk.alloc h.blk o, h.ge⟩
theorem Ow.drew (h : Ow w0 w b T cs) : Ow w0 w.drew b T cs := ⟨h.blk, h.ge⟩
theorem Ow.set (h : Ow w0 w b T cs) (j : Nat) (u : Value) : Ow w0 (w.setCell ⟨b, j, none⟩ u) b T (cs.set j u) := ⟨h.blk.set j u, h.ge⟩
theorem Ow.other {c : Nat} (h : Ow w0 w b T cs) (hc : b ≠ c) : Ow w0 (w.setCell ⟨c, i, none⟩ v) b T cs := ⟨h.blk.keep (frSet (P := c) _) (by simp; exact hc), h.ge⟩
theorem Ow.call (h : Ow w0 w b T cs) (hP : P < w0.heap.size) (hf : Fr [some P] w w') : Ow w0 w' b T cs := ⟨h.blk.keep hf (by have := h.ge; simp; omega), h.ge⟩
theorem Ow.call0 (h : Ow w0 w b T cs) (hf : Fr [] w w') : Ow w0 w' b T cs := ⟨h.blk.keep hf (by simp), h.ge⟩
theorem Ow.lt (h : Ow w0 w b T cs) : b < w.heap.size := h.blk.lt

/-- words that are laid for needs -/
theorem strs_new (w : World) (l : List B) : Strs (w.alloc (.cells (l.map (fun b => Value.string ⟨b.toArray⟩)).toArray 9)) w.heap.size 0 l := by
  intro j hj
  rw [Nat.zero_add, (Blk.new w 9 (l.map (fun b => Value.string ⟨b.toArray⟩))).cell j]
  simp [hj]
theorem needs_new {n : Nat} (h : PR w P g s) (l : List B) (hl : l.length ≤ 1000) (hn : w.heap.size = n) : Calls Tryz.prog 52 #[.pointer (some ⟨P, 0, none⟩), .slice (some ⟨n, 0, none⟩) l.length l.length] (w.alloc (.cells (l.map (fun b => Value.string ⟨b.toArray⟩)).toArray 9)) fun e w' => e = .returned (.tuple #[]) ∧ PR w' P g (PM.needs l s) ∧ Fr [some P] (w.alloc (.cells (l.map (fun b => Value.string ⟨b.toArray⟩)).toArray 9)) w' := by
  subst hn
  exact needs_any P g s l w.heap.size 0 l.length _ (h.alloc _) hl (strs_new w l) (by have := h.lt; omega) (by simp)
end

/-- things without a part of their own, in a slice -/
def FlatS {α : Type} (T : TypeId) (cells : α → List Value) (size : Nat) (A : Nat → Prop) (w : World) (v : Value) (l : List α) : Prop :=
  Row w T size v l.length (l.flatMap cells) ∧ ∀ g, v.ownBlock = some g → A g
namespace FlatS
variable {α : Type} {T : TypeId} {cells : α → List Value} {size : Nat} {A A' : Nat → Prop} {w w' : World} {v : Value} {l : List α}
theorem keep {X : List (Option Nat)} (hf : Fr X w w') (hX : ∀ g, A g → some g ∉ X) (h : FlatS T cells size A w v l) : FlatS T cells size A w' v l := ⟨h.1.keep hf (fun g hg => hX g (h.2 g hg)), h.2⟩
theorem mono (hA : ∀ g, A g → A' g) (h : FlatS T cells size A w v l) : FlatS T cells size A' w v l := ⟨h.1, fun g hg => hA g (h.2 g hg)⟩
theorem nil : FlatS T cells size A w (.slice none 0 0) ([] : List α) := ⟨Row.nil w T size, fun g h => by simp [Value.ownBlock] at h⟩
theorem form (h : FlatS T cells size A w v l) : ∃ a len cap, v = .slice a len cap := by
  rcases h.1.form with ⟨rfl, _, _⟩ | ⟨g, off, cap, rfl, _, _⟩
  · exact ⟨_, _, _, rfl⟩
  · exact ⟨_, _, _, rfl⟩
end FlatS
theorem _root_.Go.Proofs.YtmdnhinpaflamaaGreatDoor.Rep.Es.form {T : TypeId} {A : Nat → Prop} {w : World} {v : Value} {l : List Ex} (h : Rep.Es T A w l v) : ∃ a len cap, v = .slice a len cap := by
  cases h with
  | mk _ _ xs h1 h2 h3 =>
    rcases h2.form with ⟨rfl, _, _⟩ | ⟨g, off, cap, rfl, _, _⟩
    · exact ⟨_, _, _, rfl⟩
    · exact ⟨_, _, _, rfl⟩
theorem flat_of {α : Type} {T : TypeId} {b : Nat} {w : World} {v : Value} {l : List α} {cells : α → List Value} {size : Nat} {hl : ∀ x, (cells x).length = size} {h1 : ∀ x, ∀ u ∈ cells x, u.oneCell' = true} (h : LsR (kFlat cells size hl h1) T b w v l) : FlatS T cells size (fun g => b ≤ g) w v l := by
  obtain ⟨cs, h1, h2, h3⟩ := h
  rw [flat_list h1] at h2
  exact ⟨h2, h3⟩

abbrev ColS := FlatS 57 colC 3
abbrev ItS := FlatS 60 itC 3
abbrev TagS := FlatS 58 u16C 1
mutual
/-- a statement's thirteen cells -/
inductive SR (A : Nat → Prop) (w : World) : PM.St → List Value → Prop
  | mk (kind : Int) (table name : B) (cols : List PM.Col) (tags : List Int) (values : List Ex) (items : List PM.It) (join : B) (on wher order : List Ex) (desc : Bool) (inner : List PM.St) (v3 v4 v5 v6 v8 v9 v10 v12 : Value)
      (h3 : ColS A w v3 cols) (h4 : TagS A w v4 tags) (h5 : Rep.Es 82 A w values v5) (h6 : ItS A w v6 items) (h8 : Rep.Es 82 A w on v8) (h9 : Rep.Es 82 A w wher v9) (h10 : Rep.Es 82 A w order v10) (h12 : SS A w inner v12) :
      SR A w (.mk kind table name cols tags values items join on wher order desc inner) [.int .i64 kind, .string ⟨table.toArray⟩, .string ⟨name.toArray⟩, v3, v4, v5, v6, .string ⟨join.toArray⟩, v8, v9, v10, .bool desc, v12]
inductive SL (A : Nat → Prop) (w : World) : List PM.St → List Value → Prop
  | nil : SL A w [] []
  | cons (e : PM.St) (r : List PM.St) (xs ys : List Value) (h : SR A w e xs) (k : SL A w r ys) : SL A w (e :: r) (xs ++ ys)
inductive SS (A : Nat → Prop) (w : World) : List PM.St → Value → Prop
  | mk (l : List PM.St) (v : Value) (xs : List Value) (h : SL A w l xs) (k : Row w 29 13 v l.length xs) (hb : ∀ g, v.ownBlock = some g → A g) : SS A w l v
end
section
variable {A : Nat → Prop} {w w' : World}
mutual
theorem SR.keep {X : List (Option Nat)} {e : PM.St} {cs : List Value} (hf : Fr X w w') (hX : ∀ g, A g → some g ∉ X) : SR A w e cs → SR A w' e cs
  | .mk kind table name cols tags values items join on wher order desc inner v3 v4 v5 v6 v8 v9 v10 v12 h3 h4 h5 h6 h8 h9 h10 h12 =>
    .mk kind table name cols tags values items join on wher order desc inner v3 v4 v5 v6 v8 v9 v10 v12 (h3.keep hf hX) (h4.keep hf hX) (Rep.Es.keep hf hX h5) (h6.keep hf hX) (Rep.Es.keep hf hX h8) (Rep.Es.keep hf hX h9) (Rep.Es.keep hf hX h10) (SS.keep hf hX h12)
theorem SL.keep {X : List (Option Nat)} {l : List PM.St} {cs : List Value} (hf : Fr X w w') (hX : ∀ g, A g → some g ∉ X) : SL A w l cs → SL A w' l cs
  | .nil => .nil
  | .cons e r xs ys h k => .cons e r xs ys (SR.keep hf hX h) (SL.keep hf hX k)
theorem SS.keep {X : List (Option Nat)} {l : List PM.St} {v : Value} (hf : Fr X w w') (hX : ∀ g, A g → some g ∉ X) : SS A w l v → SS A w' l v
  | .mk l v xs h k hb => .mk l v xs (SL.keep hf hX h) (k.keep hf (fun g hg => hX g (hb g hg))) hb
end
mutual
theorem SR.mono {A' : Nat → Prop} {e : PM.St} {cs : List Value} (hA : ∀ g, A g → A' g) : SR A w e cs → SR A' w e cs
  | .mk kind table name cols tags values items join on wher order desc inner v3 v4 v5 v6 v8 v9 v10 v12 h3 h4 h5 h6 h8 h9 h10 h12 =>
    .mk kind table name cols tags values items join on wher order desc inner v3 v4 v5 v6 v8 v9 v10 v12 (h3.mono hA) (h4.mono hA) (Rep.Es.mono hA h5) (h6.mono hA) (Rep.Es.mono hA h8) (Rep.Es.mono hA h9) (Rep.Es.mono hA h10) (SS.mono hA h12)
theorem SL.mono {A' : Nat → Prop} {l : List PM.St} {cs : List Value} (hA : ∀ g, A g → A' g) : SL A w l cs → SL A' w l cs
  | .nil => .nil
  | .cons e r xs ys h k => .cons e r xs ys (SR.mono hA h) (SL.mono hA k)
theorem SS.mono {A' : Nat → Prop} {l : List PM.St} {v : Value} (hA : ∀ g, A g → A' g) : SS A w l v → SS A' w l v
  | .mk l v xs h k hk => .mk l v xs (SL.mono hA h) k (fun g hg => hA g (hk g hg))
end
theorem SS.nil : SS A w [] (.slice none 0 0) := .mk [] _ [] .nil (Row.nil _ _ _) (fun g h => by simp [Value.ownBlock] at h)
theorem SS.form {l : List PM.St} {v : Value} (h : SS A w l v) : ∃ a len cap, v = .slice a len cap := by
  cases h with
  | mk _ _ xs h1 h2 h3 =>
    rcases h2.form with ⟨rfl, _, _⟩ | ⟨g, off, cap, rfl, _, _⟩
    · exact ⟨_, _, _, rfl⟩
    · exact ⟨_, _, _, rfl⟩
theorem SR.length {e : PM.St} {cs : List Value} (h : SR A w e cs) : cs.length = 13 := by cases h; rfl
end
/-- a statement is returned -/
def StR (b : Nat) (w : World) (e : Ending) (x : PM.St) : Prop := ∃ cs, e = .returned (.agg cs.toArray) ∧ SR (fun g => b ≤ g) w x cs
def z13 : List Value := [.int .i64 0, .string ⟨#[]⟩, .string ⟨#[]⟩, .slice none 0 0, .slice none 0 0, .slice none 0 0, .slice none 0 0, .string ⟨#[]⟩, .slice none 0 0, .slice none 0 0, .slice none 0 0, .bool false, .slice none 0 0]
theorem zero_st (A : Nat → Prop) (w : World) : SR A w PM.St.zero z13 := .mk 0 [] [] [] [] [] [] [] [] [] [] false [] _ _ _ _ _ _ _ _ .nil .nil Rep.Es.nil .nil Rep.Es.nil Rep.Es.nil Rep.Es.nil SS.nil
theorem st_cells {b : Nat} {w : World} {e : Ending} {x : PM.St} (h : StR b w e x) : ∃ (kind : Int) (table name join : B) (a3 a4 a5 a6 a8 a9 a10 a12 : Option Addr) (l3 l4 l5 l6 l8 l9 l10 l12 c3 c4 c5 c6 c8 c9 c10 c12 : Nat) (desc : Bool),
    e = .returned (.agg #[.int .i64 kind, .string ⟨table.toArray⟩, .string ⟨name.toArray⟩, .slice a3 l3 c3, .slice a4 l4 c4, .slice a5 l5 c5, .slice a6 l6 c6, .string ⟨join.toArray⟩, .slice a8 l8 c8, .slice a9 l9 c9, .slice a10 l10 c10, .bool desc, .slice a12 l12 c12]) ∧
    SR (fun g => b ≤ g) w x [.int .i64 kind, .string ⟨table.toArray⟩, .string ⟨name.toArray⟩, .slice a3 l3 c3, .slice a4 l4 c4, .slice a5 l5 c5, .slice a6 l6 c6, .string ⟨join.toArray⟩, .slice a8 l8 c8, .slice a9 l9 c9, .slice a10 l10 c10, .bool desc, .slice a12 l12 c12] := by
  obtain ⟨cs, rfl, hr⟩ := h
  have hr' := hr
  cases hr with
  | mk kind table name cols tags values items join on wher order desc inner v3 v4 v5 v6 v8 v9 v10 v12 h3 h4 h5 h6 h8 h9 h10 h12 =>
    obtain ⟨a3, l3, c3, rfl⟩ := h3.form
    obtain ⟨a4, l4, c4, rfl⟩ := h4.form
    obtain ⟨a5, l5, c5, rfl⟩ := h5.form
    obtain ⟨a6, l6, c6, rfl⟩ := h6.form
    obtain ⟨a8, l8, c8, rfl⟩ := h8.form
    obtain ⟨a9, l9, c9, rfl⟩ := h9.form
    obtain ⟨a10, l10, c10, rfl⟩ := h10.form
    obtain ⟨a12, l12, c12, rfl⟩ := h12.form
    exact ⟨kind, table, name, join, a3, a4, a5, a6, a8, a9, a10, a12, l3, l4, l5, l6, l8, l9, l10, l12, c3, c4, c5, c6, c8, c9, c10, c12, desc, rfl, hr'⟩

theorem ret_cell13 {fn : Func} {n : Nat} (h : fn.results = #[.cell n 29]) (tmps : Array Value) (T : Nat) (h2 : tmps.getD n undef = .pointer (some ⟨T, 0, none⟩)) (w : World) (a0 a1 a2 a3 a4 a5 a6 a7 a8 a9 a10 a11 a12 : Value) (hb : Blk w T 29 [a0, a1, a2, a3, a4, a5, a6, a7, a8, a9, a10, a11, a12]) :
    (results fn tmps).run Tryz.prog w = .ok (.agg #[a0, a1, a2, a3, a4, a5, a6, a7, a8, a9, a10, a11, a12]) w := by
  have c0 := hb.cell 0
  have c1 := hb.cell 1
  have c2 := hb.cell 2
  have c3 := hb.cell 3
  have c4 := hb.cell 4
  have c5 := hb.cell 5
  have c6 := hb.cell 6
  have c7 := hb.cell 7
  have c8 := hb.cell 8
  have c9 := hb.cell 9
  have c10 := hb.cell 10
  have c11 := hb.cell 11
  have c12 := hb.cell 12
  simp only [List.getElem?_cons_zero, List.getElem?_cons_succ] at c0 c1 c2 c3 c4 c5 c6 c7 c8 c9 c10 c11 c12
  have h2' : tmps[n]?.getD undef = .pointer (some ⟨T, 0, none⟩) := by simpa using h2
  simp [results, h, h2', go_sem, c0, c1, c2, c3, c4, c5, c6, c7, c8, c9, c10, c11, c12]
def put13 (w : World) (T : Nat) (a0 a1 a2 a3 a4 a5 a6 a7 a8 a9 a10 a11 a12 : Value) : World := (((((((((((((w.setCell ⟨T, 0, none⟩ a0).setCell ⟨T, 1, none⟩ a1).setCell ⟨T, 2, none⟩ a2).setCell ⟨T, 3, none⟩ a3).setCell ⟨T, 4, none⟩ a4).setCell ⟨T, 5, none⟩ a5).setCell ⟨T, 6, none⟩ a6).setCell ⟨T, 7, none⟩ a7).setCell ⟨T, 8, none⟩ a8).setCell ⟨T, 9, none⟩ a9).setCell ⟨T, 10, none⟩ a10).setCell ⟨T, 11, none⟩ a11).setCell ⟨T, 12, none⟩ a12)
theorem frPut13 {X : List (Option Nat)} {z w : World} {T : Nat} (h : Fr X z w) (hT : some T ∈ X ∨ z.heap.size ≤ T) (a0 a1 a2 a3 a4 a5 a6 a7 a8 a9 a10 a11 a12 : Value) : Fr X z (put13 w T a0 a1 a2 a3 a4 a5 a6 a7 a8 a9 a10 a11 a12) := (((((((((((((h.setCell (p := ⟨T, 0, none⟩) hT a0).setCell (p := ⟨T, 1, none⟩) hT a1).setCell (p := ⟨T, 2, none⟩) hT a2).setCell (p := ⟨T, 3, none⟩) hT a3).setCell (p := ⟨T, 4, none⟩) hT a4).setCell (p := ⟨T, 5, none⟩) hT a5).setCell (p := ⟨T, 6, none⟩) hT a6).setCell (p := ⟨T, 7, none⟩) hT a7).setCell (p := ⟨T, 8, none⟩) hT a8).setCell (p := ⟨T, 9, none⟩) hT a9).setCell (p := ⟨T, 10, none⟩) hT a10).setCell (p := ⟨T, 11, none⟩) hT a11).setCell (p := ⟨T, 12, none⟩) hT a12)
theorem blkPut13 {w : World} {T : Nat} {x0 x1 x2 x3 x4 x5 x6 x7 x8 x9 x10 x11 x12 : Value} (h : Blk w T 29 [x0, x1, x2, x3, x4, x5, x6, x7, x8, x9, x10, x11, x12]) (a0 a1 a2 a3 a4 a5 a6 a7 a8 a9 a10 a11 a12 : Value) : Blk (put13 w T a0 a1 a2 a3 a4 a5 a6 a7 a8 a9 a10 a11 a12) T 29 [a0, a1, a2, a3, a4, a5, a6, a7, a8, a9, a10, a11, a12] := (((((((((((((h.set 0 a0).set 1 a1).set 2 a2).set 3 a3).set 4 a4).set 5 a5).set 6 a6).set 7 a7).set 8 a8).set 9 a9).set 10 a10).set 11 a11).set 12 a12)
/-- what a walk is told of 13 cells -/
structure C13 (w : World) (T : Nat) (a0 a1 a2 a3 a4 a5 a6 a7 a8 a9 a10 a11 a12 : Value) : Prop where
  c0 : w.cell? ⟨T, 0, none⟩ = some a0
  c1 : w.cell? ⟨T, 1, none⟩ = some a1
  c2 : w.cell? ⟨T, 2, none⟩ = some a2
  c3 : w.cell? ⟨T, 3, none⟩ = some a3
  c4 : w.cell? ⟨T, 4, none⟩ = some a4
  c5 : w.cell? ⟨T, 5, none⟩ = some a5
  c6 : w.cell? ⟨T, 6, none⟩ = some a6
  c7 : w.cell? ⟨T, 7, none⟩ = some a7
  c8 : w.cell? ⟨T, 8, none⟩ = some a8
  c9 : w.cell? ⟨T, 9, none⟩ = some a9
  c10 : w.cell? ⟨T, 10, none⟩ = some a10
  c11 : w.cell? ⟨T, 11, none⟩ = some a11
  c12 : w.cell? ⟨T, 12, none⟩ = some a12
  f0 : w.frozen? ⟨T, 0, none⟩ = false
  f1 : w.frozen? ⟨T, 1, none⟩ = false
  f2 : w.frozen? ⟨T, 2, none⟩ = false
  f3 : w.frozen? ⟨T, 3, none⟩ = false
  f4 : w.frozen? ⟨T, 4, none⟩ = false
  f5 : w.frozen? ⟨T, 5, none⟩ = false
  f6 : w.frozen? ⟨T, 6, none⟩ = false
  f7 : w.frozen? ⟨T, 7, none⟩ = false
  f8 : w.frozen? ⟨T, 8, none⟩ = false
  f9 : w.frozen? ⟨T, 9, none⟩ = false
  f10 : w.frozen? ⟨T, 10, none⟩ = false
  f11 : w.frozen? ⟨T, 11, none⟩ = false
  f12 : w.frozen? ⟨T, 12, none⟩ = false
theorem c13_of {w : World} {T : Nat} {a0 a1 a2 a3 a4 a5 a6 a7 a8 a9 a10 a11 a12 : Value} (h : Blk w T 29 [a0, a1, a2, a3, a4, a5, a6, a7, a8, a9, a10, a11, a12]) : C13 w T a0 a1 a2 a3 a4 a5 a6 a7 a8 a9 a10 a11 a12 :=
  ⟨h.cell 0, h.cell 1, h.cell 2, h.cell 3, h.cell 4, h.cell 5, h.cell 6, h.cell 7, h.cell 8, h.cell 9, h.cell 10, h.cell 11, h.cell 12, h.free 0, h.free 1, h.free 2, h.free 3, h.free 4, h.free 5, h.free 6, h.free 7, h.free 8, h.free 9, h.free 10, h.free 11, h.free 12⟩
theorem ret_cellCol {fn : Func} {n : Nat} (h : fn.results = #[.cell n 57]) (tmps : Array Value) (T : Nat) (h2 : tmps.getD n undef = .pointer (some ⟨T, 0, none⟩)) (w : World) (a0 a1 a2 : Value) (hb : Blk w T 57 [a0, a1, a2]) :
    (results fn tmps).run Tryz.prog w = .ok (.agg #[a0, a1, a2]) w := by
  have c0 := hb.cell 0
  have c1 := hb.cell 1
  have c2 := hb.cell 2
  simp only [List.getElem?_cons_zero, List.getElem?_cons_succ] at c0 c1 c2
  have h2' : tmps[n]?.getD undef = .pointer (some ⟨T, 0, none⟩) := by simpa using h2
  simp [results, h, h2', go_sem, c0, c1, c2]
def putCol (w : World) (T : Nat) (a0 a1 a2 : Value) : World := (((w.setCell ⟨T, 0, none⟩ a0).setCell ⟨T, 1, none⟩ a1).setCell ⟨T, 2, none⟩ a2)
theorem frPutCol {X : List (Option Nat)} {z w : World} {T : Nat} (h : Fr X z w) (hT : some T ∈ X ∨ z.heap.size ≤ T) (a0 a1 a2 : Value) : Fr X z (putCol w T a0 a1 a2) := (((h.setCell (p := ⟨T, 0, none⟩) hT a0).setCell (p := ⟨T, 1, none⟩) hT a1).setCell (p := ⟨T, 2, none⟩) hT a2)
theorem blkPutCol {w : World} {T : Nat} {x0 x1 x2 : Value} (h : Blk w T 57 [x0, x1, x2]) (a0 a1 a2 : Value) : Blk (putCol w T a0 a1 a2) T 57 [a0, a1, a2] := (((h.set 0 a0).set 1 a1).set 2 a2)
/-- what a walk is told of 3 cells -/
structure CCol (w : World) (T : Nat) (a0 a1 a2 : Value) : Prop where
  c0 : w.cell? ⟨T, 0, none⟩ = some a0
  c1 : w.cell? ⟨T, 1, none⟩ = some a1
  c2 : w.cell? ⟨T, 2, none⟩ = some a2
  f0 : w.frozen? ⟨T, 0, none⟩ = false
  f1 : w.frozen? ⟨T, 1, none⟩ = false
  f2 : w.frozen? ⟨T, 2, none⟩ = false
theorem cCol_of {w : World} {T : Nat} {a0 a1 a2 : Value} (h : Blk w T 57 [a0, a1, a2]) : CCol w T a0 a1 a2 :=
  ⟨h.cell 0, h.cell 1, h.cell 2, h.free 0, h.free 1, h.free 2⟩
theorem ret_cellIt {fn : Func} {n : Nat} (h : fn.results = #[.cell n 60]) (tmps : Array Value) (T : Nat) (h2 : tmps.getD n undef = .pointer (some ⟨T, 0, none⟩)) (w : World) (a0 a1 a2 : Value) (hb : Blk w T 60 [a0, a1, a2]) :
    (results fn tmps).run Tryz.prog w = .ok (.agg #[a0, a1, a2]) w := by
  have c0 := hb.cell 0
  have c1 := hb.cell 1
  have c2 := hb.cell 2
  simp only [List.getElem?_cons_zero, List.getElem?_cons_succ] at c0 c1 c2
  have h2' : tmps[n]?.getD undef = .pointer (some ⟨T, 0, none⟩) := by simpa using h2
  simp [results, h, h2', go_sem, c0, c1, c2]
def putIt (w : World) (T : Nat) (a0 a1 a2 : Value) : World := (((w.setCell ⟨T, 0, none⟩ a0).setCell ⟨T, 1, none⟩ a1).setCell ⟨T, 2, none⟩ a2)
theorem frPutIt {X : List (Option Nat)} {z w : World} {T : Nat} (h : Fr X z w) (hT : some T ∈ X ∨ z.heap.size ≤ T) (a0 a1 a2 : Value) : Fr X z (putIt w T a0 a1 a2) := (((h.setCell (p := ⟨T, 0, none⟩) hT a0).setCell (p := ⟨T, 1, none⟩) hT a1).setCell (p := ⟨T, 2, none⟩) hT a2)
theorem blkPutIt {w : World} {T : Nat} {x0 x1 x2 : Value} (h : Blk w T 60 [x0, x1, x2]) (a0 a1 a2 : Value) : Blk (putIt w T a0 a1 a2) T 60 [a0, a1, a2] := (((h.set 0 a0).set 1 a1).set 2 a2)
/-- what a walk is told of 3 cells -/
structure CIt (w : World) (T : Nat) (a0 a1 a2 : Value) : Prop where
  c0 : w.cell? ⟨T, 0, none⟩ = some a0
  c1 : w.cell? ⟨T, 1, none⟩ = some a1
  c2 : w.cell? ⟨T, 2, none⟩ = some a2
  f0 : w.frozen? ⟨T, 0, none⟩ = false
  f1 : w.frozen? ⟨T, 1, none⟩ = false
  f2 : w.frozen? ⟨T, 2, none⟩ = false
theorem cIt_of {w : World} {T : Nat} {a0 a1 a2 : Value} (h : Blk w T 60 [a0, a1, a2]) : CIt w T a0 a1 a2 :=
  ⟨h.cell 0, h.cell 1, h.cell 2, h.free 0, h.free 1, h.free 2⟩
end Px
end Go.Proofs.YtmdnhinpaflamaaGreatDoor
namespace Go.Proofs.YtmdnhinpaflamaaGreatDoor
open Go.RowKit
namespace Px
open PM (PS B Ex)

theorem skips_yes (P g : Nat) (s : PS) (wd : B) (w : World) (h : PR w P g s) (hi : PM.is wd s = true) :
    Calls Tryz.prog 50 #[.pointer (some ⟨P, 0, none⟩), .string ⟨wd.toArray⟩] w fun e w' => e = .returned (.bool true) ∧ PR w' P g (PM.skip s) ∧ Fr [some P] w w' := by
  have := skips_any P g s wd w h
  rwa [hi, skipd, hi] at this
theorem skips_no (P g : Nat) (s : PS) (wd : B) (w : World) (h : PR w P g s) (hi : PM.is wd s = false) :
    Calls Tryz.prog 50 #[.pointer (some ⟨P, 0, none⟩), .string ⟨wd.toArray⟩] w fun e w' => e = .returned (.bool false) ∧ PR w' P g s ∧ Fr [some P] w w' := by
  have := skips_any P g s wd w h
  rwa [hi, skipd, hi] at this

set_option maxRecDepth 100000 in
set_option maxHeartbeats 4000000 in
theorem col_any (P g : Nat) (s : PS) (w : World) (h : PR w P g s) :
    Calls Tryz.prog 101 #[.pointer (some ⟨P, 0, none⟩)] w fun e w' => (∃ cs, e = .returned (agg cs) ∧ kCol.E (fun b => w.heap.size ≤ b) w' (PM.col s).1 cs) ∧ PR w' P g (PM.col s).2 ∧ Fr [some P] w w' := by
  have hPl := h.lt
  have hgP := h.ne
  have HPL := Lib.hid hPl
  have HD : Hid (Bd w P g w s) := Lib.hid (Bd.start h)
  clear h
  go_enter Tryz.func101, Tryz.ntmps101
  go_wp2_with fail
  refine (name_any P g s _ (HD.out.alloc _).pr).mono ?_
  rintro e w1 ⟨rfl, h1, hf1⟩
  obtain ⟨n, s1, hq1⟩ : ∃ a b, PM.name s = (a, b) := ⟨_, _, rfl⟩
  rw [hq1] at h1 ⊢
  have HQ1 := Lib.hid hq1
  clear hq1
  have HD1 : Hid (Bd w P g w1 s1) := Lib.hid ((HD.out.alloc _).call h1 hf1)
  have HR1 : Hid (Ow w w1 w.heap.size 57 [.string ⟨#[]⟩, .int .i64 0, .string ⟨#[]⟩]) := Lib.hid ((Ow.new (by omega) 57 [.string ⟨#[]⟩, .int .i64 0, .string ⟨#[]⟩]).call HPL.out hf1)
  have hs1 := hf1.size
  try simp only [World.size_alloc] at hs1
  have hlR1 := HR1.out.lt
  have hp1 := HD1.out.pr.lt
  clear h1 hf1
  cases hi : PM.is [105, 110, 116] s1
  · have HI := Lib.hid hi
    clear hi
    go_wp2_with fail
    refine (skips_no P g s1 [105, 110, 116] _ (HD1.out.alloc _).pr HI.out).mono ?_
    rintro e w2 ⟨rfl, h2, hf2⟩
    have HI2 := Lib.hid HI.out
    have HD2 : Hid (Bd w P g w2 s1) := Lib.hid ((HD1.out.alloc _).call h2 hf2)
    have HR2 : Hid (Ow w w2 w.heap.size 57 [.string ⟨#[]⟩, .int .i64 0, .string ⟨#[]⟩]) := Lib.hid ((HR1.out.alloc _).call HPL.out hf2)
    have HC2 : Hid (Ow w w2 w1.heap.size 57 [.string ⟨n.toArray⟩, .int .i64 0, .string ⟨#[]⟩]) := Lib.hid ((Ow.new (by omega) 57 [.string ⟨n.toArray⟩, .int .i64 0, .string ⟨#[]⟩]).call HPL.out hf2)
    have hs2 := hf2.size
    try simp only [World.size_alloc] at hs2
    have hlR2 := HR2.out.lt
    have hlC2 := HC2.out.lt
    have hp2 := HD2.out.pr.lt
    clear h2 hf2
    cases hi : PM.is [116, 101, 120, 116] s1
    · have HI := Lib.hid hi
      clear hi
      go_wp2_with fail
      refine (skips_no P g s1 [116, 101, 120, 116] _ HD2.out.pr HI.out).mono ?_
      rintro e w3 ⟨rfl, h3, hf3⟩
      have HI3 := Lib.hid HI.out
      have HD3 : Hid (Bd w P g w3 s1) := Lib.hid (HD2.out.call h3 hf3)
      have HR3 : Hid (Ow w w3 w.heap.size 57 [.string ⟨#[]⟩, .int .i64 0, .string ⟨#[]⟩]) := Lib.hid (HR2.out.call HPL.out hf3)
      have HC3 : Hid (Ow w w3 w1.heap.size 57 [.string ⟨n.toArray⟩, .int .i64 0, .string ⟨#[]⟩]) := Lib.hid (HC2.out.call HPL.out hf3)
      have hs3 := hf3.size
      try simp only [World.size_alloc, World.size_setCell, World.size_drew] at hs3
      have hlR3 := HR3.out.lt
      have hlC3 := HC3.out.lt
      have hp3 := HD3.out.pr.lt
      clear h3 hf3
      go_wp2_with fail
      refine (fails_any P g s1 5 _ HD3.out.pr).mono ?_
      rintro e w4 ⟨rfl, h4, hf4⟩
      obtain ⟨s2, hq4⟩ : ∃ x, PM.fails 5 s1 = x := ⟨_, rfl⟩
      rw [hq4] at h4
      have HQ4 := Lib.hid hq4
      clear hq4
      have HD4 : Hid (Bd w P g w4 s2) := Lib.hid (HD3.out.call h4 hf4)
      have HR4 : Hid (Ow w w4 w.heap.size 57 [.string ⟨#[]⟩, .int .i64 0, .string ⟨#[]⟩]) := Lib.hid (HR3.out.call HPL.out hf4)
      have HC4 : Hid (Ow w w4 w1.heap.size 57 [.string ⟨n.toArray⟩, .int .i64 0, .string ⟨#[]⟩]) := Lib.hid (HC3.out.call HPL.out hf4)
      have hs4 := hf4.size
      try simp only [World.size_alloc, World.size_setCell, World.size_drew] at hs4
      have hlR4 := HR4.out.lt
      have hlC4 := HC4.out.lt
      have hp4 := HD4.out.pr.lt
      clear h4 hf4
      cases hi : PM.is [114, 101, 102] s2
      · have HI := Lib.hid hi
        clear hi
        go_wp2_with fail
        refine (skips_no P g s2 [114, 101, 102] _ HD4.out.pr HI.out).mono ?_
        rintro e w5 ⟨rfl, h5, hf5⟩
        have HI5 := Lib.hid HI.out
        have HD5 : Hid (Bd w P g w5 s2) := Lib.hid (HD4.out.call h5 hf5)
        have HR5 : Hid (Ow w w5 w.heap.size 57 [.string ⟨#[]⟩, .int .i64 0, .string ⟨#[]⟩]) := Lib.hid (HR4.out.call HPL.out hf5)
        have HC5 : Hid (Ow w w5 w1.heap.size 57 [.string ⟨n.toArray⟩, .int .i64 0, .string ⟨#[]⟩]) := Lib.hid (HC4.out.call HPL.out hf5)
        have hs5 := hf5.size
        try simp only [World.size_alloc, World.size_setCell, World.size_drew] at hs5
        have hlR5 := HR5.out.lt
        have hlC5 := HC5.out.lt
        have hp5 := HD5.out.pr.lt
        clear h5 hf5
        have HM : Hid (PM.col s = (⟨n, 0, []⟩, s2)) := Lib.hid (by simp only [PM.col, HQ1.out, HI2.out, HI3.out, HQ4.out, HI5.out, if_false, Bool.false_eq_true, eq_self])
        have hnRC : ¬ w.heap.size = w1.heap.size := by omega
        have hnCR : ¬ w1.heap.size = w.heap.size := by omega
        obtain ⟨Cc0, Cc1, Cc2, Cf0, Cf1, Cf2⟩ := cCol_of HC5.out.blk
        obtain ⟨Rc0, Rc1, Rc2, Rf0, Rf1, Rf2⟩ := cCol_of HR5.out.blk
        go_wp2_with fail
        refine bodyPost_ret (ret_cellCol rfl _ w.heap.size rfl _ _ _ _ (blkPutCol HR5.out.blk _ _ _)) rfl ?_
        rw [HM.out]
        exact ⟨⟨_, rfl, rfl⟩, (HD5.out.pr.keep (frPutCol (Fr.refl [some w.heap.size] _) (.inl (by simp)) _ _ _) (by simp; omega) (by simp; omega)), (frPutCol HD5.out.fr (.inr HR5.out.ge) _ _ _)⟩
      · have HI := Lib.hid hi
        clear hi
        go_wp2_with fail
        refine (skips_yes P g s2 [114, 101, 102] _ HD4.out.pr HI.out).mono ?_
        rintro e w5 ⟨rfl, h5, hf5⟩
        have hi5 := HI.out
        obtain ⟨s3, hq5⟩ : ∃ x, PM.skip s2 = x := ⟨_, rfl⟩
        rw [hq5] at h5
        have HQ5 := Lib.hid hq5
        have HI5 := Lib.hid hi5
        clear hq5 hi5
        have HD5 : Hid (Bd w P g w5 s3) := Lib.hid (HD4.out.call h5 hf5)
        have HR5 : Hid (Ow w w5 w.heap.size 57 [.string ⟨#[]⟩, .int .i64 0, .string ⟨#[]⟩]) := Lib.hid (HR4.out.call HPL.out hf5)
        have HC5 : Hid (Ow w w5 w1.heap.size 57 [.string ⟨n.toArray⟩, .int .i64 0, .string ⟨#[]⟩]) := Lib.hid (HC4.out.call HPL.out hf5)
        have hs5 := hf5.size
        try simp only [World.size_alloc, World.size_setCell, World.size_drew] at hs5
        have hlR5 := HR5.out.lt
        have hlC5 := HC5.out.lt
        have hp5 := HD5.out.pr.lt
        clear h5 hf5
        go_wp2_with fail
        refine (name_any P g s3 _ HD5.out.pr).mono ?_
        rintro e w6 ⟨rfl, h6, hf6⟩
        obtain ⟨r, s4, hq6⟩ : ∃ a b, PM.name s3 = (a, b) := ⟨_, _, rfl⟩
        rw [hq6] at h6 ⊢
        have HQ6 := Lib.hid hq6
        clear hq6
        have HD6 : Hid (Bd w P g w6 s4) := Lib.hid (HD5.out.call h6 hf6)
        have HR6 : Hid (Ow w w6 w.heap.size 57 [.string ⟨#[]⟩, .int .i64 0, .string ⟨#[]⟩]) := Lib.hid (HR5.out.call HPL.out hf6)
        have HC6 : Hid (Ow w w6 w1.heap.size 57 [.string ⟨n.toArray⟩, .int .i64 0, .string ⟨#[]⟩]) := Lib.hid (HC5.out.call HPL.out hf6)
        have hs6 := hf6.size
        try simp only [World.size_alloc, World.size_setCell, World.size_drew] at hs6
        have hlR6 := HR6.out.lt
        have hlC6 := HC6.out.lt
        have hp6 := HD6.out.pr.lt
        clear h6 hf6
        have hnRC : ¬ w.heap.size = w1.heap.size := by omega
        have hnCR : ¬ w1.heap.size = w.heap.size := by omega
        obtain ⟨Cc0, Cc1, Cc2, Cf0, Cf1, Cf2⟩ := cCol_of HC6.out.blk
        have HM : Hid (PM.col s = (⟨n, 0, r⟩, s4)) := Lib.hid (by simp only [PM.col, HQ1.out, HI2.out, HI3.out, HQ4.out, HI5.out, HQ5.out, HQ6.out, if_true, if_false, Bool.false_eq_true, eq_self])
        obtain ⟨Rc0, Rc1, Rc2, Rf0, Rf1, Rf2⟩ := cCol_of HR6.out.blk
        go_wp2_with fail
        refine bodyPost_ret (ret_cellCol rfl _ w.heap.size rfl _ _ _ _ (blkPutCol (HR6.out.other (by omega)).blk _ _ _)) rfl ?_
        rw [HM.out]
        exact ⟨⟨_, rfl, rfl⟩, ((HD6.out.set (by omega)).pr.keep (frPutCol (Fr.refl [some w.heap.size] _) (.inl (by simp)) _ _ _) (by simp; omega) (by simp; omega)), (frPutCol (HD6.out.set (by omega)).fr (.inr HR6.out.ge) _ _ _)⟩
    · have HI := Lib.hid hi
      clear hi
      go_wp2_with fail
      refine (skips_yes P g s1 [116, 101, 120, 116] _ HD2.out.pr HI.out).mono ?_
      rintro e w3 ⟨rfl, h3, hf3⟩
      have hi3 := HI.out
      obtain ⟨s2, hq3⟩ : ∃ x, PM.skip s1 = x := ⟨_, rfl⟩
      rw [hq3] at h3
      have HQ3 := Lib.hid hq3
      have HI3 := Lib.hid hi3
      clear hq3 hi3
      have HD3 : Hid (Bd w P g w3 s2) := Lib.hid (HD2.out.call h3 hf3)
      have HR3 : Hid (Ow w w3 w.heap.size 57 [.string ⟨#[]⟩, .int .i64 0, .string ⟨#[]⟩]) := Lib.hid (HR2.out.call HPL.out hf3)
      have HC3 : Hid (Ow w w3 w1.heap.size 57 [.string ⟨n.toArray⟩, .int .i64 0, .string ⟨#[]⟩]) := Lib.hid (HC2.out.call HPL.out hf3)
      have hs3 := hf3.size
      try simp only [World.size_alloc, World.size_setCell, World.size_drew] at hs3
      have hlR3 := HR3.out.lt
      have hlC3 := HC3.out.lt
      have hp3 := HD3.out.pr.lt
      clear h3 hf3
      obtain ⟨Cc0, Cc1, Cc2, Cf0, Cf1, Cf2⟩ := cCol_of HC3.out.blk
      -- set
      cases hi : PM.is [114, 101, 102] s2
      · have HI := Lib.hid hi
        clear hi
        go_wp2_with fail
        refine (skips_no P g s2 [114, 101, 102] _ (HD3.out.set (by omega)).pr HI.out).mono ?_
        rintro e w4 ⟨rfl, h4, hf4⟩
        have HI4 := Lib.hid HI.out
        have HD4 : Hid (Bd w P g w4 s2) := Lib.hid ((HD3.out.set (by omega)).call h4 hf4)
        have HR4 : Hid (Ow w w4 w.heap.size 57 [.string ⟨#[]⟩, .int .i64 0, .string ⟨#[]⟩]) := Lib.hid ((HR3.out.other (by omega)).call HPL.out hf4)
        have HC4 : Hid (Ow w w4 w1.heap.size 57 [.string ⟨n.toArray⟩, (.int .i64 2), .string ⟨#[]⟩]) := Lib.hid ((HC3.out.set 1 (.int .i64 2)).call HPL.out hf4)
        have hs4 := hf4.size
        try simp only [World.size_setCell] at hs4
        have hlR4 := HR4.out.lt
        have hlC4 := HC4.out.lt
        have hp4 := HD4.out.pr.lt
        clear h4 hf4
        have HM : Hid (PM.col s = (⟨n, 2, []⟩, s2)) := Lib.hid (by simp only [PM.col, HQ1.out, HI2.out, HI3.out, HQ3.out, HI4.out, if_true, if_false, Bool.false_eq_true, eq_self])
        have hnRC : ¬ w.heap.size = w1.heap.size := by omega
        have hnCR : ¬ w1.heap.size = w.heap.size := by omega
        obtain ⟨Cc0, Cc1, Cc2, Cf0, Cf1, Cf2⟩ := cCol_of HC4.out.blk
        obtain ⟨Rc0, Rc1, Rc2, Rf0, Rf1, Rf2⟩ := cCol_of HR4.out.blk
        go_wp2_with fail
        refine bodyPost_ret (ret_cellCol rfl _ w.heap.size rfl _ _ _ _ (blkPutCol HR4.out.blk _ _ _)) rfl ?_
        rw [HM.out]
        exact ⟨⟨_, rfl, rfl⟩, (HD4.out.pr.keep (frPutCol (Fr.refl [some w.heap.size] _) (.inl (by simp)) _ _ _) (by simp; omega) (by simp; omega)), (frPutCol HD4.out.fr (.inr HR4.out.ge) _ _ _)⟩
      · have HI := Lib.hid hi
        clear hi
        go_wp2_with fail
        refine (skips_yes P g s2 [114, 101, 102] _ (HD3.out.set (by omega)).pr HI.out).mono ?_
        rintro e w4 ⟨rfl, h4, hf4⟩
        have hi4 := HI.out
        obtain ⟨s3, hq4⟩ : ∃ x, PM.skip s2 = x := ⟨_, rfl⟩
        rw [hq4] at h4
        have HQ4 := Lib.hid hq4
        have HI4 := Lib.hid hi4
        clear hq4 hi4
        have HD4 : Hid (Bd w P g w4 s3) := Lib.hid ((HD3.out.set (by omega)).call h4 hf4)
        have HR4 : Hid (Ow w w4 w.heap.size 57 [.string ⟨#[]⟩, .int .i64 0, .string ⟨#[]⟩]) := Lib.hid ((HR3.out.other (by omega)).call HPL.out hf4)
        have HC4 : Hid (Ow w w4 w1.heap.size 57 [.string ⟨n.toArray⟩, (.int .i64 2), .string ⟨#[]⟩]) := Lib.hid ((HC3.out.set 1 (.int .i64 2)).call HPL.out hf4)
        have hs4 := hf4.size
        try simp only [World.size_setCell] at hs4
        have hlR4 := HR4.out.lt
        have hlC4 := HC4.out.lt
        have hp4 := HD4.out.pr.lt
        clear h4 hf4
        go_wp2_with fail
        refine (name_any P g s3 _ HD4.out.pr).mono ?_
        rintro e w5 ⟨rfl, h5, hf5⟩
        obtain ⟨r, s4, hq5⟩ : ∃ a b, PM.name s3 = (a, b) := ⟨_, _, rfl⟩
        rw [hq5] at h5 ⊢
        have HQ5 := Lib.hid hq5
        clear hq5
        have HD5 : Hid (Bd w P g w5 s4) := Lib.hid (HD4.out.call h5 hf5)
        have HR5 : Hid (Ow w w5 w.heap.size 57 [.string ⟨#[]⟩, .int .i64 0, .string ⟨#[]⟩]) := Lib.hid (HR4.out.call HPL.out hf5)
        have HC5 : Hid (Ow w w5 w1.heap.size 57 [.string ⟨n.toArray⟩, (.int .i64 2), .string ⟨#[]⟩]) := Lib.hid (HC4.out.call HPL.out hf5)
        have hs5 := hf5.size
        try simp only [World.size_alloc, World.size_setCell, World.size_drew] at hs5
        have hlR5 := HR5.out.lt
        have hlC5 := HC5.out.lt
        have hp5 := HD5.out.pr.lt
        clear h5 hf5
        have hnRC : ¬ w.heap.size = w1.heap.size := by omega
        have hnCR : ¬ w1.heap.size = w.heap.size := by omega
        obtain ⟨Cc0, Cc1, Cc2, Cf0, Cf1, Cf2⟩ := cCol_of HC5.out.blk
        have HM : Hid (PM.col s = (⟨n, 2, r⟩, s4)) := Lib.hid (by simp only [PM.col, HQ1.out, HI2.out, HI3.out, HQ3.out, HI4.out, HQ4.out, HQ5.out, if_true, if_false, Bool.false_eq_true, eq_self])
        obtain ⟨Rc0, Rc1, Rc2, Rf0, Rf1, Rf2⟩ := cCol_of HR5.out.blk
        go_wp2_with fail
        refine bodyPost_ret (ret_cellCol rfl _ w.heap.size rfl _ _ _ _ (blkPutCol (HR5.out.other (by omega)).blk _ _ _)) rfl ?_
        rw [HM.out]
        exact ⟨⟨_, rfl, rfl⟩, ((HD5.out.set (by omega)).pr.keep (frPutCol (Fr.refl [some w.heap.size] _) (.inl (by simp)) _ _ _) (by simp; omega) (by simp; omega)), (frPutCol (HD5.out.set (by omega)).fr (.inr HR5.out.ge) _ _ _)⟩
  · have HI := Lib.hid hi
    clear hi
    go_wp2_with fail
    refine (skips_yes P g s1 [105, 110, 116] _ (HD1.out.alloc _).pr HI.out).mono ?_
    rintro e w2 ⟨rfl, h2, hf2⟩
    have hi2 := HI.out
    obtain ⟨s2, hq2⟩ : ∃ x, PM.skip s1 = x := ⟨_, rfl⟩
    rw [hq2] at h2
    have HQ2 := Lib.hid hq2
    have HI2 := Lib.hid hi2
    clear hq2 hi2
    have HD2 : Hid (Bd w P g w2 s2) := Lib.hid ((HD1.out.alloc _).call h2 hf2)
    have HR2 : Hid (Ow w w2 w.heap.size 57 [.string ⟨#[]⟩, .int .i64 0, .string ⟨#[]⟩]) := Lib.hid ((HR1.out.alloc _).call HPL.out hf2)
    have HC2 : Hid (Ow w w2 w1.heap.size 57 [.string ⟨n.toArray⟩, .int .i64 0, .string ⟨#[]⟩]) := Lib.hid ((Ow.new (by omega) 57 [.string ⟨n.toArray⟩, .int .i64 0, .string ⟨#[]⟩]).call HPL.out hf2)
    have hs2 := hf2.size
    try simp only [World.size_alloc] at hs2
    have hlR2 := HR2.out.lt
    have hlC2 := HC2.out.lt
    have hp2 := HD2.out.pr.lt
    clear h2 hf2
    obtain ⟨Cc0, Cc1, Cc2, Cf0, Cf1, Cf2⟩ := cCol_of HC2.out.blk
    cases hi : PM.is [114, 101, 102] s2
    · have HI := Lib.hid hi
      clear hi
      go_wp2_with fail
      refine (skips_no P g s2 [114, 101, 102] _ (HD2.out.set (by omega)).pr HI.out).mono ?_
      rintro e w3 ⟨rfl, h3, hf3⟩
      have HI3 := Lib.hid HI.out
      have HD3 : Hid (Bd w P g w3 s2) := Lib.hid ((HD2.out.set (by omega)).call h3 hf3)
      have HR3 : Hid (Ow w w3 w.heap.size 57 [.string ⟨#[]⟩, .int .i64 0, .string ⟨#[]⟩]) := Lib.hid ((HR2.out.other (by omega)).call HPL.out hf3)
      have HC3 : Hid (Ow w w3 w1.heap.size 57 [.string ⟨n.toArray⟩, (.int .i64 1), .string ⟨#[]⟩]) := Lib.hid ((HC2.out.set 1 (.int .i64 1)).call HPL.out hf3)
      have hs3 := hf3.size
      try simp only [World.size_setCell] at hs3
      have hlR3 := HR3.out.lt
      have hlC3 := HC3.out.lt
      have hp3 := HD3.out.pr.lt
      clear h3 hf3
      have HM : Hid (PM.col s = (⟨n, 1, []⟩, s2)) := Lib.hid (by simp only [PM.col, HQ1.out, HI2.out, HQ2.out, HI3.out, if_true, if_false, Bool.false_eq_true, eq_self])
      have hnRC : ¬ w.heap.size = w1.heap.size := by omega
      have hnCR : ¬ w1.heap.size = w.heap.size := by omega
      obtain ⟨Cc0, Cc1, Cc2, Cf0, Cf1, Cf2⟩ := cCol_of HC3.out.blk
      obtain ⟨Rc0, Rc1, Rc2, Rf0, Rf1, Rf2⟩ := cCol_of HR3.out.blk
      go_wp2_with fail
      refine bodyPost_ret (ret_cellCol rfl _ w.heap.size rfl _ _ _ _ (blkPutCol HR3.out.blk _ _ _)) rfl ?_
      rw [HM.out]
      exact ⟨⟨_, rfl, rfl⟩, (HD3.out.pr.keep (frPutCol (Fr.refl [some w.heap.size] _) (.inl (by simp)) _ _ _) (by simp; omega) (by simp; omega)), (frPutCol HD3.out.fr (.inr HR3.out.ge) _ _ _)⟩
    · have HI := Lib.hid hi
      clear hi
      go_wp2_with fail
      refine (skips_yes P g s2 [114, 101, 102] _ (HD2.out.set (by omega)).pr HI.out).mono ?_
      rintro e w3 ⟨rfl, h3, hf3⟩
      have hi3 := HI.out
      obtain ⟨s3, hq3⟩ : ∃ x, PM.skip s2 = x := ⟨_, rfl⟩
      rw [hq3] at h3
      have HQ3 := Lib.hid hq3
      have HI3 := Lib.hid hi3
      clear hq3 hi3
      have HD3 : Hid (Bd w P g w3 s3) := Lib.hid ((HD2.out.set (by omega)).call h3 hf3)
      have HR3 : Hid (Ow w w3 w.heap.size 57 [.string ⟨#[]⟩, .int .i64 0, .string ⟨#[]⟩]) := Lib.hid ((HR2.out.other (by omega)).call HPL.out hf3)
      have HC3 : Hid (Ow w w3 w1.heap.size 57 [.string ⟨n.toArray⟩, (.int .i64 1), .string ⟨#[]⟩]) := Lib.hid ((HC2.out.set 1 (.int .i64 1)).call HPL.out hf3)
      have hs3 := hf3.size
      try simp only [World.size_setCell] at hs3
      have hlR3 := HR3.out.lt
      have hlC3 := HC3.out.lt
      have hp3 := HD3.out.pr.lt
      clear h3 hf3
      go_wp2_with fail
      refine (name_any P g s3 _ HD3.out.pr).mono ?_
      rintro e w4 ⟨rfl, h4, hf4⟩
      obtain ⟨r, s4, hq4⟩ : ∃ a b, PM.name s3 = (a, b) := ⟨_, _, rfl⟩
      rw [hq4] at h4 ⊢
      have HQ4 := Lib.hid hq4
      clear hq4
      have HD4 : Hid (Bd w P g w4 s4) := Lib.hid (HD3.out.call h4 hf4)
      have HR4 : Hid (Ow w w4 w.heap.size 57 [.string ⟨#[]⟩, .int .i64 0, .string ⟨#[]⟩]) := Lib.hid (HR3.out.call HPL.out hf4)
      have HC4 : Hid (Ow w w4 w1.heap.size 57 [.string ⟨n.toArray⟩, (.int .i64 1), .string ⟨#[]⟩]) := Lib.hid (HC3.out.call HPL.out hf4)
      have hs4 := hf4.size
      try simp only [World.size_alloc, World.size_setCell, World.size_drew] at hs4
      have hlR4 := HR4.out.lt
      have hlC4 := HC4.out.lt
      have hp4 := HD4.out.pr.lt
      clear h4 hf4
      have hnRC : ¬ w.heap.size = w1.heap.size := by omega
      have hnCR : ¬ w1.heap.size = w.heap.size := by omega
      obtain ⟨Cc0, Cc1, Cc2, Cf0, Cf1, Cf2⟩ := cCol_of HC4.out.blk
      have HM : Hid (PM.col s = (⟨n, 1, r⟩, s4)) := Lib.hid (by simp only [PM.col, HQ1.out, HI2.out, HQ2.out, HI3.out, HQ3.out, HQ4.out, if_true, eq_self])
      obtain ⟨Rc0, Rc1, Rc2, Rf0, Rf1, Rf2⟩ := cCol_of HR4.out.blk
      go_wp2_with fail
      refine bodyPost_ret (ret_cellCol rfl _ w.heap.size rfl _ _ _ _ (blkPutCol (HR4.out.other (by omega)).blk _ _ _)) rfl ?_
      rw [HM.out]
      exact ⟨⟨_, rfl, rfl⟩, ((HD4.out.set (by omega)).pr.keep (frPutCol (Fr.refl [some w.heap.size] _) (.inl (by simp)) _ _ _) (by simp; omega) (by simp; omega)), (frPutCol (HD4.out.set (by omega)).fr (.inr HR4.out.ge) _ _ _)⟩

theorem Bd.skip {w0 w : World} {P g off cap : Nat} {s : PS} (h : Bd w0 P g w s) (hc : w.cell? ⟨P, 0, none⟩ = some (.slice (some ⟨g, off, none⟩) s.l.length cap)) (hk : s.now.kind ≠ 6) : Bd w0 P g (w.setCell ⟨P, 0, none⟩ (.slice (some ⟨g, off + 4, none⟩) (s.l.length - 1) (cap - 1))) (PM.skip s) := ⟨h.pr.setSkip hc hk, h.fr.trans (frSet _), h.lt⟩
theorem col_cells {b : Nat} {w : World} {e : Ending} {x : Ex} (h : ExR b w e x) : ∃ (op kind int : Int) (t tb n : B) (l : List Ex) (a : Option Addr) (len cap : Nat), x = .mk op kind int t tb n l ∧ e = .returned (.agg #[.int .i64 op, .int .i64 kind, .int .i64 int, .string ⟨t.toArray⟩, .string ⟨tb.toArray⟩, .string ⟨n.toArray⟩, .slice a len cap]) ∧
    Rep.E 82 (fun g => b ≤ g) w x [.int .i64 op, .int .i64 kind, .int .i64 int, .string ⟨t.toArray⟩, .string ⟨tb.toArray⟩, .string ⟨n.toArray⟩, .slice a len cap] := by
  obtain ⟨cs, rfl, hr⟩ := h
  have hr' := hr
  cases hr with
  | mk op kind int t tb n args v hv =>
    obtain ⟨a, len, cap, rfl⟩ := hv.form
    exact ⟨op, kind, int, t, tb, n, args, a, len, cap, rfl, rfl, hr'⟩
def aggs : List (B × Int) := [([115, 117, 109], 2), ([109, 105, 110], 3), ([109, 97, 120], 4)]
theorem find_agg (wd : B) : (if wd = [115, 117, 109] then (2 : Int) else if wd = [109, 105, 110] then 3 else if wd = [109, 97, 120] then 4 else 0) = (find aggs wd).getD 0 := by
  simp only [aggs, find]
  by_cases h1 : wd = [115, 117, 109]
  · rw [if_pos h1, if_pos h1]; rfl
  · rw [if_neg h1, if_neg h1]
    by_cases h2 : wd = [109, 105, 110]
    · rw [if_pos h2, if_pos h2]; rfl
    · rw [if_neg h2, if_neg h2]
      by_cases h3 : wd = [109, 97, 120]
      · rw [if_pos h3, if_pos h3]; rfl
      · rw [if_neg h3, if_neg h3]; rfl
theorem sign_kind {s : PS} (h : PM.sign s ≠ []) : s.now.kind ≠ 6 := by
  intro h6
  apply h
  rw [PM.sign, PM.wordy, h6]
  simp

set_option maxRecDepth 100000 in
set_option maxHeartbeats 4000000 in
theorem item_any (P g : Nat) (s : PS) (w : World) (h : PR w P g s) :
    Calls Tryz.prog 107 #[.pointer (some ⟨P, 0, none⟩)] w fun e w' => (∃ cs, e = .returned (agg cs) ∧ kIt.E (fun b => w.heap.size ≤ b) w' (PM.item s).1 cs) ∧ PR w' P g (PM.item s).2 ∧ Fr [some P] w w' := by
  have hPl := h.lt
  have hgP := h.ne
  have HPL := Lib.hid hPl
  have HD : Hid (Bd w P g w s) := Lib.hid (Bd.start h)
  clear h
  go_enter Tryz.func107, Tryz.ntmps107
  cases hi : PM.is [99, 111, 117, 110, 116] s
  · have HI := Lib.hid hi
    clear hi
    go_wp2_with fail
    refine (skips_no P g s [99, 111, 117, 110, 116] _ (HD.out.alloc _).pr HI.out).mono ?_
    rintro e w1 ⟨rfl, h1, hf1⟩
    have HI1 := Lib.hid HI.out
    have HD1 : Hid (Bd w P g w1 s) := Lib.hid ((HD.out.alloc _).call h1 hf1)
    have HR1 : Hid (Ow w w1 w.heap.size 60 [.int .i64 0, .string ⟨#[]⟩, .string ⟨#[]⟩]) := Lib.hid ((Ow.new (by omega) 60 [.int .i64 0, .string ⟨#[]⟩, .string ⟨#[]⟩]).call HPL.out hf1)
    have hs1 := hf1.size
    try simp only [World.size_alloc] at hs1
    have hlR1 := HR1.out.lt
    have hp1 := HD1.out.pr.lt
    clear h1 hf1
    have hmk := fun w => run_make w
    have hp50 := run_put w1 [] [115, 117, 109] 2 (by simp)
    simp only [List.nil_append] at hp50
    have hp51 := run_put w1 [([115, 117, 109], 2)] [109, 105, 110] 3 (by simp)
    simp only [List.cons_append, List.nil_append] at hp51
    have hp52 := run_put w1 [([115, 117, 109], 2), ([109, 105, 110], 3)] [109, 97, 120] 4 (by simp)
    simp only [List.cons_append, List.nil_append] at hp52
    go_wp2_with fail
    refine (sign_any P g s _ (HD1.out.alloc _).pr).mono ?_
    rintro e w2 ⟨rfl, h2, hf2⟩
    have hlk := (run_look w2 w1.heap.size aggs (PM.sign s) ((hf2.blk (by simp) (by simp)).trans (heap_alloc_new w1 (mapObj aggs)))).2
    obtain ⟨sg, hsg⟩ : ∃ sg, PM.sign s = sg := ⟨_, rfl⟩
    rw [hsg] at hlk ⊢
    have HSG := Lib.hid hsg
    obtain ⟨ag, hag⟩ : ∃ ag, (find aggs sg).getD 0 = ag := ⟨_, rfl⟩
    rw [hag] at hlk
    have HAG := Lib.hid hag
    clear hsg hag hmk hp50 hp51 hp52
    have HD2 : Hid (Bd w P g w2 s) := Lib.hid ((HD1.out.alloc _).call0 h2 hf2)
    have HR2 : Hid (Ow w w2 w.heap.size 60 [.int .i64 0, .string ⟨#[]⟩, .string ⟨#[]⟩]) := Lib.hid ((HR1.out.alloc _).call0 hf2)
    have hs2 := hf2.size
    try simp only [World.size_alloc] at hs2
    have hlR2 := HR2.out.lt
    have hp2 := HD2.out.pr.lt
    clear h2 hf2
    by_cases ha : ag = 0
    · have HA := Lib.hid ha
      subst ha
      go_wp2_with fail
      refine (column_any P g w2.heap.size s _ HD2.out.pr).mono ?_
      rintro e w3 ⟨hx, h3, hf3⟩
      obtain ⟨cx, s1, hq3⟩ : ∃ a b, PM.column s = (a, b) := ⟨_, _, rfl⟩
      rw [hq3] at h3 hx
      have HQ3 := Lib.hid hq3
      obtain ⟨co, ck, ci, cz, ct, cn, cl, ca, ce, cc, rfl, rfl, hrep⟩ := col_cells hx
      have Hcp := Lib.hid hrep
      clear hq3 hx hrep
      have HD3 : Hid (Bd w P g w3 s1) := Lib.hid (HD2.out.call h3 hf3)
      have HR3 : Hid (Ow w w3 w.heap.size 60 [.int .i64 0, .string ⟨#[]⟩, .string ⟨#[]⟩]) := Lib.hid (HR2.out.call HPL.out hf3)
      have hs3 := hf3.size
      try simp only [World.size_alloc, World.size_setCell, World.size_drew] at hs3
      have hlR3 := HR3.out.lt
      have hp3 := HD3.out.pr.lt
      clear h3 hf3
      have HM : Hid (PM.item s = (⟨0, ct, cn⟩, s1)) := Lib.hid (by simp only [PM.item, find_agg, HI1.out, HSG.out, HAG.out, HQ3.out, if_true, if_false, Bool.false_eq_true, eq_self])
      obtain ⟨Rc0, Rc1, Rc2, Rf0, Rf1, Rf2⟩ := cIt_of HR3.out.blk
      go_wp2_with fail
      refine bodyPost_ret (ret_cellIt rfl _ w.heap.size rfl _ _ _ _ (Blk.alloc (blkPutIt HR3.out.blk _ _ _) _)) rfl ?_
      rw [HM.out]
      exact ⟨⟨_, rfl, rfl⟩, ((HD3.out.pr.keep (frPutIt (Fr.refl [some w.heap.size] _) (.inl (by simp)) _ _ _) (by simp; omega) (by simp; omega)).alloc _), ((frPutIt HD3.out.fr (.inr HR3.out.ge) _ _ _).alloc _)⟩
    · have hab : (ag == 0) = false := by simp [ha]
      have HA := Lib.hid ha
      have hk6 : s.now.kind ≠ 6 := sign_kind (by intro h; rw [HSG.out] at h; rw [h] at HAG; exact ha HAG.out.symm)
      have HK6 := Lib.hid hk6
      have h2l := WF.two HD2.out.pr.wf hk6
      obtain ⟨off, cp, hat⟩ := HD2.out.pr.at
      obtain ⟨c0, c1, c2, c3, f0, f1, f2, f3, t0, t1, t2, t3, hcap, hpos, hlim⟩ := hat
      have HC0 := Lib.hid c0
      have hpi : (1 : Int) < (s.l.length : Int) := by omega
      have hci : (s.l.length : Int) ≤ (cp : Int) := by omega
      have hc1 : ¬ cp = 1 := by omega
      clear ha hk6 c1 c2 c3 f1 f2 f3 t0 t1 t2 t3
      obtain ⟨s1, hqs⟩ : ∃ x, PM.skip s = x := ⟨_, rfl⟩
      have HQS := Lib.hid hqs
      clear hqs
      have HDS := Lib.hid (HD2.out.skip HC0.out HK6.out)
      rw [HQS.out] at HDS
      go_wp2_with fail
      refine (needs_new (n := w2.heap.size) HDS.out.pr [[40]] (by decide) (by simp)).mono ?_
      rintro e w3 ⟨rfl, h3, hf3⟩
      obtain ⟨s2, hq3⟩ : ∃ x, PM.needs [[40]] s1 = x := ⟨_, rfl⟩
      rw [hq3] at h3
      have HQ3 := Lib.hid hq3
      clear hq3 c0 f0 hlk
      have HD3 : Hid (Bd w P g w3 s2) := Lib.hid ((HDS.out.alloc _).call h3 hf3)
      have HR3 : Hid (Ow w w3 w.heap.size 60 [.int .i64 0, .string ⟨#[]⟩, .string ⟨#[]⟩]) := Lib.hid (((HR2.out.other (by omega)).alloc _).call HPL.out hf3)
      have hs3 := hf3.size
      try simp only [World.size_alloc, World.size_setCell] at hs3
      have hlR3 := HR3.out.lt
      have hp3 := HD3.out.pr.lt
      clear h3 hf3
      go_wp2_with fail
      refine (column_any P g w3.heap.size s2 _ HD3.out.pr).mono ?_
      rintro e w4 ⟨hx, h4, hf4⟩
      obtain ⟨cx, s3, hq4⟩ : ∃ a b, PM.column s2 = (a, b) := ⟨_, _, rfl⟩
      rw [hq4] at h4 hx
      have HQ4 := Lib.hid hq4
      obtain ⟨co, ck, ci, cz, ct, cn, cl, ca, ce, cc, rfl, rfl, hrep⟩ := col_cells hx
      have Hcp := Lib.hid hrep
      clear hq4 hx hrep
      have HD4 : Hid (Bd w P g w4 s3) := Lib.hid (HD3.out.call h4 hf4)
      have HR4 : Hid (Ow w w4 w.heap.size 60 [.int .i64 0, .string ⟨#[]⟩, .string ⟨#[]⟩]) := Lib.hid (HR3.out.call HPL.out hf4)
      have hs4 := hf4.size
      try simp only [World.size_alloc, World.size_setCell, World.size_drew] at hs4
      have hlR4 := HR4.out.lt
      have hp4 := HD4.out.pr.lt
      clear h4 hf4
      go_wp2_with fail
      refine (needs_new (n := w4.heap.size + 1) (HD4.out.alloc _).pr [[41]] (by decide) (by simp)).mono ?_
      rintro e w5 ⟨rfl, h5, hf5⟩
      obtain ⟨s4, hq5⟩ : ∃ x, PM.needs [[41]] s3 = x := ⟨_, rfl⟩
      rw [hq5] at h5
      have HQ5 := Lib.hid hq5
      clear hq5
      have HD5 : Hid (Bd w P g w5 s4) := Lib.hid (((HD4.out.alloc _).alloc _).call h5 hf5)
      have HR5 : Hid (Ow w w5 w.heap.size 60 [.int .i64 0, .string ⟨#[]⟩, .string ⟨#[]⟩]) := Lib.hid (((HR4.out.alloc _).alloc _).call HPL.out hf5)
      have HC5 : Hid (Ow w w5 w4.heap.size 82 [.int .i64 co, .int .i64 ck, .int .i64 ci, .string ⟨cz.toArray⟩, .string ⟨ct.toArray⟩, .string ⟨cn.toArray⟩, .slice ca ce cc]) := Lib.hid (((Ow.new (by omega) 82 [.int .i64 co, .int .i64 ck, .int .i64 ci, .string ⟨cz.toArray⟩, .string ⟨ct.toArray⟩, .string ⟨cn.toArray⟩, .slice ca ce cc]).alloc _).call HPL.out hf5)
      have hs5 := hf5.size
      try simp only [World.size_alloc] at hs5
      have hlR5 := HR5.out.lt
      have hlC5 := HC5.out.lt
      have hp5 := HD5.out.pr.lt
      clear h5 hf5
      obtain ⟨Cc0, Cc1, Cc2, Cc3, Cc4, Cc5, Cc6, Cf0, Cf1, Cf2, Cf3, Cf4, Cf5, Cf6⟩ := c7_of HC5.out.blk
      have hnRC : ¬ w.heap.size = w4.heap.size := by omega
      have hnCR : ¬ w4.heap.size = w.heap.size := by omega
      have HM : Hid (PM.item s = (⟨ag, ct, cn⟩, s4)) := Lib.hid (by simp only [PM.item, find_agg, HI1.out, HSG.out, HAG.out, HA.out, HQS.out, HQ3.out, HQ4.out, HQ5.out, if_false, Bool.false_eq_true, eq_self])
      obtain ⟨Rc0, Rc1, Rc2, Rf0, Rf1, Rf2⟩ := cIt_of HR5.out.blk
      go_wp2_with fail
      refine bodyPost_ret (ret_cellIt rfl _ w.heap.size rfl _ _ _ _ (blkPutIt HR5.out.blk _ _ _)) rfl ?_
      rw [HM.out]
      exact ⟨⟨_, rfl, rfl⟩, (HD5.out.pr.keep (frPutIt (Fr.refl [some w.heap.size] _) (.inl (by simp)) _ _ _) (by simp; omega) (by simp; omega)), (frPutIt HD5.out.fr (.inr HR5.out.ge) _ _ _)⟩
  · have HI := Lib.hid hi
    clear hi
    go_wp2_with fail
    refine (skips_yes P g s [99, 111, 117, 110, 116] _ (HD.out.alloc _).pr HI.out).mono ?_
    rintro e w1 ⟨rfl, h1, hf1⟩
    have hi1 := HI.out
    obtain ⟨s1, hq1⟩ : ∃ x, PM.skip s = x := ⟨_, rfl⟩
    rw [hq1] at h1
    have HQ1 := Lib.hid hq1
    have HI1 := Lib.hid hi1
    clear hq1 hi1
    have HD1 : Hid (Bd w P g w1 s1) := Lib.hid ((HD.out.alloc _).call h1 hf1)
    have HR1 : Hid (Ow w w1 w.heap.size 60 [.int .i64 0, .string ⟨#[]⟩, .string ⟨#[]⟩]) := Lib.hid ((Ow.new (by omega) 60 [.int .i64 0, .string ⟨#[]⟩, .string ⟨#[]⟩]).call HPL.out hf1)
    have hs1 := hf1.size
    try simp only [World.size_alloc] at hs1
    have hlR1 := HR1.out.lt
    have hp1 := HD1.out.pr.lt
    clear h1 hf1
    go_wp2_with fail
    refine (needs_new (n := w1.heap.size) HD1.out.pr [[40], [42], [41]] (by decide) (by simp)).mono ?_
    rintro e w2 ⟨rfl, h2, hf2⟩
    obtain ⟨s2, hq2⟩ : ∃ x, PM.needs [[40], [42], [41]] s1 = x := ⟨_, rfl⟩
    rw [hq2] at h2
    have HQ2 := Lib.hid hq2
    clear hq2
    have HD2 : Hid (Bd w P g w2 s2) := Lib.hid ((HD1.out.alloc _).call h2 hf2)
    have HR2 : Hid (Ow w w2 w.heap.size 60 [.int .i64 0, .string ⟨#[]⟩, .string ⟨#[]⟩]) := Lib.hid ((HR1.out.alloc _).call HPL.out hf2)
    have hs2 := hf2.size
    try simp only [World.size_alloc] at hs2
    have hlR2 := HR2.out.lt
    have hp2 := HD2.out.pr.lt
    clear h2 hf2
    have HM : Hid (PM.item s = (⟨1, [], []⟩, s2)) := Lib.hid (by simp only [PM.item, find_agg, HI1.out, HQ1.out, HQ2.out, if_true, eq_self])
    obtain ⟨Rc0, Rc1, Rc2, Rf0, Rf1, Rf2⟩ := cIt_of HR2.out.blk
    go_wp2_with fail
    refine bodyPost_ret (ret_cellIt rfl _ w.heap.size rfl _ _ _ _ (blkPutIt HR2.out.blk _ _ _)) rfl ?_
    rw [HM.out]
    exact ⟨⟨_, rfl, rfl⟩, (HD2.out.pr.keep (frPutIt (Fr.refl [some w.heap.size] _) (.inl (by simp)) _ _ _) (by simp; omega) (by simp; omega)), (frPutIt HD2.out.fr (.inr HR2.out.ge) _ _ _)⟩
end Px
end Go.Proofs.YtmdnhinpaflamaaGreatDoor
namespace Go.Proofs.YtmdnhinpaflamaaGreatDoor
open Go.RowKit
namespace Px
open PM (PS B Ex)

theorem some_no (f : Value) (w : World) :
    Calls Tryz.prog 109 #[.bool false, f] w fun e w' => e = .returned (.slice none 0 0) ∧ w = w' := by
  go_enter Tryz.func109, Tryz.ntmps109
  go_wp2_with fail
  go_ret
  exact ⟨rfl, rfl⟩

set_option maxRecDepth 100000 in
set_option maxHeartbeats 2000000 in
theorem some_yes (P g : Nat) (s : PS) (k : Nat) (fst cap : Array Value) (n : Nat) (f : PS → Ex × PS) (w : World) (h : PR w P g s) (h0 : 0 ≤ s.deep) (h64 : s.deep ≤ 64) (hn : s.l.length ≤ n)
    (hrun : ∀ w : World, Sem.run Tryz.prog (callFunc k (fst ++ cap)) w = .ok (.enter k (fst ++ cap)) w) (hf : Reads P g w k (fst ++ cap) n f) :
    Calls Tryz.prog 109 #[.bool true, .func (.func k) fst cap] w fun e w' => (∃ v, e = .returned v ∧ Rep.Es 82 (fun b => w.heap.size ≤ b) w' [(f s).1] v) ∧ PR w' P g (f s).2 ∧ Fr [some P] w w' := by
  have HRUN := Lib.hid hrun
  have HC1 := Lib.hid (hf w s (Fr.refl _ _) h hn h0 h64)
  clear h hrun hf
  go_enter Tryz.func109, Tryz.ntmps109
  go_wp2_with fail
  rw [HRUN.out, Oper.upon_enter]
  refine HC1.out.mono ?_
  rintro e w1 ⟨hx, h1, hf1⟩
  obtain ⟨op, kind, int, t, tb, nm, va, vl, vc, rfl, hrep⟩ := ex_cells hx
  have HREP := Lib.hid hrep
  have H1 := Lib.hid h1
  have HF1 := Lib.hid hf1
  have hs1 := hf1.size
  clear hx h1 hf1 hrep HC1
  go_wp2_with fail
  go_ret
  refine ⟨⟨.slice (some ⟨w1.heap.size, 0, none⟩) 1 1, rfl, ?_⟩, H1.out.alloc _, HF1.out.alloc _⟩
  have hr := HREP.out
  refine .mk _ _ _ (.cons _ [] _ [] (Rep.E.keep ((Fr.refl [] w1).alloc _) (fun _ _ => by simp) hr) .nil) ?_ (fun g hg => ?_)
  · rw [List.append_nil]
    refine ⟨by simp, .inr ⟨w1.heap.size, 0, 1, _, rfl, Blk.new w1 82 _, Nat.le_refl _, by simp [maxLen], by simp, by simp⟩⟩
  · simp only [Value.ownBlock, Option.some.injEq] at hg
    subst hg
    exact hs1

set_option maxRecDepth 100000 in
set_option maxHeartbeats 2000000 in
theorem where_any (P g : Nat) (n : Nat) (s : PS) (w : World) (h : PR w P g s) (h0 : 0 ≤ s.deep) (h64 : s.deep ≤ 64) (hn : s.l.length ≤ n) :
    Calls Tryz.prog 57 #[.pointer (some ⟨P, 0, none⟩)] w fun e w' => (∃ v, e = .returned v ∧ Rep.Es 82 (fun b => w.heap.size ≤ b) w' (PM.wheres n s).1 v) ∧ PR w' P g (PM.wheres n s).2 ∧ Fr [some P] w w' := by
  have HP := Lib.hid h
  have HN := Lib.hid (And.intro h0 (And.intro h64 hn))
  clear h h0 h64 hn
  go_enter Tryz.func57, Tryz.ntmps57
  go_wp2_with fail
  cases hi : PM.is [119, 104, 101, 114, 101] s
  · have HM : Hid (PM.wheres n s = ([], s)) := Lib.hid (by rw [PM.wheres, if_neg (by rw [hi]; decide)])
    refine (skips_no P g s [119, 104, 101, 114, 101] _ HP.out hi).mono ?_
    rintro e w1 ⟨rfl, h1, hf1⟩
    have H1 := Lib.hid h1
    have HF1 := Lib.hid hf1
    clear h1 hf1 hi
    go_wp2_with fail
    refine (some_no _ _).mono ?_
    rintro e w2 ⟨rfl, rfl⟩
    go_wp2_with fail
    go_ret
    rw [HM.out]
    exact ⟨⟨_, rfl, Rep.Es.nil⟩, H1.out, HF1.out⟩
  · have HM : Hid (PM.wheres n s = ([(PM.expr n (PM.skip s)).1], (PM.expr n (PM.skip s)).2)) := Lib.hid (by rw [PM.wheres, if_pos hi])
    refine (skips_yes P g s [119, 104, 101, 114, 101] _ HP.out hi).mono ?_
    rintro e w1 ⟨rfl, h1, hf1⟩
    have H1 := Lib.hid h1
    have HF1 := Lib.hid hf1
    have hs1 := hf1.size
    clear h1 hf1 hi
    go_wp2_with fail
    refine (some_yes P g (PM.skip s) 55 #[.pointer (some ⟨P, 0, none⟩)] #[] n (PM.expr n) w1 H1.out HN.out.1 HN.out.2.1 (by have := (PM.calm_skip s).2; have := HN.out; omega) (fun w => by kernel_rfl) (expr_all n P g w1)).mono ?_
    rintro e w2 ⟨⟨v, rfl, hv⟩, h2, hf2⟩
    have HV := Lib.hid hv
    have H2 := Lib.hid h2
    have HF2 := Lib.hid hf2
    clear hv h2 hf2
    go_wp2_with fail
    go_ret
    rw [HM.out]
    exact ⟨⟨_, rfl, Rep.Es.mono (fun b hb => by omega) HV.out⟩, H2.out, HF1.out.trans HF2.out⟩
end Px
end Go.Proofs.YtmdnhinpaflamaaGreatDoor
namespace Go.Proofs.YtmdnhinpaflamaaGreatDoor
open Go.RowKit
namespace PM
theorem good_more {α : Type} {f : PS → α × PS} (hf : Good f) : ∀ (n : Nat) (acc : List α) (s : PS), (more f n acc s).2.deep = s.deep ∧ (more f n acc s).2.l.length ≤ s.l.length
  | 0, acc, s => ⟨rfl, Nat.le_refl _⟩
  | n + 1, acc, s => by
    rw [more]
    split
    · have h1 := calm_skip s
      have h2 := hf (skip s)
      have h3 := good_more hf n (acc ++ [(f (skip s)).1]) (f (skip s)).2
      exact ⟨h3.1.trans (h2.1.trans h1.1), Nat.le_trans h3.2 (Nat.le_trans h2.2 h1.2)⟩
    · exact ⟨rfl, Nat.le_refl _⟩
theorem good_list {α : Type} {f : PS → α × PS} (hf : Good f) : Good (list f) := fun s => by
  have h1 := hf s
  have h2 := good_more hf (f s).2.l.length [(f s).1] (f s).2
  exact ⟨h2.1.trans h1.1, Nat.le_trans h2.2 h1.2⟩
theorem good_wheres (n : Nat) : Good (wheres n) := fun s => by
  unfold wheres
  split
  · have h1 := calm_skip s
    have h2 := good_exprN n (skip s)
    exact ⟨h2.1.trans h1.1, Nat.le_trans h2.2 h1.2⟩
  · exact ⟨rfl, Nat.le_refl _⟩
theorem good_skips (w : B) : Good (skips w) := fun s => by
  unfold skips
  split
  · exact calm_skip s
  · exact ⟨rfl, Nat.le_refl _⟩
theorem good_item : Good item := fun s => by
  unfold item
  split
  · have h1 := calm_skip s
    have h2 := calm_needs [[40], [42], [41]] (skip s)
    exact ⟨h2.1.trans h1.1, Nat.le_trans h2.2 h1.2⟩
  · simp only []
    generalize (if sign s = [115, 117, 109] then (2 : Int) else if sign s = [109, 105, 110] then 3 else if sign s = [109, 97, 120] then 4 else 0) = agg
    split
    · have h1 := good_column s
      revert h1
      rcases column s with ⟨⟨_, _, _, _, _, _, _⟩, s1⟩
      exact id
    · have h1 := calm_skip s
      have h2 := calm_needs [[40]] (skip s)
      have h3 := good_column (needs [[40]] (skip s))
      revert h3
      rcases column (needs [[40]] (skip s)) with ⟨⟨_, _, _, _, _, _, _⟩, s1⟩
      intro h3
      have h4 := calm_needs [[41]] s1
      exact ⟨h4.1.trans (h3.1.trans (h2.1.trans h1.1)), Nat.le_trans h4.2 (Nat.le_trans h3.2 (Nat.le_trans h2.2 h1.2))⟩
theorem good_col : Good col := fun s => by
  have h1 := good_name s
  unfold col
  revert h1
  rcases name s with ⟨n, s1⟩
  intro h1
  simp only [] at h1 ⊢
  have h2 : (if is [105, 110, 116] s1 = true then ((1 : Int), skip s1) else if is [116, 101, 120, 116] s1 = true then (2, skip s1) else (0, fails 5 s1)).2.deep = s1.deep ∧ (if is [105, 110, 116] s1 = true then ((1 : Int), skip s1) else if is [116, 101, 120, 116] s1 = true then (2, skip s1) else (0, fails 5 s1)).2.l.length ≤ s1.l.length := by
    split
    · exact calm_skip s1
    · split
      · exact calm_skip s1
      · exact calm_fails 5 s1
  revert h2
  rcases (if is [105, 110, 116] s1 = true then ((1 : Int), skip s1) else if is [116, 101, 120, 116] s1 = true then (2, skip s1) else (0, fails 5 s1)) with ⟨k, s2⟩
  intro h2
  simp only [] at h2 ⊢
  split
  · have h3 := calm_skip s2
    have h4 := good_name (skip s2)
    exact ⟨h4.1.trans (h3.1.trans (h2.1.trans h1.1)), Nat.le_trans h4.2 (Nat.le_trans h3.2 (Nat.le_trans h2.2 h1.2))⟩
  · exact ⟨h2.1.trans h1.1, Nat.le_trans h2.2 h1.2⟩
/-- as deep, no more words -/
def Le (s1 s : PS) : Prop := s1.deep = s.deep ∧ s1.l.length ≤ s.l.length
theorem Le.refl (s : PS) : Le s s := ⟨rfl, Nat.le_refl _⟩
theorem Le.calm {f : PS → PS} {s s1 s2 : PS} (p : Le s1 s) (h : Calm f) (e : f s1 = s2) : Le s2 s := by
  subst e
  exact ⟨(h s1).1.trans p.1, Nat.le_trans (h s1).2 p.2⟩
theorem Le.good {α : Type} {f : PS → α × PS} {s s1 s2 : PS} {a : α} (p : Le s1 s) (h : Good f) (e : f s1 = (a, s2)) : Le s2 s := by
  have := h s1
  rw [e] at this
  exact ⟨this.1.trans p.1, Nat.le_trans this.2 p.2⟩
end PM
namespace Px
open PM (PS B Ex)

theorem skips_pair (P g : Nat) (s : PS) (wd : B) (w : World) (h : PR w P g s) {d : Bool} {s' : PS} (hq : PM.skips wd s = (d, s')) :
    Calls Tryz.prog 50 #[.pointer (some ⟨P, 0, none⟩), .string ⟨wd.toArray⟩] w fun e w' => e = .returned (.bool d) ∧ PR w' P g s' ∧ Fr [some P] w w' := by
  unfold PM.skips at hq
  split at hq
  · rename_i hi
    cases hq
    exact skips_yes P g s wd w h hi
  · rename_i hi
    cases hq
    exact skips_no P g _ wd w h (by simpa using hi)

/-- a new list of expressions, laid beside a field that is set to it -/
theorem es_set_new {A : Nat → Prop} {w : World} {St j : Nat} {l : List Ex} {cs : List Value} (hL : Rep.L 82 A w l cs) (hA : ∀ g, A g → g ≠ St) (hn : A w.heap.size) (hm : l.length ≤ maxLen) :
    Rep.Es 82 A ((w.setCell ⟨St, j, none⟩ (.slice (some ⟨w.heap.size, 0, none⟩) l.length l.length)).alloc (.cells cs.toArray 82)) l (.slice (some ⟨w.heap.size, 0, none⟩) l.length l.length) := by
  have hf : Fr [some St] w ((w.setCell ⟨St, j, none⟩ (.slice (some ⟨w.heap.size, 0, none⟩) l.length l.length)).alloc (.cells cs.toArray 82)) := (frSet (P := St) _).alloc _
  have hnew := Blk.new (w.setCell ⟨St, j, none⟩ (.slice (some ⟨w.heap.size, 0, none⟩) l.length l.length)) 82 cs
  rw [World.size_setCell] at hnew
  have hlen := hL.length
  refine .mk l _ cs (Rep.L.keep hf (fun g h => by have := hA g h; simp; exact this) hL) ⟨hlen, .inr ⟨w.heap.size, 0, l.length, cs, rfl, hnew, Nat.le_refl _, hm, by omega, ?_⟩⟩ (fun g hg => ?_)
  · rw [List.drop_zero, List.take_of_length_le (by omega)]
  · simp only [Value.ownBlock, Option.some.injEq] at hg
    subst hg
    exact hn
theorem list_item' {P g : Nat} {s : PS} {w : World} (n : Nat) (h : PR w P g s) (h0 : 0 ≤ s.deep) (h64 : s.deep ≤ 64) (hn : s.l.length ≤ n) (hb : s.l.length ≤ 1000) {l : List PM.It} {s' : PS} (hq : PM.list PM.item s = (l, s')) :
    Calls Tryz.prog 106 #[.pointer (some ⟨P, 0, none⟩), .func (.func 107) #[.pointer (some ⟨P, 0, none⟩)] #[]] w fun e w' => (∃ a len cap, e = .returned (.slice a len cap) ∧ ItS (fun b => w.heap.size ≤ b) w' (.slice a len cap) l) ∧ PR w' P g s' ∧ Fr [some P] w w' := by
  refine (list_item P g s 107 #[.pointer (some ⟨P, 0, none⟩)] #[] n PM.item PM.good_item w h h0 h64 hn hb (fun w => by kernel_rfl) (fun w' s _ h _ _ _ => item_any P g s w' h)).mono ?_
  rintro e w1 ⟨⟨v, rfl, hv⟩, h1, hf1⟩
  rw [hq] at hv h1
  have hs := flat_of hv
  obtain ⟨a, len, cap, rfl⟩ := hs.form
  exact ⟨⟨a, len, cap, rfl, hs⟩, h1, hf1⟩
theorem list_col' {P g : Nat} {s : PS} {w : World} (n : Nat) (h : PR w P g s) (h0 : 0 ≤ s.deep) (h64 : s.deep ≤ 64) (hn : s.l.length ≤ n) (hb : s.l.length ≤ 1000) {l : List PM.Col} {s' : PS} (hq : PM.list PM.col s = (l, s')) :
    Calls Tryz.prog 100 #[.pointer (some ⟨P, 0, none⟩), .func (.func 101) #[.pointer (some ⟨P, 0, none⟩)] #[]] w fun e w' => (∃ a len cap, e = .returned (.slice a len cap) ∧ ColS (fun b => w.heap.size ≤ b) w' (.slice a len cap) l) ∧ PR w' P g s' ∧ Fr [some P] w w' := by
  refine (list_col P g s 101 #[.pointer (some ⟨P, 0, none⟩)] #[] n PM.col PM.good_col w h h0 h64 hn hb (fun w => by kernel_rfl) (fun w' s _ h _ _ _ => col_any P g s w' h)).mono ?_
  rintro e w1 ⟨⟨v, rfl, hv⟩, h1, hf1⟩
  rw [hq] at hv h1
  have hs := flat_of hv
  obtain ⟨a, len, cap, rfl⟩ := hs.form
  exact ⟨⟨a, len, cap, rfl, hs⟩, h1, hf1⟩
theorem list_tag' {P g : Nat} {s : PS} {w : World} (n : Nat) (h : PR w P g s) (h0 : 0 ≤ s.deep) (h64 : s.deep ≤ 64) (hn : s.l.length ≤ n) (hb : s.l.length ≤ 1000) {l : List Int} {s' : PS} (hq : PM.list PM.tag s = (l, s')) :
    Calls Tryz.prog 58 #[.pointer (some ⟨P, 0, none⟩), .func (.func 59) #[.pointer (some ⟨P, 0, none⟩)] #[]] w fun e w' => (∃ a len cap, e = .returned (.slice a len cap) ∧ TagS (fun b => w.heap.size ≤ b) w' (.slice a len cap) l) ∧ PR w' P g s' ∧ Fr [some P] w w' := by
  refine (list_u16 P g s 59 #[.pointer (some ⟨P, 0, none⟩)] #[] n PM.tag PM.good_tag w h h0 h64 hn hb (fun w => by kernel_rfl) (fun w' s _ h _ _ _ => (tag_any P g s w' h).mono ?_)).mono ?_
  · rintro e w1 ⟨rfl, h1, hf1⟩
    exact ⟨⟨_, rfl, rfl⟩, h1, hf1⟩
  rintro e w1 ⟨⟨v, rfl, hv⟩, h1, hf1⟩
  rw [hq] at hv h1
  have hs := flat_of hv
  obtain ⟨a, len, cap, rfl⟩ := hs.form
  exact ⟨⟨a, len, cap, rfl, hs⟩, h1, hf1⟩
theorem list_expr' {P g : Nat} {s : PS} {w : World} (n : Nat) (h : PR w P g s) (h0 : 0 ≤ s.deep) (h64 : s.deep ≤ 64) (hn : s.l.length ≤ n) (hb : s.l.length ≤ 1000) {l : List Ex} {s' : PS} (hq : PM.list (PM.expr n) s = (l, s')) :
    Calls Tryz.prog 54 #[.pointer (some ⟨P, 0, none⟩), .func (.func 55) #[.pointer (some ⟨P, 0, none⟩)] #[]] w fun e w' => (∃ a len cap, e = .returned (.slice a len cap) ∧ Rep.Es 82 (fun b => w.heap.size ≤ b) w' l (.slice a len cap)) ∧ PR w' P g s' ∧ Fr [some P] w w' := by
  refine (list_ex P g s 55 #[.pointer (some ⟨P, 0, none⟩)] #[] n (PM.expr n) (PM.good_exprN n) w h h0 h64 hn hb (fun w => by kernel_rfl) (expr_all n P g w).one).mono ?_
  rintro e w1 ⟨⟨v, rfl, hv⟩, h1, hf1⟩
  rw [hq] at hv h1
  have hs := ex_es hv
  obtain ⟨a, len, cap, rfl⟩ := hs.form
  exact ⟨⟨a, len, cap, rfl, hs⟩, h1, hf1⟩
theorem where' {P g : Nat} {s : PS} {w : World} (n : Nat) (h : PR w P g s) (h0 : 0 ≤ s.deep) (h64 : s.deep ≤ 64) (hn : s.l.length ≤ n) {l : List Ex} {s' : PS} (hq : PM.wheres n s = (l, s')) :
    Calls Tryz.prog 57 #[.pointer (some ⟨P, 0, none⟩)] w fun e w' => (∃ a len cap, e = .returned (.slice a len cap) ∧ Rep.Es 82 (fun b => w.heap.size ≤ b) w' l (.slice a len cap)) ∧ PR w' P g s' ∧ Fr [some P] w w' := by
  refine (where_any P g n s w h h0 h64 hn).mono ?_
  rintro e w1 ⟨⟨v, rfl, hv⟩, h1, hf1⟩
  rw [hq] at hv h1
  obtain ⟨a, len, cap, rfl⟩ := hv.form
  exact ⟨⟨a, len, cap, rfl, hv⟩, h1, hf1⟩
theorem expr' {P g : Nat} {s : PS} {w : World} (n : Nat) (h : PR w P g s) (h0 : 0 ≤ s.deep) (h64 : s.deep ≤ 64) (hn : s.l.length ≤ n) {x : Ex} {s' : PS} (hq : PM.expr n s = (x, s')) :
    Calls Tryz.prog 55 #[.pointer (some ⟨P, 0, none⟩)] w fun e w' => ExR w.heap.size w' e x ∧ PR w' P g s' ∧ Fr [some P] w w' := by
  have := expr_all n P g w w s (Fr.refl _ _) h hn h0 h64
  rwa [hq] at this
theorem column' {P g : Nat} {s : PS} {w : World} (h : PR w P g s) {x : Ex} {s' : PS} (hq : PM.column s = (x, s')) :
    Calls Tryz.prog 108 #[.pointer (some ⟨P, 0, none⟩)] w fun e w' => ExR w.heap.size w' e x ∧ PR w' P g s' ∧ Fr [some P] w w' := by
  have := column_any P g w.heap.size s w h
  rwa [hq] at this
end Px
end Go.Proofs.YtmdnhinpaflamaaGreatDoor
