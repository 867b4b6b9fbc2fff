/- lex: a name, a number. -/
import Derived.Test.YtmdnhinpaflamaaGreatDoorBas
import Derived.Test.YtmdnhinpaflamaaGreatDoorShelf
import Derived.Lib.IndexAny
import Derived.Lib.SlicesS
import Derived.Test.YtmdnhinpaflamaaGreatDoorPlA
import Derived.Orders
import Derived.Tactics
import Derived.KernelRfl
import Derived.BigQuiet
import Derived.Deep.RegionWith
import Derived.Carry
import Derived.MapKept
import Derived.BigRegion
import Derived.RegionTactic
namespace Go.Proofs.YtmdnhinpaflamaaGreatDoor
open Go.RowKit
namespace Lx
open LexM (Tok)
end Lx
end Go.Proofs.YtmdnhinpaflamaaGreatDoor
namespace Go.Proofs.YtmdnhinpaflamaaGreatDoor
open Go.RowKit
namespace Lx
open LexM (Tok)
end Lx
end Go.Proofs.YtmdnhinpaflamaaGreatDoor
namespace Go.Proofs.YtmdnhinpaflamaaGreatDoor
open Go.RowKit
namespace Lx
open LexM (Tok)
end Lx
end Go.Proofs.YtmdnhinpaflamaaGreatDoor
namespace Go.Proofs.YtmdnhinpaflamaaGreatDoor
open Go.RowKit
namespace Lx
open LexM (Tok)
end Lx
end Go.Proofs.YtmdnhinpaflamaaGreatDoor
namespace Go.Proofs.YtmdnhinpaflamaaGreatDoor
open Go.RowKit
namespace Lx
open LexM (Tok)
end Lx
end Go.Proofs.YtmdnhinpaflamaaGreatDoor
namespace Go.Proofs.YtmdnhinpaflamaaGreatDoor
open Go.RowKit
namespace Lx
open LexM (Tok)
end Lx
end Go.Proofs.YtmdnhinpaflamaaGreatDoor
namespace Go.Proofs.YtmdnhinpaflamaaGreatDoor
open Go.RowKit
namespace Lx
open LexM (Tok)
def tokC (t : Tok) : List Value := [.int .i64 t.kind, .string ⟨t.text.toArray⟩, .int .i64 t.int, .int .i64 t.pos]
def toksC (l : List Tok) : List Value := l.flatMap tokC
theorem four_new (w : World) (E : TypeId) (l : List Value) (j : Nat) (u : Value) (h : l[j]? = some u) : (w.alloc (.cells l.toArray E)).cell? ((⟨w.heap.size, 0, none⟩ : Addr).add j) = some u := by
 rw [Addr.add_lit, Nat.zero_add]
 exact ((Blk.new w E l).cell j).trans h
end Lx
end Go.Proofs.YtmdnhinpaflamaaGreatDoor
namespace Go.Proofs.YtmdnhinpaflamaaGreatDoor
open Go.RowKit
namespace Lx
open LexM (Tok)
theorem lex_a : LexM.lex [97, 60, 61, 49] = .inr [⟨1, [97], 0, 0⟩, ⟨5, [60, 61], 0, 1⟩, ⟨3, [], 1, 3⟩, ⟨6, [], 0, 4⟩] := by rfl
theorem lex_b : LexM.lex [49, 97] = .inl (1, 4) := by rfl
end Lx
end Go.Proofs.YtmdnhinpaflamaaGreatDoor
namespace Go.Proofs.YtmdnhinpaflamaaGreatDoor
open Go.RowKit
namespace Lx
open LexM (Tok)
theorem size_of_cell {w : World} {v : Value} (h : w.cell? ⟨1, 0, none⟩ = some v) : 1 < w.heap.size := World.block_lt_of_cell? w _ h
end Lx
end Go.Proofs.YtmdnhinpaflamaaGreatDoor
namespace Go.Proofs.YtmdnhinpaflamaaGreatDoor
open Go.RowKit
namespace Rep
open PM (Ex B)
def str (b : B) : Value := .string ⟨b.toArray⟩
mutual
inductive E (T : TypeId) (A : Nat -> Prop) (w : World) : Ex -> List Value -> Prop
 |mk (op kind int : Int) (text table name : B) (args : List Ex) (v : Value) (h : Es T A w args v) :
  E T A w (.mk op kind int text table name args) [.int .i64 op, .int .i64 kind, .int .i64 int, str text, str table, str name, v]
inductive L (T : TypeId) (A : Nat -> Prop) (w : World) : List Ex -> List Value -> Prop
 |nil : L T A w [] []
 |cons (e : Ex) (r : List Ex) (xs ys : List Value) (h : E T A w e xs) (k : L T A w r ys) : L T A w (e :: r) (xs ++ ys)
inductive Es (T : TypeId) (A : Nat -> Prop) (w : World) : List Ex -> Value -> Prop
 |mk (l : List Ex) (v : Value) (xs : List Value) (h : L T A w l xs) (k : Row w T 7 v l.length xs) (hb : ∀ g, v.ownBlock = some g -> A g) : Es T A w l v
end
variable {T : TypeId} {A : Nat -> Prop} {w w' : World}
mutual
theorem E.keep {X : List (Option Nat)} {e : Ex} {cs : List Value} (hf : Fr X w w') (hX : ∀ g, A g -> some g ∉ X) : E T A w e cs -> E T A w' e cs
 |.mk op kind int text table name args v h => .mk op kind int text table name args v (Es.keep hf hX h)
theorem L.keep {X : List (Option Nat)} {l : List Ex} {cs : List Value} (hf : Fr X w w') (hX : ∀ g, A g -> some g ∉ X) : L T A w l cs -> L T A w' l cs
 |.nil => .nil
 |.cons e r xs ys h k => .cons e r xs ys (E.keep hf hX h) (L.keep hf hX k)
theorem Es.keep {X : List (Option Nat)} {l : List Ex} {v : Value} (hf : Fr X w w') (hX : ∀ g, A g -> some g ∉ X) : Es T A w l v -> Es T A w' l v
 |.mk l v xs h k hb => .mk l v xs (L.keep hf hX h) (k.keep hf (fun g hg => hX g (hb g hg))) hb
end
mutual
theorem E.mono {A' : Nat -> Prop} {e : Ex} {cs : List Value} (hA : ∀ g, A g -> A' g) : E T A w e cs -> E T A' w e cs
 |.mk op kind int text table name args v h => .mk op kind int text table name args v (Es.mono hA h)
theorem L.mono {A' : Nat -> Prop} {l : List Ex} {cs : List Value} (hA : ∀ g, A g -> A' g) : L T A w l cs -> L T A' w l cs
 |.nil => .nil
 |.cons e r xs ys h k => .cons e r xs ys (E.mono hA h) (L.mono hA k)
theorem Es.mono {A' : Nat -> Prop} {l : List Ex} {v : Value} (hA : ∀ g, A g -> A' g) : Es T A w l v -> Es T A' w l v
 |.mk l v xs h k hk => .mk l v xs (L.mono hA h) k (fun g hg => hA g (hk g hg))
end
mutual
theorem E.live {e : Ex} {cs : List Value} : E T A w e cs -> E T (fun g => A g /\ g < w.heap.size) w e cs
 |.mk op kind int text table name args v h => .mk op kind int text table name args v (Es.live h)
theorem L.live {l : List Ex} {cs : List Value} : L T A w l cs -> L T (fun g => A g /\ g < w.heap.size) w l cs
 |.nil => .nil
 |.cons e r xs ys h k => .cons e r xs ys (E.live h) (L.live k)
theorem Es.live {l : List Ex} {v : Value} : Es T A w l v -> Es T (fun g => A g /\ g < w.heap.size) w l v
 |.mk l v xs h k hk => .mk l v xs (L.live h) k (fun g hg => ⟨hk g hg, k.block_lt hg⟩)
end
theorem E.length {e : Ex} {cs : List Value} (h : E T A w e cs) : cs.length = 7 := by cases h; rfl
theorem L.length {l : List Ex} {cs : List Value} : L T A w l cs -> cs.length = l.length * 7
 |.nil => rfl
 |.cons e r xs ys h k => by rw [List.length_append, h.length, L.length k, List.length_cons]; omega
theorem L.snoc {l : List Ex} {xs : List Value} {e : Ex} {ys : List Value} (h : L T A w l xs) (k : E T A w e ys) : L T A w (l ++ [e]) (xs ++ ys) := by
 induction l generalizing xs with
 |nil =>
  cases h
  have := L.cons e [] ys [] k .nil
  rwa [List.append_nil] at this
 |cons d r ih =>
  cases h with
  |cons _ _ xs ys' h1 h2 =>
   rw [List.append_assoc, List.cons_append]
   exact .cons d _ xs _ h1 (ih h2)
theorem Es.nil : Es T A w [] (.slice none 0 0) := .mk [] _ [] .nil (Row.nil _ _ _) (fun g h => by simp [Value.ownBlock] at h)
theorem L.at {l : List Ex} {xs : List Value} (h : L T A w l xs) (k : Nat) (hk : k < l.length) : ∃ ys, E T A w l[k] ys /\ ∀ i, i < 7 -> xs[k * 7 + i]? = ys[i]? := by
 induction l generalizing xs k with
 |nil => simp at hk
 |cons d r ih =>
  cases h with
  |cons _ _ xs ys h1 h2 =>
   cases k with
   |zero => exact ⟨xs, h1, fun i hi => by rw [List.getElem?_append_left (by rw [h1.length]; omega)]; simp⟩
   |succ k =>
    obtain ⟨zs, g1, g2⟩ := ih h2 k (by simpa using hk)
    refine ⟨zs, g1, fun i hi => ?_⟩
    rw [List.getElem?_append_right (by rw [h1.length]; omega), h1.length, show (k + 1) * 7 + i - 7 = k * 7 + i by omega]
    exact g2 i hi
theorem Es.at {l : List Ex} {v : Value} (h : Es T A w l v) (k : Nat) (hk : k < l.length) : ∃ g off cap ys, v = .slice (some ⟨g, off, none⟩) l.length cap /\ l.length <= cap /\ A g /\ E T A w l[k] ys /\ ∀ i u, ys[i]? = some u -> w.cell? ⟨g, off + k * 7 + i, none⟩ = some u := by
 cases h with
 |mk _ _ xs hl hr hb =>
  obtain ⟨ys, h1, h2⟩ := hl.at k hk
  rcases hr.form with ⟨_, h0, _⟩ | ⟨g, off, cap, rfl, hc, _⟩
  ·omega
  ·refine ⟨g, off, cap, ys, rfl, hc, hb g rfl, h1, fun i u hi => ?_⟩
   have hi7 : i < 7 := by have := (List.getElem?_eq_some_iff.1 hi).1; rw [h1.length] at this; exact this
   have hx := (h2 i hi7).trans hi
   have hlt := (List.getElem?_eq_some_iff.1 hx).1
   rw [Nat.add_assoc, hr.cells _ hlt, List.getD_eq_getElem?_getD, hx]
   rfl
end Rep
end Go.Proofs.YtmdnhinpaflamaaGreatDoor
namespace Go.Proofs.YtmdnhinpaflamaaGreatDoor.Seq
open Go
section
variable {P : Program} {ops : Array Oper} {Inv : World -> Prop} {Q : Exit -> Act -> World -> Prop}
section
variable {held : Nat -> Bool} {k : Nat} {o : Oper} {l : List Oper} {a : Act} {w : World}
end
end
end Go.Proofs.YtmdnhinpaflamaaGreatDoor.Seq
namespace Go.Proofs.YtmdnhinpaflamaaGreatDoor.Seq
open Go
section
variable {P : Program} {ops : Array Oper} {Inv : World -> Prop} {Q : Exit -> Act -> World -> Prop} {held : Nat -> Bool} {k : Nat} {o : Oper} {l : List Oper} {a : Act} {w : World}
end
end Go.Proofs.YtmdnhinpaflamaaGreatDoor.Seq
namespace Go.Proofs.YtmdnhinpaflamaaGreatDoor
open Go.RowKit
namespace Px
open LexM (Tok)
open PM (PS B)
open Lx (toksC tokC)
theorem frSet {w : World} {P i : Nat} (v : Value) : Fr [some P] w (w.setCell ⟨P, i, none⟩ v) := (Fr.refl [some P] w).setCell (p := ⟨P, i, none⟩) (.inl (by simp)) v
end Px
end Go.Proofs.YtmdnhinpaflamaaGreatDoor
namespace Go.Proofs.YtmdnhinpaflamaaGreatDoor
open Go.RowKit
namespace Px
open LexM (Tok)
open PM (PS B)
open Lx (toksC tokC)
end Px
end Go.Proofs.YtmdnhinpaflamaaGreatDoor
namespace Go.Proofs.YtmdnhinpaflamaaGreatDoor
open Go.RowKit
namespace Px
open LexM (Tok)
open PM (PS B)
open Lx (toksC tokC)
theorem ret_cell4 {fn : Func} {n : Nat} (h : fn.results = #[.cell n 45]) (tmps : Array Value) (T : Nat) (h2 : tmps.getD n undef = .pointer (some ⟨T, 0, none⟩)) (w : World) (a b c d : Value) (hb : Blk w T 45 [a, b, c, d]) :
  (results fn tmps).run Tryz.prog w = .ok (.agg #[a, b, c, d]) w := by
 have c0 := hb.cell 0
 have c1 := hb.cell 1
 have c2 := hb.cell 2
 have c3 := hb.cell 3
 simp only [List.getElem?_cons_zero, List.getElem?_cons_succ] at c0 c1 c2 c3
 have h2' : tmps[n]?.getD undef = .pointer (some ⟨T, 0, none⟩) := by simpa using h2
 simp [results, h, h2', go_sem, c0, c1, c2, c3]
end Px
end Go.Proofs.YtmdnhinpaflamaaGreatDoor
namespace Go.Proofs.YtmdnhinpaflamaaGreatDoor
open Go.RowKit
namespace Px
open LexM (Tok)
open PM (PS B Ex)
open Lx (toksC tokC)
def ExR (b : Nat) (w : World) (e : Ending) (x : Ex) : Prop := ∃ cs, e = .returned (.agg cs.toArray) /\ Rep.E 82 (fun g => b <= g) w x cs
def z7 : List Value := [.int .i64 0, .int .i64 0, .int .i64 0, .string ⟨#[]⟩, .string ⟨#[]⟩, .string ⟨#[]⟩, .slice none 0 0]
theorem ret_cell7 {fn : Func} {n : Nat} (h : fn.results = #[.cell n 82]) (tmps : Array Value) (T : Nat) (h2 : tmps.getD n undef = .pointer (some ⟨T, 0, none⟩)) (w : World) (a b c d e f g : Value) (hb : Blk w T 82 [a, b, c, d, e, f, g]) :
  (results fn tmps).run Tryz.prog w = .ok (.agg #[a, b, c, d, e, f, g]) w := by
 have c0 := hb.cell 0
 have c1 := hb.cell 1
 have c2 := hb.cell 2
 have c3 := hb.cell 3
 have c4 := hb.cell 4
 have c5 := hb.cell 5
 have c6 := hb.cell 6
 simp only [List.getElem?_cons_zero, List.getElem?_cons_succ] at c0 c1 c2 c3 c4 c5 c6
 have h2' : tmps[n]?.getD undef = .pointer (some ⟨T, 0, none⟩) := by simpa using h2
 simp [results, h, h2', go_sem, c0, c1, c2, c3, c4, c5, c6]
def put7 (w : World) (T : Nat) (a b c d e f g : Value) : World := ((((((w.setCell ⟨T, 0, none⟩ a).setCell ⟨T, 1, none⟩ b).setCell ⟨T, 2, none⟩ c).setCell ⟨T, 3, none⟩ d).setCell ⟨T, 4, none⟩ e).setCell ⟨T, 5, none⟩ f).setCell ⟨T, 6, none⟩ g
theorem frPut7 {X : List (Option Nat)} {z w : World} {T : Nat} (h : Fr X z w) (hT : some T ∈ X \/ z.heap.size <= T) (a b c d e f g : Value) : Fr X z (put7 w T a b c d e f g) :=
 ((((((h.setCell (p := ⟨T, 0, none⟩) hT a).setCell (p := ⟨T, 1, none⟩) hT b).setCell (p := ⟨T, 2, none⟩) hT c).setCell (p := ⟨T, 3, none⟩) hT d).setCell (p := ⟨T, 4, none⟩) hT e).setCell (p := ⟨T, 5, none⟩) hT f).setCell (p := ⟨T, 6, none⟩) hT g
theorem blkPut7 {w : World} {T : Nat} {l : List Value} (h : Blk w T 82 l) (hl : l.length = 7) (a b c d e f g : Value) : Blk (put7 w T a b c d e f g) T 82 [a, b, c, d, e, f, g] := by
 obtain ⟨x0, x1, x2, x3, x4, x5, x6, rfl⟩ : ∃ x0 x1 x2 x3 x4 x5 x6, l = [x0, x1, x2, x3, x4, x5, x6] := by
  rcases l with _ | ⟨x0, _ | ⟨x1, _ | ⟨x2, _ | ⟨x3, _ | ⟨x4, _ | ⟨x5, _ | ⟨x6, _ | _⟩⟩⟩⟩⟩⟩⟩ <;> simp at hl
  exact ⟨x0, x1, x2, x3, x4, x5, x6, rfl⟩
 exact ((((((h.set 0 a).set 1 b).set 2 c).set 3 d).set 4 e).set 5 f).set 6 g
structure C7 (w : World) (T : Nat) (a b c d e f g : Value) : Prop where
 c0 : w.cell? ⟨T, 0, none⟩ = some a
 c1 : w.cell? ⟨T, 1, none⟩ = some b
 c2 : w.cell? ⟨T, 2, none⟩ = some c
 c3 : w.cell? ⟨T, 3, none⟩ = some d
 c4 : w.cell? ⟨T, 4, none⟩ = some e
 c5 : w.cell? ⟨T, 5, none⟩ = some f
 c6 : w.cell? ⟨T, 6, none⟩ = some g
 f0 : w.frozen? ⟨T, 0, none⟩ = false
 f1 : w.frozen? ⟨T, 1, none⟩ = false
 f2 : w.frozen? ⟨T, 2, none⟩ = false
 f3 : w.frozen? ⟨T, 3, none⟩ = false
 f4 : w.frozen? ⟨T, 4, none⟩ = false
 f5 : w.frozen? ⟨T, 5, none⟩ = false
 f6 : w.frozen? ⟨T, 6, none⟩ = false
theorem c7_of {w : World} {T : Nat} {a b c d e f g : Value} (h : Blk w T 82 [a, b, c, d, e, f, g]) : C7 w T a b c d e f g :=
 ⟨h.cell 0, h.cell 1, h.cell 2, h.cell 3, h.cell 4, h.cell 5, h.cell 6, h.free 0, h.free 1, h.free 2, h.free 3, h.free 4, h.free 5, h.free 6⟩
def colCells (t n : B) : List Value := [.int .i64 2, .int .i64 0, .int .i64 0, .string ⟨#[]⟩, .string ⟨t.toArray⟩, .string ⟨n.toArray⟩, .slice none 0 0]
theorem col_rep (A : Nat -> Prop) (w : World) (t n : B) : Rep.E 82 A w (PM.colEx t n) (colCells t n) := .mk 2 0 0 [] t n [] _ Rep.Es.nil
end Px
end Go.Proofs.YtmdnhinpaflamaaGreatDoor
namespace Go.Proofs.YtmdnhinpaflamaaGreatDoor
open Go.RowKit
namespace Px
open LexM (Tok)
open PM (PS B Ex)
theorem ex_cells {b : Nat} {w : World} {e : Ending} {x : Ex} (h : ExR b w e x) : ∃ (op kind int : Int) (t tb n : B) (a : Option Addr) (len cap : Nat), e = .returned (.agg #[.int .i64 op, .int .i64 kind, .int .i64 int, .string ⟨t.toArray⟩, .string ⟨tb.toArray⟩, .string ⟨n.toArray⟩, .slice a len cap]) /\
  Rep.E 82 (fun g => b <= g) w x [.int .i64 op, .int .i64 kind, .int .i64 int, .string ⟨t.toArray⟩, .string ⟨tb.toArray⟩, .string ⟨n.toArray⟩, .slice a len cap] := by
 obtain ⟨cs, rfl, hr⟩ := h
 have hr' := hr
 cases hr with
 |mk op kind int t tb n args v hv =>
  obtain ⟨a, len, cap, rfl⟩ : ∃ a len cap, v = .slice a len cap := by
   cases hv with
   |mk _ _ xs h1 h2 h3 =>
    rcases h2.form with ⟨rfl, _, _⟩ | ⟨g, off, cap, rfl, _, _⟩
    ·exact ⟨_, _, _, rfl⟩
    ·exact ⟨_, _, _, rfl⟩
  exact ⟨op, kind, int, t, tb, n, a, len, cap, rfl, hr'⟩
end Px
end Go.Proofs.YtmdnhinpaflamaaGreatDoor
namespace Go.Proofs.YtmdnhinpaflamaaGreatDoor
open Go.RowKit
namespace Px
open LexM (Tok)
open PM (PS B Ex)
end Px
end Go.Proofs.YtmdnhinpaflamaaGreatDoor
namespace Go.Proofs.YtmdnhinpaflamaaGreatDoor
namespace PM
end PM
end Go.Proofs.YtmdnhinpaflamaaGreatDoor
namespace Go.Proofs.YtmdnhinpaflamaaGreatDoor
open Go.RowKit
namespace Px
open PM (PS B Ex)
end Px
end Go.Proofs.YtmdnhinpaflamaaGreatDoor
namespace Go.Proofs.YtmdnhinpaflamaaGreatDoor
open Go.RowKit
set_option linter.unusedVariables false
namespace Gn
open PM (Ex B)
structure PK (B M : Nat) (w : World) (P : Nat) : Prop where
 lt : P < B
 le : B <= w.heap.size
 ex : ∃ (a : Option Addr) (len cap n : Nat), n <= len /\ (len <= 1000000 /\ len <= n + M) /\ Blk w P 63 [.slice a len cap, .int .i64 n] /\
  ∀ j, j < len -> ∃ (g off k : Nat), a = some ⟨g, off, none⟩ /\ g ≠ P /\ g < B /\ k <= 255 /\ w.cell? ⟨g, off + j, none⟩ = some (.int .u8 k)
theorem PK.lt' {B M : Nat} {w : World} {P : Nat} (h : PK B M w P) : P < w.heap.size := Nat.lt_of_lt_of_le h.lt h.le
theorem PK.keep {B M : Nat} {w w' : World} {P : Nat} {S : List (Option Nat)} (h : PK B M w P) (hf : Fr S w w') (hS : ∀ g, some g ∈ S -> B <= g) : PK B M w' P := by
 obtain ⟨hl, hle, a, len, cap, n, h1, h2, h3, h4⟩ := h
 refine ⟨hl, Nat.le_trans hle hf.size, a, len, cap, n, h1, h2, h3.keep hf (fun hm => by have := hS P hm; omega), fun j hj => ?_⟩
 obtain ⟨g, off, k, e, hg, hlt, hk, hc⟩ := h4 j hj
 exact ⟨g, off, k, e, hg, hlt, hk, (hf.cell (p := ⟨g, off + j, none⟩) (Nat.lt_of_lt_of_le hlt hle) (fun hm => by have := hS g hm; omega)).trans hc⟩
theorem PK.alloc {B M : Nat} {w : World} {P : Nat} (h : PK B M w P) (o : Obj) : PK B M (w.alloc o) P := h.keep (Fr.alloc (Fr.refl [] w) o) (by simp)
theorem PK.drew {B M : Nat} {w : World} {P : Nat} (h : PK B M w P) : PK B M w.drew P := h.keep (Fr.drew (Fr.refl [] w)) (by simp)
theorem PK.weak {B M M' : Nat} {w : World} {P : Nat} (h : PK B M w P) (hM : M <= M') : PK B M' w P := by
 obtain ⟨hl, hle, a, len, cap, n, h1, h2, h3, h4⟩ := h
 exact ⟨hl, hle, a, len, cap, n, h1, ⟨h2.1, by omega⟩, h3, h4⟩
def left (w : World) (P : Nat) : Nat :=
 match w.cell? ⟨P, 0, none⟩, w.cell? ⟨P, 1, none⟩ with
 |some (.slice _ len _), some (.int _ n) => len - n.toNat
 |_, _ => 0
theorem PK.left_le {B M : Nat} {w : World} {P : Nat} (h : PK B M w P) : left w P <= M := by
 obtain ⟨hl, hle, a, len, cap, n, h1, h2, h3, h4⟩ := h
 unfold left
 rw [h3.cell 0, h3.cell 1]
 show len - (n : Int).toNat <= M
 have := h2.2
 simp
 omega
theorem PK.self {B M : Nat} {w : World} {P : Nat} (h : PK B M w P) : PK B (left w P) w P := by
 obtain ⟨hl, hle, a, len, cap, n, h1, h2, h3, h4⟩ := h
 refine ⟨hl, hle, a, len, cap, n, h1, ⟨h2.1, ?_⟩, h3, h4⟩
 unfold left
 rw [h3.cell 0, h3.cell 1]
 show len <= n + (len - (n : Int).toNat)
 simp
 omega
set_option maxRecDepth 100000 in
set_option maxHeartbeats 2000000 in
theorem num_less {B M : Nat} (P : Nat) (m : Int) (hm1 : 1 <= m) (hm2 : m <= 1000) (w : World) (h : PK B M w P) :
  Calls Tryz.prog 25 #[.pointer (some ⟨P, 0, none⟩), .int .i64 m] w fun e w' => ∃ r : Nat, e = .returned (.int .i64 r) /\ (r : Int) < m /\ PK B (M - 1) w' P /\ Fr [some P] w w' := by
 obtain ⟨hl, hle, a, len, cap, n, h1, h2, hb, h4⟩ := h
 have c0 := hb.cell 0
 have c1 := hb.cell 1
 have f1 := hb.free 1
 simp only [List.getElem?_cons_zero, List.getElem?_cons_succ] at c0 c1
 have HB := Hd hb
 have H4 := Hd h4
 clear hb h4
 go_enter Tryz.func25, Tryz.ntmps25
 by_cases hn : n < len
 ·obtain ⟨g, off, k, rfl, hg, hlt, hk, hc⟩ := H4.out n hn
  have hg1 : ¬ g = P := hg
  have hg2 : ¬ P = g := fun h => hg h.symm
  have hgw : g < w.heap.size := Nat.lt_of_lt_of_le hlt hle
  have hlw : P < w.heap.size := Nat.lt_of_lt_of_le hl hle
  have hk2 : 0 <= (n : Int) + 1 - 1 := by omega
  have hk3 : (n : Int) + 1 - 1 < len := by omega
  have hkm : (k : Int) <= 255 := by omega
  have hm0 : ¬ m = 0 := by omega
  have H5 := H4
  clear H4
  go_wp2_with fail
  go_region
  all_goals
   go_wp2_with fail
   go_region
  all_goals
   go_wp2_with fail
   go_ret
   obtain ⟨r, hr⟩ : ∃ r : Nat, (k : Int) % m = r := ⟨((k : Int) % m).toNat, by have := Int.emod_nonneg (k : Int) hm0; omega⟩
   have hr2 : (r : Int) < m := by rw [<- hr]; exact Int.emod_lt_of_pos _ (by omega)
   have hf : Fr [some P] w (w.setCell ⟨P, 1, none⟩ (.int .i64 ((n : Int) + 1))).drew.drew := (((Fr.refl [some P] w).setCell (p := ⟨P, 1, none⟩) (.inl (by simp)) _).drew).drew
   refine ⟨r, congrArg (fun z => Ending.returned (.int .i64 z)) hr, hr2, ⟨hl, Nat.le_trans hle hf.size, some ⟨g, off, none⟩, len, cap, n + 1, by omega, ⟨h2.1, by have := h2.2; omega⟩, ?_, fun j hj => ?_⟩, hf⟩
   ·have := ((HB.out.set 1 (.int .i64 ((n : Int) + 1))).drew).drew
    simpa using this
   ·obtain ⟨g', off', k', e, hg', hlt', hk', hc'⟩ := H5.out j hj
    exact ⟨g', off', k', e, hg', hlt', hk', (hf.cell (p := ⟨g', off' + j, none⟩) (Nat.lt_of_lt_of_le hlt' hle) (by simp; exact hg')).trans hc'⟩
 ·go_wp2_with fail
  go_region
  all_goals
   go_wp2_with fail
   go_ret
   exact ⟨0, rfl, by omega, ⟨hl, hle, a, len, cap, n, h1, ⟨h2.1, by omega⟩, HB.out.drew, H4.out⟩, (Fr.refl _ _).drew⟩
theorem num_any {B M : Nat} (P : Nat) (m : Int) (hm1 : 1 <= m) (hm2 : m <= 1000) (w : World) (h : PK B M w P) :
  Calls Tryz.prog 25 #[.pointer (some ⟨P, 0, none⟩), .int .i64 m] w fun e w' => ∃ r : Nat, e = .returned (.int .i64 r) /\ (r : Int) < m /\ PK B M w' P /\ Fr [some P] w w' :=
 (num_less P m hm1 hm2 w h).mono fun e w' h => by
  obtain ⟨r, h1, h2, h3, h4⟩ := h
  exact ⟨r, h1, h2, h3.weak (Nat.sub_le _ _), h4⟩
set_option maxRecDepth 100000 in
theorem over_any {B M : Nat} (P : Nat) (w : World) (h : PK B M w P) :
  Calls Tryz.prog 31 #[.pointer (some ⟨P, 0, none⟩)] w fun e w' => ∃ b : Bool, e = .returned (.bool b) /\ (b = false -> 0 < M) /\ PK B M w' P /\ Fr [] w w' := by
 have HK := Hd h
 obtain ⟨hl, hle, a, len, cap, n, h1, h2, hb, h4⟩ := h
 have c0 := hb.cell 0
 have c1 := hb.cell 1
 simp only [List.getElem?_cons_zero, List.getElem?_cons_succ] at c0 c1
 clear hb h4
 go_enter Tryz.func31, Tryz.ntmps31
 go_wp2_with fail
 go_region
 all_goals
  go_wp2_with fail
  go_ret
  exact ⟨_, rfl, fun hb => by simp at hb; have := h2.2; omega, HK.out.keep (Fr.refl [] _).drew (by simp), (Fr.refl _ _).drew⟩
set_option maxRecDepth 100000 in
theorem made_any (w : World) (a : Option Addr) (len cap : Nat) (hlen : len <= 1000000) (h : ∀ j, j < len -> ∃ (g off k : Nat), a = some ⟨g, off, none⟩ /\ g < w.heap.size /\ k <= 255 /\ w.cell? ⟨g, off + j, none⟩ = some (.int .u8 k)) :
  Calls Tryz.prog 12 #[.slice a len cap] w fun e w' => e = .returned (.pointer (some ⟨w.heap.size, 0, none⟩)) /\ PK (w.heap.size + 1) len w' w.heap.size /\ Fr [] w w' := by
 go_enter Tryz.func12, Tryz.ntmps12
 have H := Hd h
 clear h
 go_wp2_with fail
 go_ret
 have hf := (Fr.refl [] w).alloc (.cells #[.slice a len cap, .int .i64 0] 63)
 refine ⟨rfl, ⟨by omega, by simp, a, len, cap, 0, Nat.zero_le _, ⟨hlen, by omega⟩, Blk.new w 63 [.slice a len cap, .int .i64 0], fun j hj => ?_⟩, hf⟩
 obtain ⟨g, off, k, e, hlt, hk, hc⟩ := H.out j hj
 exact ⟨g, off, k, e, by omega, by omega, hk, (hf.cell (p := ⟨g, off + j, none⟩) hlt (by simp)).trans hc⟩
end Gn
end Go.Proofs.YtmdnhinpaflamaaGreatDoor
namespace Go.Proofs.YtmdnhinpaflamaaGreatDoor
open Go.RowKit
namespace Px
open PM (PS B Ex)
end Px
end Go.Proofs.YtmdnhinpaflamaaGreatDoor
namespace Go.Proofs.YtmdnhinpaflamaaGreatDoor
open Go.RowKit
namespace Px
open PM (PS B Ex)
end Px
end Go.Proofs.YtmdnhinpaflamaaGreatDoor
namespace Go.Proofs.YtmdnhinpaflamaaGreatDoor
open Go.RowKit
namespace Px
open PM (PS B Ex)
end Px
end Go.Proofs.YtmdnhinpaflamaaGreatDoor
namespace Go.Proofs.YtmdnhinpaflamaaGreatDoor
open Go.RowKit
namespace Px
open PM (PS B Ex)
end Px
end Go.Proofs.YtmdnhinpaflamaaGreatDoor
namespace Go.Proofs.YtmdnhinpaflamaaGreatDoor
open Go.RowKit
namespace Px
open PM (PS B Ex)
structure Kd (α : Type) where
 size : Nat
 E : (Nat -> Prop) -> World -> α -> List Value -> Prop
 keep : ∀ {A : Nat -> Prop} {X : List (Option Nat)} {w w' : World} {x : α} {cs : List Value}, Fr X w w' -> (∀ g, A g -> some g ∉ X) -> E A w x cs -> E A w' x cs
 mono : ∀ {A A' : Nat -> Prop} {w : World} {x : α} {cs : List Value}, (∀ g, A g -> A' g) -> E A w x cs -> E A' w x cs
 live : ∀ {A : Nat -> Prop} {w : World} {x : α} {cs : List Value}, E A w x cs -> E (fun g => A g /\ g < w.heap.size) w x cs
 len : ∀ {A : Nat -> Prop} {w : World} {x : α} {cs : List Value}, E A w x cs -> cs.length = size
 one : ∀ {A : Nat -> Prop} {w : World} {x : α} {cs : List Value}, E A w x cs -> ∀ u ∈ cs, u.oneCell' = true
variable {α : Type} {K : Kd α} {A : Nat -> Prop} {w w' : World}
inductive RL (K : Kd α) (A : Nat -> Prop) (w : World) : List α -> List Value -> Prop
 |nil : RL K A w [] []
 |snoc (l : List α) (e : α) (xs ys : List Value) (h : RL K A w l xs) (k : K.E A w e ys) : RL K A w (l ++ [e]) (xs ++ ys)
theorem RL.keep {X : List (Option Nat)} {l : List α} {cs : List Value} (hf : Fr X w w') (hX : ∀ g, A g -> some g ∉ X) (h : RL K A w l cs) : RL K A w' l cs := by
 induction h with
 |nil => exact .nil
 |snoc l e xs ys _ k ih => exact .snoc l e xs ys ih (K.keep hf hX k)
theorem RL.mono {A' : Nat -> Prop} {l : List α} {cs : List Value} (hA : ∀ g, A g -> A' g) (h : RL K A w l cs) : RL K A' w l cs := by
 induction h with
 |nil => exact .nil
 |snoc l e xs ys _ k ih => exact .snoc l e xs ys ih (K.mono hA k)
theorem RL.live {l : List α} {cs : List Value} (h : RL K A w l cs) : RL K (fun g => A g /\ g < w.heap.size) w l cs := by
 induction h with
 |nil => exact .nil
 |snoc l e xs ys _ k ih => exact .snoc l e xs ys ih (K.live k)
def LsR (K : Kd α) (T : TypeId) (b : Nat) (w : World) (v : Value) (l : List α) : Prop :=
 ∃ cs, RL K (fun g => b <= g) w l cs /\ Row w T K.size v l.length cs /\ ∀ g, v.ownBlock = some g -> b <= g
def kEx : Kd Ex where
 size := 7
 E := Rep.E 82
 keep := fun h1 h2 h3 => Rep.E.keep h1 h2 h3
 mono := fun h1 h2 => Rep.E.mono h1 h2
 live := fun h => Rep.E.live h
 len := fun h => h.length
 one := fun h => by
  cases h with
  |mk op kind int t tb n args v hv =>
   cases hv with
   |mk _ _ xs h1 h2 h3 =>
    rcases h2.form with ⟨rfl, _, _⟩ | ⟨g, off, cap, rfl, _, _⟩
    ·simp [Rep.str, Value.oneCell']
    ·simp [Rep.str, Value.oneCell']
def kFlat (cells : α -> List Value) (size : Nat) (hl : ∀ x, (cells x).length = size) (h1 : ∀ x, ∀ u ∈ cells x, u.oneCell' = true) : Kd α where
 size := size
 E := fun _ _ x cs => cs = cells x
 keep := fun _ _ h => h
 mono := fun _ h => h
 live := fun h => h
 len := fun h => by subst h; exact hl _
 one := fun h => by subst h; exact h1 _
def colC (c : PM.Col) : List Value := [.string ⟨c.name.toArray⟩, .int .i64 c.kind, .string ⟨c.ref.toArray⟩]
def itC (i : PM.It) : List Value := [.int .i64 i.agg, .string ⟨i.table.toArray⟩, .string ⟨i.name.toArray⟩]
def u16C (n : Int) : List Value := [.int .u16 n]
def kIt : Kd PM.It := kFlat itC 3 (fun _ => rfl) (fun _ => by simp [itC, Value.oneCell'])
def kTag : Kd Int := kFlat u16C 1 (fun _ => rfl) (fun _ => by simp [u16C, Value.oneCell'])
theorem flat_list {cells : α -> List Value} {size : Nat} {hl : ∀ x, (cells x).length = size} {h1 : ∀ x, ∀ u ∈ cells x, u.oneCell' = true} {l : List α} {cs : List Value} (h : RL (kFlat cells size hl h1) A w l cs) : cs = l.flatMap cells := by
 induction h with
 |nil => rfl
 |snoc l e xs ys _ k ih => rw [List.flatMap_append, ih, show ys = cells e from k]; simp
theorem ex_list {l : List Ex} {cs : List Value} (h : RL kEx A w l cs) : Rep.L 82 A w l cs := by
 induction h with
 |nil => exact .nil
 |snoc l e xs ys _ k ih => exact ih.snoc k
theorem ex_es {b : Nat} {w : World} {v : Value} {l : List Ex} (h : LsR kEx 82 b w v l) : Rep.Es 82 (fun g => b <= g) w l v := by
 obtain ⟨cs, h1, h2, h3⟩ := h
 exact .mk l v cs (ex_list h1) h2 h3
end Px
end Go.Proofs.YtmdnhinpaflamaaGreatDoor
namespace Go.Proofs.YtmdnhinpaflamaaGreatDoor
open Go.RowKit
namespace Px
open PM (PS B Ex)
theorem lim96 {n b : Nat} (h : n <= 1000) (hb : b <= 96) : n + 1 <= maxLen /\ (n + 1) * b <= 140737488355328 := by
 refine ⟨by unfold maxLen; omega, ?_⟩
 have : (n + 1) * b <= 1001 * 96 := Nat.mul_le_mul (by omega) hb
 omega
end Px
end Go.Proofs.YtmdnhinpaflamaaGreatDoor
namespace Go.Proofs.YtmdnhinpaflamaaGreatDoor
open Go.RowKit
namespace Px
open PM (PS B Ex)
section
variable {w0 w w' : World} {P g b i : Nat} {s s' : PS} {v : Value} {T : TypeId} {cs : List Value}
end
def FlatS {α : Type} (T : TypeId) (cells : α -> List Value) (size : Nat) (A : Nat -> Prop) (w : World) (v : Value) (l : List α) : Prop :=
 Row w T size v l.length (l.flatMap cells) /\ ∀ g, v.ownBlock = some g -> A g
namespace FlatS
variable {α : Type} {T : TypeId} {cells : α -> List Value} {size : Nat} {A A' : Nat -> Prop} {w w' : World} {v : Value} {l : List α}
theorem keep {X : List (Option Nat)} (hf : Fr X w w') (hX : ∀ g, A g -> some g ∉ X) (h : FlatS T cells size A w v l) : FlatS T cells size A w' v l := ⟨h.1.keep hf (fun g hg => hX g (h.2 g hg)), h.2⟩
theorem mono (hA : ∀ g, A g -> A' g) (h : FlatS T cells size A w v l) : FlatS T cells size A' w v l := ⟨h.1, fun g hg => hA g (h.2 g hg)⟩
theorem live (h : FlatS T cells size A w v l) : FlatS T cells size (fun g => A g /\ g < w.heap.size) w v l := ⟨h.1, fun g hg => ⟨h.2 g hg, h.1.block_lt hg⟩⟩
theorem nil : FlatS T cells size A w (.slice none 0 0) ([] : List α) := ⟨Row.nil w T size, fun g h => by simp [Value.ownBlock] at h⟩
theorem form (h : FlatS T cells size A w v l) : ∃ a len cap, v = .slice a len cap := by
 rcases h.1.form with ⟨rfl, _, _⟩ | ⟨g, off, cap, rfl, _, _⟩
 ·exact ⟨_, _, _, rfl⟩
 ·exact ⟨_, _, _, rfl⟩
end FlatS
theorem _root_.Go.Proofs.YtmdnhinpaflamaaGreatDoor.Rep.Es.form {T : TypeId} {A : Nat -> Prop} {w : World} {v : Value} {l : List Ex} (h : Rep.Es T A w l v) : ∃ a len cap, v = .slice a len cap := by
 cases h with
 |mk _ _ xs h1 h2 h3 =>
  rcases h2.form with ⟨rfl, _, _⟩ | ⟨g, off, cap, rfl, _, _⟩
  ·exact ⟨_, _, _, rfl⟩
  ·exact ⟨_, _, _, rfl⟩
theorem flat_of {α : Type} {T : TypeId} {b : Nat} {w : World} {v : Value} {l : List α} {cells : α -> List Value} {size : Nat} {hl : ∀ x, (cells x).length = size} {h1 : ∀ x, ∀ u ∈ cells x, u.oneCell' = true} (h : LsR (kFlat cells size hl h1) T b w v l) : FlatS T cells size (fun g => b <= g) w v l := by
 obtain ⟨cs, h1, h2, h3⟩ := h
 rw [flat_list h1] at h2
 exact ⟨h2, h3⟩
abbrev ColS := FlatS 57 colC 3
abbrev ItS := FlatS 60 itC 3
abbrev TagS := FlatS 58 u16C 1
mutual
inductive SR (A : Nat -> Prop) (w : World) : PM.St -> List Value -> Prop
 |mk (kind : Int) (table name : B) (cols : List PM.Col) (tags : List Int) (values : List Ex) (items : List PM.It) (join : B) (on wher order : List Ex) (desc : Bool) (inner : List PM.St) (v3 v4 v5 v6 v8 v9 v10 v12 : Value)
   (h3 : ColS A w v3 cols) (h4 : TagS A w v4 tags) (h5 : Rep.Es 82 A w values v5) (h6 : ItS A w v6 items) (h8 : Rep.Es 82 A w on v8) (h9 : Rep.Es 82 A w wher v9) (h10 : Rep.Es 82 A w order v10) (h12 : SS A w inner v12) :
   SR A w (.mk kind table name cols tags values items join on wher order desc inner) [.int .i64 kind, .string ⟨table.toArray⟩, .string ⟨name.toArray⟩, v3, v4, v5, v6, .string ⟨join.toArray⟩, v8, v9, v10, .bool desc, v12]
inductive SL (A : Nat -> Prop) (w : World) : List PM.St -> List Value -> Prop
 |nil : SL A w [] []
 |cons (e : PM.St) (r : List PM.St) (xs ys : List Value) (h : SR A w e xs) (k : SL A w r ys) : SL A w (e :: r) (xs ++ ys)
inductive SS (A : Nat -> Prop) (w : World) : List PM.St -> Value -> Prop
 |mk (l : List PM.St) (v : Value) (xs : List Value) (h : SL A w l xs) (k : Row w 29 13 v l.length xs) (hb : ∀ g, v.ownBlock = some g -> A g) : SS A w l v
end
section
variable {A : Nat -> Prop} {w w' : World}
mutual
theorem SR.keep {X : List (Option Nat)} {e : PM.St} {cs : List Value} (hf : Fr X w w') (hX : ∀ g, A g -> some g ∉ X) : SR A w e cs -> SR A w' e cs
 |.mk kind table name cols tags values items join on wher order desc inner v3 v4 v5 v6 v8 v9 v10 v12 h3 h4 h5 h6 h8 h9 h10 h12 =>
  .mk kind table name cols tags values items join on wher order desc inner v3 v4 v5 v6 v8 v9 v10 v12 (h3.keep hf hX) (h4.keep hf hX) (Rep.Es.keep hf hX h5) (h6.keep hf hX) (Rep.Es.keep hf hX h8) (Rep.Es.keep hf hX h9) (Rep.Es.keep hf hX h10) (SS.keep hf hX h12)
theorem SL.keep {X : List (Option Nat)} {l : List PM.St} {cs : List Value} (hf : Fr X w w') (hX : ∀ g, A g -> some g ∉ X) : SL A w l cs -> SL A w' l cs
 |.nil => .nil
 |.cons e r xs ys h k => .cons e r xs ys (SR.keep hf hX h) (SL.keep hf hX k)
theorem SS.keep {X : List (Option Nat)} {l : List PM.St} {v : Value} (hf : Fr X w w') (hX : ∀ g, A g -> some g ∉ X) : SS A w l v -> SS A w' l v
 |.mk l v xs h k hb => .mk l v xs (SL.keep hf hX h) (k.keep hf (fun g hg => hX g (hb g hg))) hb
end
mutual
theorem SR.mono {A' : Nat -> Prop} {e : PM.St} {cs : List Value} (hA : ∀ g, A g -> A' g) : SR A w e cs -> SR A' w e cs
 |.mk kind table name cols tags values items join on wher order desc inner v3 v4 v5 v6 v8 v9 v10 v12 h3 h4 h5 h6 h8 h9 h10 h12 =>
  .mk kind table name cols tags values items join on wher order desc inner v3 v4 v5 v6 v8 v9 v10 v12 (h3.mono hA) (h4.mono hA) (Rep.Es.mono hA h5) (h6.mono hA) (Rep.Es.mono hA h8) (Rep.Es.mono hA h9) (Rep.Es.mono hA h10) (SS.mono hA h12)
theorem SL.mono {A' : Nat -> Prop} {l : List PM.St} {cs : List Value} (hA : ∀ g, A g -> A' g) : SL A w l cs -> SL A' w l cs
 |.nil => .nil
 |.cons e r xs ys h k => .cons e r xs ys (SR.mono hA h) (SL.mono hA k)
theorem SS.mono {A' : Nat -> Prop} {l : List PM.St} {v : Value} (hA : ∀ g, A g -> A' g) : SS A w l v -> SS A' w l v
 |.mk l v xs h k hk => .mk l v xs (SL.mono hA h) k (fun g hg => hA g (hk g hg))
end
theorem SS.nil : SS A w [] (.slice none 0 0) := .mk [] _ [] .nil (Row.nil _ _ _) (fun g h => by simp [Value.ownBlock] at h)
theorem SS.form {l : List PM.St} {v : Value} (h : SS A w l v) : ∃ a len cap, v = .slice a len cap := by
 cases h with
 |mk _ _ xs h1 h2 h3 =>
  rcases h2.form with ⟨rfl, _, _⟩ | ⟨g, off, cap, rfl, _, _⟩
  ·exact ⟨_, _, _, rfl⟩
  ·exact ⟨_, _, _, rfl⟩
theorem SR.length {e : PM.St} {cs : List Value} (h : SR A w e cs) : cs.length = 13 := by cases h; rfl
end
def StR (b : Nat) (w : World) (e : Ending) (x : PM.St) : Prop := ∃ cs, e = .returned (.agg cs.toArray) /\ SR (fun g => b <= g) w x cs
theorem st_cells {b : Nat} {w : World} {e : Ending} {x : PM.St} (h : StR b w e x) : ∃ (kind : Int) (table name join : B) (a3 a4 a5 a6 a8 a9 a10 a12 : Option Addr) (l3 l4 l5 l6 l8 l9 l10 l12 c3 c4 c5 c6 c8 c9 c10 c12 : Nat) (desc : Bool),
  e = .returned (.agg #[.int .i64 kind, .string ⟨table.toArray⟩, .string ⟨name.toArray⟩, .slice a3 l3 c3, .slice a4 l4 c4, .slice a5 l5 c5, .slice a6 l6 c6, .string ⟨join.toArray⟩, .slice a8 l8 c8, .slice a9 l9 c9, .slice a10 l10 c10, .bool desc, .slice a12 l12 c12]) /\
  SR (fun g => b <= g) w x [.int .i64 kind, .string ⟨table.toArray⟩, .string ⟨name.toArray⟩, .slice a3 l3 c3, .slice a4 l4 c4, .slice a5 l5 c5, .slice a6 l6 c6, .string ⟨join.toArray⟩, .slice a8 l8 c8, .slice a9 l9 c9, .slice a10 l10 c10, .bool desc, .slice a12 l12 c12] := by
 obtain ⟨cs, rfl, hr⟩ := h
 have hr' := hr
 cases hr with
 |mk kind table name cols tags values items join on wher order desc inner v3 v4 v5 v6 v8 v9 v10 v12 h3 h4 h5 h6 h8 h9 h10 h12 =>
  obtain ⟨a3, l3, c3, rfl⟩ := h3.form
  obtain ⟨a4, l4, c4, rfl⟩ := h4.form
  obtain ⟨a5, l5, c5, rfl⟩ := h5.form
  obtain ⟨a6, l6, c6, rfl⟩ := h6.form
  obtain ⟨a8, l8, c8, rfl⟩ := h8.form
  obtain ⟨a9, l9, c9, rfl⟩ := h9.form
  obtain ⟨a10, l10, c10, rfl⟩ := h10.form
  obtain ⟨a12, l12, c12, rfl⟩ := h12.form
  exact ⟨kind, table, name, join, a3, a4, a5, a6, a8, a9, a10, a12, l3, l4, l5, l6, l8, l9, l10, l12, c3, c4, c5, c6, c8, c9, c10, c12, desc, rfl, hr'⟩
theorem ret_cell13 {fn : Func} {n : Nat} (h : fn.results = #[.cell n 29]) (tmps : Array Value) (T : Nat) (h2 : tmps.getD n undef = .pointer (some ⟨T, 0, none⟩)) (w : World) (a0 a1 a2 a3 a4 a5 a6 a7 a8 a9 a10 a11 a12 : Value) (hb : Blk w T 29 [a0, a1, a2, a3, a4, a5, a6, a7, a8, a9, a10, a11, a12]) :
  (results fn tmps).run Tryz.prog w = .ok (.agg #[a0, a1, a2, a3, a4, a5, a6, a7, a8, a9, a10, a11, a12]) w := by
 have c0 := hb.cell 0
 have c1 := hb.cell 1
 have c2 := hb.cell 2
 have c3 := hb.cell 3
 have c4 := hb.cell 4
 have c5 := hb.cell 5
 have c6 := hb.cell 6
 have c7 := hb.cell 7
 have c8 := hb.cell 8
 have c9 := hb.cell 9
 have c10 := hb.cell 10
 have c11 := hb.cell 11
 have c12 := hb.cell 12
 simp only [List.getElem?_cons_zero, List.getElem?_cons_succ] at c0 c1 c2 c3 c4 c5 c6 c7 c8 c9 c10 c11 c12
 have h2' : tmps[n]?.getD undef = .pointer (some ⟨T, 0, none⟩) := by simpa using h2
 simp [results, h, h2', go_sem, c0, c1, c2, c3, c4, c5, c6, c7, c8, c9, c10, c11, c12]
def put13 (w : World) (T : Nat) (a0 a1 a2 a3 a4 a5 a6 a7 a8 a9 a10 a11 a12 : Value) : World := (((((((((((((w.setCell ⟨T, 0, none⟩ a0).setCell ⟨T, 1, none⟩ a1).setCell ⟨T, 2, none⟩ a2).setCell ⟨T, 3, none⟩ a3).setCell ⟨T, 4, none⟩ a4).setCell ⟨T, 5, none⟩ a5).setCell ⟨T, 6, none⟩ a6).setCell ⟨T, 7, none⟩ a7).setCell ⟨T, 8, none⟩ a8).setCell ⟨T, 9, none⟩ a9).setCell ⟨T, 10, none⟩ a10).setCell ⟨T, 11, none⟩ a11).setCell ⟨T, 12, none⟩ a12)
theorem frPut13 {X : List (Option Nat)} {z w : World} {T : Nat} (h : Fr X z w) (hT : some T ∈ X \/ z.heap.size <= T) (a0 a1 a2 a3 a4 a5 a6 a7 a8 a9 a10 a11 a12 : Value) : Fr X z (put13 w T a0 a1 a2 a3 a4 a5 a6 a7 a8 a9 a10 a11 a12) := (((((((((((((h.setCell (p := ⟨T, 0, none⟩) hT a0).setCell (p := ⟨T, 1, none⟩) hT a1).setCell (p := ⟨T, 2, none⟩) hT a2).setCell (p := ⟨T, 3, none⟩) hT a3).setCell (p := ⟨T, 4, none⟩) hT a4).setCell (p := ⟨T, 5, none⟩) hT a5).setCell (p := ⟨T, 6, none⟩) hT a6).setCell (p := ⟨T, 7, none⟩) hT a7).setCell (p := ⟨T, 8, none⟩) hT a8).setCell (p := ⟨T, 9, none⟩) hT a9).setCell (p := ⟨T, 10, none⟩) hT a10).setCell (p := ⟨T, 11, none⟩) hT a11).setCell (p := ⟨T, 12, none⟩) hT a12)
theorem blkPut13 {w : World} {T : Nat} {x0 x1 x2 x3 x4 x5 x6 x7 x8 x9 x10 x11 x12 : Value} (h : Blk w T 29 [x0, x1, x2, x3, x4, x5, x6, x7, x8, x9, x10, x11, x12]) (a0 a1 a2 a3 a4 a5 a6 a7 a8 a9 a10 a11 a12 : Value) : Blk (put13 w T a0 a1 a2 a3 a4 a5 a6 a7 a8 a9 a10 a11 a12) T 29 [a0, a1, a2, a3, a4, a5, a6, a7, a8, a9, a10, a11, a12] := (((((((((((((h.set 0 a0).set 1 a1).set 2 a2).set 3 a3).set 4 a4).set 5 a5).set 6 a6).set 7 a7).set 8 a8).set 9 a9).set 10 a10).set 11 a11).set 12 a12)
structure C13 (w : World) (T : Nat) (a0 a1 a2 a3 a4 a5 a6 a7 a8 a9 a10 a11 a12 : Value) : Prop where
 c0 : w.cell? ⟨T, 0, none⟩ = some a0
 c1 : w.cell? ⟨T, 1, none⟩ = some a1
 c2 : w.cell? ⟨T, 2, none⟩ = some a2
 c3 : w.cell? ⟨T, 3, none⟩ = some a3
 c4 : w.cell? ⟨T, 4, none⟩ = some a4
 c5 : w.cell? ⟨T, 5, none⟩ = some a5
 c6 : w.cell? ⟨T, 6, none⟩ = some a6
 c7 : w.cell? ⟨T, 7, none⟩ = some a7
 c8 : w.cell? ⟨T, 8, none⟩ = some a8
 c9 : w.cell? ⟨T, 9, none⟩ = some a9
 c10 : w.cell? ⟨T, 10, none⟩ = some a10
 c11 : w.cell? ⟨T, 11, none⟩ = some a11
 c12 : w.cell? ⟨T, 12, none⟩ = some a12
 f0 : w.frozen? ⟨T, 0, none⟩ = false
 f1 : w.frozen? ⟨T, 1, none⟩ = false
 f2 : w.frozen? ⟨T, 2, none⟩ = false
 f3 : w.frozen? ⟨T, 3, none⟩ = false
 f4 : w.frozen? ⟨T, 4, none⟩ = false
 f5 : w.frozen? ⟨T, 5, none⟩ = false
 f6 : w.frozen? ⟨T, 6, none⟩ = false
 f7 : w.frozen? ⟨T, 7, none⟩ = false
 f8 : w.frozen? ⟨T, 8, none⟩ = false
 f9 : w.frozen? ⟨T, 9, none⟩ = false
 f10 : w.frozen? ⟨T, 10, none⟩ = false
 f11 : w.frozen? ⟨T, 11, none⟩ = false
 f12 : w.frozen? ⟨T, 12, none⟩ = false
theorem c13_of {w : World} {T : Nat} {a0 a1 a2 a3 a4 a5 a6 a7 a8 a9 a10 a11 a12 : Value} (h : Blk w T 29 [a0, a1, a2, a3, a4, a5, a6, a7, a8, a9, a10, a11, a12]) : C13 w T a0 a1 a2 a3 a4 a5 a6 a7 a8 a9 a10 a11 a12 :=
 ⟨h.cell 0, h.cell 1, h.cell 2, h.cell 3, h.cell 4, h.cell 5, h.cell 6, h.cell 7, h.cell 8, h.cell 9, h.cell 10, h.cell 11, h.cell 12, h.free 0, h.free 1, h.free 2, h.free 3, h.free 4, h.free 5, h.free 6, h.free 7, h.free 8, h.free 9, h.free 10, h.free 11, h.free 12⟩
end Px
end Go.Proofs.YtmdnhinpaflamaaGreatDoor
namespace Go.Proofs.YtmdnhinpaflamaaGreatDoor
open Go.RowKit
namespace Px
open PM (PS B Ex)
end Px
end Go.Proofs.YtmdnhinpaflamaaGreatDoor
namespace Go.Proofs.YtmdnhinpaflamaaGreatDoor
open Go.RowKit
namespace Px
open PM (PS B Ex)
end Px
end Go.Proofs.YtmdnhinpaflamaaGreatDoor
namespace Go.Proofs.YtmdnhinpaflamaaGreatDoor
open Go.RowKit
namespace PM
end PM
namespace Px
open PM (PS B Ex)
end Px
end Go.Proofs.YtmdnhinpaflamaaGreatDoor
namespace Go.Proofs.YtmdnhinpaflamaaGreatDoor
open Go.RowKit
namespace Px
open LexM (Tok)
open PM (PS B Ex)
open Lx (toksC tokC)
end Px
end Go.Proofs.YtmdnhinpaflamaaGreatDoor
namespace Go.Proofs.YtmdnhinpaflamaaGreatDoor
open Go.RowKit
namespace PM
end PM
namespace Px
open PM (PS B Ex)
structure Cells13 where
 kind : Int
 table : B
 name : B
 join : B
 a3 : Option Addr
 a4 : Option Addr
 a5 : Option Addr
 a6 : Option Addr
 a8 : Option Addr
 a9 : Option Addr
 a10 : Option Addr
 a12 : Option Addr
 l3 : Nat
 l4 : Nat
 l5 : Nat
 l6 : Nat
 l8 : Nat
 l9 : Nat
 l10 : Nat
 l12 : Nat
 c3 : Nat
 c4 : Nat
 c5 : Nat
 c6 : Nat
 c8 : Nat
 c9 : Nat
 c10 : Nat
 c12 : Nat
 desc : Bool
def Cells13.list (c : Cells13) : List Value := [.int .i64 c.kind, .string ⟨c.table.toArray⟩, .string ⟨c.name.toArray⟩, .slice c.a3 c.l3 c.c3, .slice c.a4 c.l4 c.c4, .slice c.a5 c.l5 c.c5, .slice c.a6 c.l6 c.c6, .string ⟨c.join.toArray⟩, .slice c.a8 c.l8 c.c8, .slice c.a9 c.l9 c.c9, .slice c.a10 c.l10 c.c10, .bool c.desc, .slice c.a12 c.l12 c.c12]
theorem sr_cells {A : Nat -> Prop} {w : World} {x : PM.St} {cs : List Value} (h : SR A w x cs) : ∃ c : Cells13, cs = c.list := by
 obtain ⟨kind, table, name, join, a3, a4, a5, a6, a8, a9, a10, a12, l3, l4, l5, l6, l8, l9, l10, l12, c3, c4, c5, c6, c8, c9, c10, c12, desc, he, _⟩ := st_cells (b := 0) (e := .returned (.agg cs.toArray)) ⟨cs, rfl, SR.mono (A' := fun b => 0 <= b) (fun _ _ => Nat.zero_le _) h⟩
 refine ⟨⟨kind, table, name, join, a3, a4, a5, a6, a8, a9, a10, a12, l3, l4, l5, l6, l8, l9, l10, l12, c3, c4, c5, c6, c8, c9, c10, c12, desc⟩, ?_⟩
 simp only [Ending.returned.injEq, Value.agg.injEq] at he
 have := congrArg Array.toList he
 simpa [Cells13.list] using this
theorem slice_len {T : TypeId} {size : Nat} {w : World} {a : Option Addr} {l c n : Nat} {xs : List Value} (h : Row w T size (.slice a l c) n xs) : l = n := by
 rcases h.form with ⟨h1, h2, _⟩ | ⟨g, off, cap, h1, _⟩
 ·cases h1; exact h2.symm
 ·cases h1; rfl
theorem es_len {A : Nat -> Prop} {w : World} {a : Option Addr} {l c : Nat} {xs : List Ex} (h : Rep.Es 82 A w xs (.slice a l c)) : l = xs.length := by
 cases h with
 |mk _ _ _ _ h2 _ => exact slice_len h2
end Px
end Go.Proofs.YtmdnhinpaflamaaGreatDoor
namespace Go.Proofs.YtmdnhinpaflamaaGreatDoor
open Go.RowKit
namespace Sm
open PM (Ex B)
theorem e_cells {A : Nat -> Prop} {w : World} {x : Ex} {cs : List Value} (h : Rep.E 82 A w x cs) : ∃ (op kind int : Int) (text table name : B) (args : List Ex) (a : Option Addr) (n c : Nat),
  x = .mk op kind int text table name args /\ cs = [.int .i64 op, .int .i64 kind, .int .i64 int, .string ⟨text.toArray⟩, .string ⟨table.toArray⟩, .string ⟨name.toArray⟩, .slice a n c] /\ Rep.Es 82 A w args (.slice a n c) := by
 cases h with
 |mk op kind int text table name args v h =>
  cases h with
  |mk _ _ xs hl hr hb =>
   rcases hr.form with ⟨rfl, h1, h2⟩ | ⟨g, off, cap, rfl, h1⟩
   ·exact ⟨op, kind, int, text, table, name, args, none, 0, 0, rfl, rfl, .mk _ _ xs hl hr hb⟩
   ·exact ⟨op, kind, int, text, table, name, args, _, _, _, rfl, rfl, .mk _ _ xs hl hr hb⟩
end Sm
end Go.Proofs.YtmdnhinpaflamaaGreatDoor
namespace Go.Proofs.YtmdnhinpaflamaaGreatDoor
open Go.RowKit
namespace Px
open PM (PS B Ex)
theorem ret2_cell7 {fn : Func} {n i : Nat} (h : fn.results = #[.cell n 82, .tmp i]) (tmps : Array Value) (T : Nat) (h2 : tmps.getD n undef = .pointer (some ⟨T, 0, none⟩)) (u : Value) (hu : tmps.getD i undef = u) (w : World) (a0 a1 a2 a3 a4 a5 a6 : Value) (hb : Blk w T 82 [a0, a1, a2, a3, a4, a5, a6]) :
  (results fn tmps).run Tryz.prog w = .ok (.tuple #[.agg #[a0, a1, a2, a3, a4, a5, a6], u]) w := by
 obtain ⟨c0, c1, c2, c3, c4, c5, c6, f0, f1, f2, f3, f4, f5, f6⟩ := c7_of hb
 have h2' : tmps[n]?.getD undef = .pointer (some ⟨T, 0, none⟩) := by simpa using h2
 have hu' : tmps[i]?.getD undef = u := by simpa using hu
 clear h2 hu
 simp [results, h, h2', hu', go_sem, c0, c1, c2, c3, c4, c5, c6]
end Px
end Go.Proofs.YtmdnhinpaflamaaGreatDoor
