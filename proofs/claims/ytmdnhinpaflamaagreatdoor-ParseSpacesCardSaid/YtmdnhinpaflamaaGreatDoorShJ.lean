/- Things written one by one with commas between: plain. -/
import Derived.Test.YtmdnhinpaflamaaGreatDoorGaD
import Derived.Test.YtmdnhinpaflamaaGreatDoorLin
namespace Go.Proofs.YtmdnhinpaflamaaGreatDoor
open Go.RowKit
set_option linter.unusedVariables false
namespace Sh
open PM (Ex B)
open CM (Pr Qs Wr Sel Im Co Cl)
open Gn (sh)
variable {α : Type}
def jn (f : α -> B) : List α -> B
 |[] => []
 |x :: r => f x ++ r.flatMap (fun y => 44 :: 32 :: f y)
theorem jn_snoc (f : α -> B) (l : List α) (x : α) : jn f (l ++ [x]) = jn f l ++ (if l.isEmpty then [] else [44, 32]) ++ f x := by
 cases l with
 |nil => simp [jn]
 |cons y r => simp [jn]
theorem jn_take (f : α -> B) (l : List α) (k : Nat) (h : k < l.length) : jn f (l.take (k + 1)) = jn f (l.take k) ++ (if k = 0 then [] else [44, 32]) ++ f l[k] := by
 rw [List.take_succ_eq_append_getElem h, jn_snoc]
 cases k with
 |zero => simp
 |succ k =>
  have : (l.take (k + 1)).isEmpty = false := by
   cases l with
   |nil => simp at h
   |cons => rfl
  rw [this]
  simp
theorem jn_le (f : α -> B) (l : List α) (k : Nat) : (jn f (l.take k)).length <= (jn f l).length := by
 cases l with
 |nil => simp
 |cons x r =>
  cases k with
  |zero => simp [jn]
  |succ k =>
   rw [List.take_succ_cons]
   unfold jn
   conv => rhs; rw [<- List.take_append_drop k r]
   simp only [List.flatMap_append, List.length_append]
   omega
theorem lines_jn (f : Nat -> α -> Pc.Line) (h : ∀ x, Pc.render (f 1 x) = 32 :: Pc.render (f 0 x)) : ∀ r : List α, Pc.render (CM.lines f r) = r.flatMap (fun y => 44 :: 32 :: Pc.render (f 0 y))
 |[] => rfl
 |x :: r => by
  rw [CM.lines, Pc.render, Gn.render_app, h, lines_jn f h r]
  simp [Pc.blanks, Pc.Pc.bytes]
theorem render_jn (f : Nat -> α -> Pc.Line) (h : ∀ x, Pc.render (f 1 x) = 32 :: Pc.render (f 0 x)) (x : α) (r : List α) : Pc.render (f 0 x ++ CM.lines f r) = jn (fun x => Pc.render (f 0 x)) (x :: r) := by
 rw [Gn.render_app, lines_jn f h]
 rfl
theorem render_jn1 (f : Nat -> α -> Pc.Line) (h : ∀ x, Pc.render (f 1 x) = 32 :: Pc.render (f 0 x)) (x : α) (r : List α) : Pc.render (f 1 x ++ CM.lines f r) = 32 :: jn (fun x => Pc.render (f 0 x)) (x :: r) := by
 rw [Gn.render_app, lines_jn f h, h]
 rfl
theorem pr_gap (p : Pr) : Pc.render (p.line 1) = 32 :: Pc.render (p.line 0) := Gn.sh_one p
theorem cl_gap1 (c : Cl) : Pc.render (c.line 1) = 32 :: Pc.render (c.line 0) := by
 unfold Cl.line
 split <;> rfl
theorem im_gap1 (x : Im) : Pc.render (x.line 1) = 32 :: Pc.render (x.line 0) := by
 cases x with
 |col c => exact cl_gap1 c
 |count => rfl
 |agg k c => rfl
theorem co_gap1 (c : Co) : Pc.render (c.line 1) = 32 :: Pc.render (c.line 0) := rfl
theorem tg_gap1 (t : Nat) : Pc.render (CM.Tg 1 t) = 32 :: Pc.render (CM.Tg 0 t) := rfl
def clT (c : Cl) : B := Pc.render (c.line 0)
def imT (x : Im) : B := Pc.render (x.line 0)
def coT (c : Co) : B := Pc.render (c.line 0)
def exprsT (l : List Pr) : B := jn sh l
def itemsT (l : List Im) : B := if l.isEmpty then [42] else jn imT l
def tagsT (l : List Nat) : B := if l.isEmpty then [] else 32 :: jn Lib.decDigits l
def whereT (o : Option Pr) : B := match o with | none => [] | some p => [32, 119, 104, 101, 114, 101, 32] ++ sh p
def joinT (o : Option (B × Cl × Cl)) : B := match o with | none => [] | some (j, a, b) => [32, 106, 111, 105, 110, 32] ++ j ++ [32, 111, 110, 32] ++ clT a ++ [32, 61, 32] ++ clT b
def orderT (o : Option (Cl × Bool)) : B := match o with | none => [] | some (c, d) => [32, 111, 114, 100, 101, 114, 32, 98, 121, 32] ++ clT c ++ (if d then [32, 100, 101, 115, 99] else [])
def selT (s : Sel) : B := [115, 101, 108, 101, 99, 116, 32] ++ itemsT s.items ++ [32, 102, 114, 111, 109, 32] ++ s.table ++ joinT s.join ++ whereT s.wher ++ orderT s.order
def wrT : Wr -> B
 |.insert t x r => [105, 110, 115, 101, 114, 116, 32, 105, 110, 116, 111, 32] ++ t ++ [32, 118, 97, 108, 117, 101, 115, 40] ++ exprsT (x :: r) ++ [41]
 |.update t m x wh => [117, 112, 100, 97, 116, 101, 32] ++ t ++ [32, 115, 101, 116, 32] ++ m ++ [32, 61, 32] ++ sh x ++ whereT wh
 |.delete t wh => [100, 101, 108, 101, 116, 101, 32, 102, 114, 111, 109, 32] ++ t ++ whereT wh
def qsT : Qs -> B
 |.table m c r => [99, 114, 101, 97, 116, 101, 32, 116, 97, 98, 108, 101, 32] ++ m ++ [40] ++ jn coT (c :: r) ++ [41]
 |.index t m => [99, 114, 101, 97, 116, 101, 32, 105, 110, 100, 101, 120, 32, 111, 110, 32] ++ t ++ [40] ++ m ++ [41]
 |.view m tags s => [99, 114, 101, 97, 116, 101, 32, 118, 105, 101, 119, 32] ++ m ++ [32, 115, 116, 114, 105, 112] ++ tagsT tags ++ [32, 97, 115, 32] ++ selT s
 |.closure m tags s => [99, 114, 101, 97, 116, 101, 32, 99, 108, 111, 115, 117, 114, 101, 32] ++ m ++ [32, 115, 116, 114, 105, 112] ++ tagsT tags ++ [32, 97, 115, 32] ++ wrT s
 |.select s => selT s
 |.write s => wrT s
 |.plain k => CM.plainW k
 |.raise t r => [114, 97, 105, 115, 101] ++ tagsT (t :: r)
 |.call m => [99, 97, 108, 108, 32] ++ m
theorem tags_text (l : List Nat) : Pc.render (CM.tagsL l) = tagsT l := by
 cases l with
 |nil => rfl
 |cons t r =>
  rw [CM.tagsL, render_jn1 CM.Tg tg_gap1, show (fun x => Pc.render (CM.Tg 0 x)) = Lib.decDigits from funext fun x => by simp [CM.Tg, Pc.render, Pc.blanks, Pc.Pc.bytes]]
  rfl
theorem items_text (l : List Im) : Pc.render (CM.itemsL l) = 32 :: itemsT l := by
 cases l with
 |nil => rfl
 |cons t r =>
  rw [CM.itemsL, render_jn1 Im.line im_gap1]
  rfl
theorem where_text (o : Option Pr) : Pc.render (CM.whereL o) = whereT o := by
 cases o with
 |none => rfl
 |some p =>
  rw [CM.whereL, Pc.render, Gn.sh_one]
  rfl
theorem join_text (o : Option (B × Cl × Cl)) : Pc.render (CM.joinL o) = joinT o := by
 cases o with
 |none => rfl
 |some x =>
  obtain ⟨j, a, b⟩ := x
  simp only [CM.joinL, Pc.render, Gn.render_app, cl_gap1, joinT, clT]
  simp [Pc.blanks, Pc.Pc.bytes]
theorem order_text (o : Option (Cl × Bool)) : Pc.render (CM.orderL o) = orderT o := by
 cases o with
 |none => rfl
 |some x =>
  obtain ⟨c, d⟩ := x
  cases d <;> simp only [CM.orderL, Pc.render, Gn.render_app, cl_gap1, orderT, clT] <;> simp [Pc.blanks, Pc.Pc.bytes, Pc.render]
theorem sel_text (s : Sel) : Pc.render (s.line 0) = selT s := by
 simp only [Sel.line, Pc.render, Gn.render_app, items_text, join_text, where_text, order_text, selT]
 simp [Pc.blanks, Pc.Pc.bytes]
theorem sel_text1 (s : Sel) : Pc.render (s.line 1) = 32 :: selT s := by
 rw [<- sel_text]
 rfl
theorem wr_text (s : Wr) : Pc.render (s.line 0) = wrT s := by
 cases s with
 |insert t x r =>
  simp only [Wr.line, Pc.render]
  rw [show ∀ (a b c : Pc.Line), a ++ (b ++ c) = (a ++ b) ++ c from fun a b c => (List.append_assoc a b c).symm, Gn.render_app, render_jn (fun g (p : Pr) => p.line g) pr_gap]
  simp only [wrT, exprsT]
  simp [Pc.blanks, Pc.Pc.bytes, Pc.render]
  rfl
 |update t m x wh =>
  simp only [Wr.line, Pc.render, Gn.render_app, pr_gap, where_text, wrT, sh]
  simp [Pc.blanks, Pc.Pc.bytes]
 |delete t wh =>
  simp only [Wr.line, Pc.render, where_text, wrT]
  simp [Pc.blanks, Pc.Pc.bytes]
theorem wr_text1 (s : Wr) : Pc.render (s.line 1) = 32 :: wrT s := by
 rw [<- wr_text]
 cases s <;> rfl
theorem qs_text (q : Qs) : Pc.render q.line = qsT q := by
 cases q with
 |table m c r =>
  simp only [Qs.line, Pc.render]
  rw [show ∀ (a b c : Pc.Line), a ++ (b ++ c) = (a ++ b) ++ c from fun a b c => (List.append_assoc a b c).symm, Gn.render_app, render_jn Co.line co_gap1]
  simp only [qsT]
  simp [Pc.blanks, Pc.Pc.bytes, Pc.render]
  rfl
 |index t m => simp [Qs.line, Pc.render, Pc.blanks, Pc.Pc.bytes, qsT]
 |view m tags s =>
  simp only [Qs.line, CM.doorL, Pc.render, Gn.render_app, tags_text, sel_text1, qsT]
  simp [Pc.blanks, Pc.Pc.bytes]
 |closure m tags s =>
  simp only [Qs.line, CM.doorL, Pc.render, Gn.render_app, tags_text, wr_text1, qsT]
  simp [Pc.blanks, Pc.Pc.bytes]
 |select s => exact sel_text s
 |write s => exact wr_text s
 |plain k => simp [Qs.line, Pc.render, Pc.blanks, Pc.Pc.bytes, qsT]
 |raise t r =>
  simp only [Qs.line, Pc.render]
  rw [show Pc.render (CM.Tg 1 t ++ CM.lines CM.Tg r) = tagsT (t :: r) from tags_text (t :: r)]
  simp [Pc.blanks, Pc.Pc.bytes, qsT]
 |call m => simp [Qs.line, Pc.render, Pc.blanks, Pc.Pc.bytes, qsT]
end Sh
end Go.Proofs.YtmdnhinpaflamaaGreatDoor
