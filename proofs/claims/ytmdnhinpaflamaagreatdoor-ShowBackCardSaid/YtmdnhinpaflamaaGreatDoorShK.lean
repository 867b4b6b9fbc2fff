/- A statement's text, as its line. -/
import Derived.Test.YtmdnhinpaflamaaGreatDoorShA
namespace Go.Proofs.YtmdnhinpaflamaaGreatDoor
open Go.RowKit
set_option linter.unusedVariables false
namespace Sh
open PM (Ex B)
open CM (Pr Qs Wr Sel Im Co Cl)
open Gn (sh)
variable {α : Type}
theorem lines_jn (f : Nat -> α -> Pc.Line) (h : ∀ x, Pc.render (f 1 x) = 32 :: Pc.render (f 0 x)) : ∀ r : List α, Pc.render (CM.lines f r) = r.flatMap (fun y => 44 :: 32 :: Pc.render (f 0 y))
 |[] => rfl
 |x :: r => by
  rw [CM.lines, Pc.render, Gn.render_app, h, lines_jn f h r]
  simp [Pc.blanks, Pc.Pc.bytes]
theorem render_jn (f : Nat -> α -> Pc.Line) (h : ∀ x, Pc.render (f 1 x) = 32 :: Pc.render (f 0 x)) (x : α) (r : List α) : Pc.render (f 0 x ++ CM.lines f r) = jn (fun x => Pc.render (f 0 x)) (x :: r) := by
 rw [Gn.render_app, lines_jn f h]
 rfl
theorem render_jn1 (f : Nat -> α -> Pc.Line) (h : ∀ x, Pc.render (f 1 x) = 32 :: Pc.render (f 0 x)) (x : α) (r : List α) : Pc.render (f 1 x ++ CM.lines f r) = 32 :: jn (fun x => Pc.render (f 0 x)) (x :: r) := by
 rw [Gn.render_app, lines_jn f h, h]
 rfl
theorem pr_gap (p : Pr) : Pc.render (p.line 1) = 32 :: Pc.render (p.line 0) := Gn.sh_one p
theorem cl_gap1 (c : Cl) : Pc.render (c.line 1) = 32 :: Pc.render (c.line 0) := by
 unfold Cl.line
 split <;> rfl
theorem im_gap1 (x : Im) : Pc.render (x.line 1) = 32 :: Pc.render (x.line 0) := by
 cases x with
 |col c => exact cl_gap1 c
 |count => rfl
 |agg k c => rfl
theorem tags_text (l : List Nat) : Pc.render (CM.tagsL l) = tagsT l := by
 cases l with
 |nil => rfl
 |cons t r =>
  rw [CM.tagsL, render_jn1 CM.Tg tg_gap1, show (fun x => Pc.render (CM.Tg 0 x)) = Lib.decDigits from funext fun x => by simp [CM.Tg, Pc.render, Pc.blanks, Pc.Pc.bytes]]
  rfl
theorem items_text (l : List Im) : Pc.render (CM.itemsL l) = 32 :: itemsT l := by
 cases l with
 |nil => rfl
 |cons t r =>
  rw [CM.itemsL, render_jn1 Im.line im_gap1]
  rfl
theorem where_text (o : Option Pr) : Pc.render (CM.whereL o) = whereT o := by
 cases o with
 |none => rfl
 |some p =>
  rw [CM.whereL, Pc.render, Gn.sh_one]
  rfl
theorem join_text (o : Option (B × Cl × Cl)) : Pc.render (CM.joinL o) = joinT o := by
 cases o with
 |none => rfl
 |some x =>
  obtain ⟨j, a, b⟩ := x
  simp only [CM.joinL, Pc.render, Gn.render_app, cl_gap1, joinT, clT]
  simp [Pc.blanks, Pc.Pc.bytes]
theorem order_text (o : Option (Cl × Bool)) : Pc.render (CM.orderL o) = orderT o := by
 cases o with
 |none => rfl
 |some x =>
  obtain ⟨c, d⟩ := x
  cases d <;> simp only [CM.orderL, Pc.render, Gn.render_app, cl_gap1, orderT, clT] <;> simp [Pc.blanks, Pc.Pc.bytes, Pc.render]
theorem sel_text (s : Sel) : Pc.render (s.line 0) = selT s := by
 simp only [Sel.line, Pc.render, Gn.render_app, items_text, join_text, where_text, order_text, selT]
 simp [Pc.blanks, Pc.Pc.bytes]
theorem sel_text1 (s : Sel) : Pc.render (s.line 1) = 32 :: selT s := by
 rw [<- sel_text]
 rfl
theorem wr_text (s : Wr) : Pc.render (s.line 0) = wrT s := by
 cases s with
 |insert t x r =>
  simp only [Wr.line, Pc.render]
  rw [show ∀ (a b c : Pc.Line), a ++ (b ++ c) = (a ++ b) ++ c from fun a b c => (List.append_assoc a b c).symm, Gn.render_app, render_jn (fun g (p : Pr) => p.line g) pr_gap]
  simp only [wrT, exprsT]
  simp [Pc.blanks, Pc.Pc.bytes, Pc.render]
  rfl
 |update t m x wh =>
  simp only [Wr.line, Pc.render, Gn.render_app, pr_gap, where_text, wrT, sh]
  simp [Pc.blanks, Pc.Pc.bytes]
 |delete t wh =>
  simp only [Wr.line, Pc.render, where_text, wrT]
  simp [Pc.blanks, Pc.Pc.bytes]
theorem wr_text1 (s : Wr) : Pc.render (s.line 1) = 32 :: wrT s := by
 rw [<- wr_text]
 cases s <;> rfl
theorem qs_text (q : Qs) : Pc.render q.line = qsT q := by
 cases q with
 |table m c r =>
  simp only [Qs.line, Pc.render]
  rw [show ∀ (a b c : Pc.Line), a ++ (b ++ c) = (a ++ b) ++ c from fun a b c => (List.append_assoc a b c).symm, Gn.render_app, render_jn Co.line co_gap1]
  simp only [qsT]
  simp [Pc.blanks, Pc.Pc.bytes, Pc.render]
  rfl
 |index t m => simp [Qs.line, Pc.render, Pc.blanks, Pc.Pc.bytes, qsT]
 |view m tags s =>
  simp only [Qs.line, CM.doorL, Pc.render, Gn.render_app, tags_text, sel_text1, qsT]
  simp [Pc.blanks, Pc.Pc.bytes]
 |closure m tags s =>
  simp only [Qs.line, CM.doorL, Pc.render, Gn.render_app, tags_text, wr_text1, qsT]
  simp [Pc.blanks, Pc.Pc.bytes]
 |select s => exact sel_text s
 |write s => exact wr_text s
 |plain k => simp [Qs.line, Pc.render, Pc.blanks, Pc.Pc.bytes, qsT]
 |raise t r =>
  simp only [Qs.line, Pc.render]
  rw [show Pc.render (CM.Tg 1 t ++ CM.lines CM.Tg r) = tagsT (t :: r) from tags_text (t :: r)]
  simp [Pc.blanks, Pc.Pc.bytes, qsT]
 |call m => simp [Qs.line, Pc.render, Pc.blanks, Pc.Pc.bytes, qsT]
end Sh
end Go.Proofs.YtmdnhinpaflamaaGreatDoor
