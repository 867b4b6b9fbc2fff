/- Things written one by one with commas between: plain. -/
import Derived.Test.YtmdnhinpaflamaaDoorGaD
import Derived.Test.YtmdnhinpaflamaaDoorPc
namespace Go.Proofs.YtmdnhinpaflamaaDoor
open Go.RowKit
set_option linter.unusedVariables false
namespace Sh
open PM (Ex B)
open CM (Pr Qs Wr Sel Im Co Cl)
open Gn (sh)
variable {α : Type}
/-- with a comma and a space between -/
def jn (f : α → B) : List α → B
  | [] => []
  | x :: r => f x ++ r.flatMap (fun y => 44 :: 32 :: f y)
theorem jn_snoc (f : α → B) (l : List α) (x : α) : jn f (l ++ [x]) = jn f l ++ (if l.isEmpty then [] else [44, 32]) ++ f x := by
  cases l with
  | nil => simp [jn]
  | cons y r => simp [jn]
theorem jn_take (f : α → B) (l : List α) (k : Nat) (h : k < l.length) : jn f (l.take (k + 1)) = jn f (l.take k) ++ (if k = 0 then [] else [44, 32]) ++ f l[k] := by
  rw [List.take_succ_eq_append_getElem h, jn_snoc]
  cases k with
  | zero => simp
  | succ k =>
    have : (l.take (k + 1)).isEmpty = false := by
      cases l with
      | nil => simp at h
      | cons => rfl
    rw [this]
    simp
theorem jn_le (f : α → B) (l : List α) (k : Nat) : (jn f (l.take k)).length ≤ (jn f l).length := by
  cases l with
  | nil => simp
  | cons x r =>
    cases k with
    | zero => simp [jn]
    | succ k =>
      rw [List.take_succ_cons]
      unfold jn
      conv => rhs; rw [← List.take_append_drop k r]
      simp only [List.flatMap_append, List.length_append]
      omega
theorem co_gap1 (c : Co) : Pc.render (c.line 1) = 32 :: Pc.render (c.line 0) := rfl
theorem tg_gap1 (t : Nat) : Pc.render (CM.Tg 1 t) = 32 :: Pc.render (CM.Tg 0 t) := rfl
/-- a statement's parts -/
def clT (c : Cl) : B := Pc.render (c.line 0)
def imT (x : Im) : B := Pc.render (x.line 0)
def coT (c : Co) : B := Pc.render (c.line 0)
def exprsT (l : List Pr) : B := jn sh l
def itemsT (l : List Im) : B := if l.isEmpty then [42] else jn imT l
def tagsT (l : List Nat) : B := if l.isEmpty then [] else 32 :: jn Lib.decDigits l
def whereT (o : Option Pr) : B := match o with | none => [] | some p => [32, 119, 104, 101, 114, 101, 32] ++ sh p
def joinT (o : Option (B × Cl × Cl)) : B := match o with | none => [] | some (j, a, b) => [32, 106, 111, 105, 110, 32] ++ j ++ [32, 111, 110, 32] ++ clT a ++ [32, 61, 32] ++ clT b
def orderT (o : Option (Cl × Bool)) : B := match o with | none => [] | some (c, d) => [32, 111, 114, 100, 101, 114, 32, 98, 121, 32] ++ clT c ++ (if d then [32, 100, 101, 115, 99] else [])
def selT (s : Sel) : B := [115, 101, 108, 101, 99, 116, 32] ++ itemsT s.items ++ [32, 102, 114, 111, 109, 32] ++ s.table ++ joinT s.join ++ whereT s.wher ++ orderT s.order
def wrT : Wr → B
  | .insert t x r => [105, 110, 115, 101, 114, 116, 32, 105, 110, 116, 111, 32] ++ t ++ [32, 118, 97, 108, 117, 101, 115, 40] ++ exprsT (x :: r) ++ [41]
  | .update t m x wh => [117, 112, 100, 97, 116, 101, 32] ++ t ++ [32, 115, 101, 116, 32] ++ m ++ [32, 61, 32] ++ sh x ++ whereT wh
  | .delete t wh => [100, 101, 108, 101, 116, 101, 32, 102, 114, 111, 109, 32] ++ t ++ whereT wh
def qsT : Qs → B
  | .table m c r => [99, 114, 101, 97, 116, 101, 32, 116, 97, 98, 108, 101, 32] ++ m ++ [40] ++ jn coT (c :: r) ++ [41]
  | .index t m => [99, 114, 101, 97, 116, 101, 32, 105, 110, 100, 101, 120, 32, 111, 110, 32] ++ t ++ [40] ++ m ++ [41]
  | .view m tags s => [99, 114, 101, 97, 116, 101, 32, 118, 105, 101, 119, 32] ++ m ++ [32, 115, 116, 114, 105, 112] ++ tagsT tags ++ [32, 97, 115, 32] ++ selT s
  | .closure m tags s => [99, 114, 101, 97, 116, 101, 32, 99, 108, 111, 115, 117, 114, 101, 32] ++ m ++ [32, 115, 116, 114, 105, 112] ++ tagsT tags ++ [32, 97, 115, 32] ++ wrT s
  | .select s => selT s
  | .write s => wrT s
  | .plain k => CM.plainW k
  | .raise t r => [114, 97, 105, 115, 101] ++ tagsT (t :: r)
  | .call m => [99, 97, 108, 108, 32] ++ m
end Sh
end Go.Proofs.YtmdnhinpaflamaaDoor
