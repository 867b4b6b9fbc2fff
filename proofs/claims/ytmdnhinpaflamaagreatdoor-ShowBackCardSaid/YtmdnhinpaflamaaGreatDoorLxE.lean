/- The document's lexer, whole. -/
import Derived.Test.YtmdnhinpaflamaaGreatDoorLex
import Derived.Test.YtmdnhinpaflamaaGreatDoorGaB
import Derived.Test.YtmdnhinpaflamaaGreatDoorPlA
import Derived.WalkKit
import Derived.WalkSpells
import Derived.WalkLawsBesides
import Derived.Lib.Hide
import Derived.IntWalk
import Derived.ArgAppend
import Derived.Below
import Derived.OwnWalk
import Derived.Deep.Draws
import Derived.Laws.AppendOwn
import Derived.Sort.Row
import Derived.Laws.IdiomStrings
import Derived.Laws.BytesArg
import Derived.BigQuiet
import Derived.Lib.IndexAny
import Derived.Lib.SlicesS
import Derived.Lib.AppendIntMem
import Derived.Lib.ItoaLen
namespace Go.Proofs.YtmdnhinpaflamaaGreatDoor
open Go.RowKit
def res (x : Int) : Int := if ok64 x then x else 0
def err (x : Int) : Int := if ok64 x then 0 else 8
theorem res_ok {x : Int} (h : ok64 x = true) : res x = x := by simp [res, h]
theorem err_ok {x : Int} (h : ok64 x = true) : err x = 0 := by simp [err, h]
theorem res_no {x : Int} (h : ok64 x = false) : res x = 0 := by simp [res, h]
theorem err_no {x : Int} (h : ok64 x = false) : err x = 8 := by simp [err, h]
theorem no_iff {x : Int} : ok64 x = false ↔ ¬ (-9223372036854775808 <= x /\ x <= 9223372036854775807) := by simp [ok64]
end Go.Proofs.YtmdnhinpaflamaaGreatDoor
namespace Go.Proofs.YtmdnhinpaflamaaGreatDoor
open Go.RowKit
namespace Fr
variable {S S' : List (Option Nat)} {a b c w w' : World}
theorem drewN (h : Fr S a w) (n : Nat) : Fr S a (w.drewN n) := ⟨h.os, h.tape, h.output, h.size, h.block⟩
end Fr
namespace Blk
variable {w w' : World} {b : Nat} {E : TypeId} {cs : List Value}
theorem drewN (h : Blk w b E cs) (n : Nat) : Blk (w.drewN n) b E cs := h
end Blk
namespace Row
variable {w w' : World} {E : TypeId} {size : Nat} {v : Value} {n : Nat} {xs : List Value}
end Row
end Go.Proofs.YtmdnhinpaflamaaGreatDoor
namespace Go.Proofs.YtmdnhinpaflamaaGreatDoor
open Go.RowKit
end Go.Proofs.YtmdnhinpaflamaaGreatDoor
namespace Go.Proofs.YtmdnhinpaflamaaGreatDoor
open Go.RowKit
namespace Parse
def dig (c : UInt8) : Bool := decide (48 <= c.toNat /\ c.toNat <= 57)
def val (l : List UInt8) : Nat := l.foldl (fun v c => v * 10 + (c.toNat - 48)) 0
theorem val_snoc (l : List UInt8) (c : UInt8) : val (l ++ [c]) = val l * 10 + (c.toNat - 48) := by simp [val]
def bad (l : List UInt8) : Bool := l.isEmpty || !l.all dig
def parseV (l : List UInt8) : Int := if bad l then 0 else res (val l)
def parseE (l : List UInt8) : Int := if bad l then 3 else err (val l)
theorem bad_nil : bad [] = true := rfl
theorem parse_bad {l : List UInt8} (h : bad l = true) : Ending.returned (.tuple #[.int .i64 0, .int .i64 3]) = .returned (.tuple #[.int .i64 (parseV l), .int .i64 (parseE l)]) := by simp [parseV, parseE, h]
theorem bad_of {l : List UInt8} {k : Nat} {c : UInt8} (h : k < l.length) (hc : l[k] = c) (hd : dig c = false) : bad l = true := by
 simp only [bad, Bool.or_eq_true, Bool.not_eq_true', List.all_eq_false]
 exact .inr ⟨c, by rw [<- hc]; exact List.getElem_mem _, by simp [hd]⟩
end Parse
end Go.Proofs.YtmdnhinpaflamaaGreatDoor
namespace Go.Proofs.YtmdnhinpaflamaaGreatDoor
open Go.RowKit
namespace Lx
def at0 (S : List UInt8) (p : Nat) : UInt8 := (S.drop p).headD 0
theorem at0_lt {S : List UInt8} {p : Nat} (h : p < S.length) : at0 S p = S[p] := by
 unfold at0; rw [List.drop_eq_getElem_cons h]; rfl
theorem at0_ge {S : List UInt8} {p : Nat} (h : S.length <= p) : at0 S p = 0 := by
 unfold at0; rw [List.drop_eq_nil_of_le h]; rfl
end Lx
end Go.Proofs.YtmdnhinpaflamaaGreatDoor
namespace Go.Proofs.YtmdnhinpaflamaaGreatDoor
open Go.RowKit
namespace Lx
def StopAt (f : UInt8 -> Bool) (S : List UInt8) (p q : Nat) : Prop := (S.drop p).takeWhile f = (S.drop p).take (q - p) ++ (S.drop q).takeWhile f
theorem StopAt.zero (f : UInt8 -> Bool) (S : List UInt8) (p : Nat) : StopAt f S p p := by simp [StopAt]
theorem StopAt.next {f : UInt8 -> Bool} {S : List UInt8} {p q : Nat} (h : StopAt f S p q) (h1 : p <= q) (h2 : q < S.length) (hf : f S[q] = true) : StopAt f S p (q + 1) := by
 unfold StopAt at *
 rw [h, List.drop_eq_getElem_cons h2, List.takeWhile_cons, if_pos hf, show q + 1 - p = q - p + 1 by omega, List.take_add_one]
 simp
 rw [show p + (q - p) = q by omega, List.getElem?_eq_getElem h2]
 simp
theorem StopAt.done {f : UInt8 -> Bool} {S : List UInt8} {p q : Nat} (h : StopAt f S p q) (h1 : p <= q) (hl : q <= S.length) (h2 : q < S.length -> f (at0 S q) = false) : (S.drop p).takeWhile f = (S.drop p).take (q - p) /\ q = p + ((S.drop p).takeWhile f).length := by
 have he : (S.drop q).takeWhile f = [] := by
  by_cases hlt : q < S.length
  ·rw [List.drop_eq_getElem_cons hlt, List.takeWhile_cons, if_neg]
   have := h2 hlt
   rw [at0_lt hlt] at this
   simp [this]
  ·rw [List.drop_eq_nil_of_le (by omega)]; rfl
 unfold StopAt at h
 rw [he, List.append_nil] at h
 rw [h]
 exact ⟨rfl, by simp; omega⟩
end Lx
end Go.Proofs.YtmdnhinpaflamaaGreatDoor
namespace Go.Proofs.YtmdnhinpaflamaaGreatDoor
open Go.RowKit
namespace Lx
open LexM (Tok)
def tokA (kind : Int) (text : List UInt8) (int : Int) (pos : Nat) : Value := .agg #[.int .i64 kind, .string ⟨text.toArray⟩, .int .i64 int, .int .i64 pos]
def tokV (t : Tok) : Value := tokA t.kind t.text t.int t.pos
def nameM (p : Nat) (S : List UInt8) : (Nat × Int) ⊕ (Tok × Nat) :=
 let t := (S.drop p).takeWhile LexM.nameByte
 if LexM.words.contains t then .inr (⟨2, t, 0, p⟩, p + t.length)
 else if 16 < t.length then .inl (p, 7)
 else .inr (⟨1, t, 0, p⟩, p + t.length)
def zcells : List Value := [.int .i64 0, .string ⟨#[]⟩, .int .i64 0, .int .i64 0]
def put4 (w : World) (T : Nat) (a b c d : Value) : World := (((w.setCell ⟨T, 0, none⟩ a).setCell ⟨T, 1, none⟩ b).setCell ⟨T, 2, none⟩ c).setCell ⟨T, 3, none⟩ d
theorem frPut4 {X : List (Option Nat)} {a w : World} {T : Nat} (h : Fr X a w) (hT : some T ∈ X \/ a.heap.size <= T) (x y z u : Value) : Fr X a (put4 w T x y z u) :=
 (((h.setCell (p := ⟨T, 0, none⟩) hT x).setCell (p := ⟨T, 1, none⟩) hT y).setCell (p := ⟨T, 2, none⟩) hT z).setCell (p := ⟨T, 3, none⟩) hT u
theorem blkPut4 {w : World} {T : Nat} {l : List Value} (h : Blk w T 45 l) (hl : l.length = 4) (x y z u : Value) : Blk (put4 w T x y z u) T 45 [x, y, z, u] := by
 obtain ⟨a, b, c, d, rfl⟩ : ∃ a b c d, l = [a, b, c, d] := by
  rcases l with _ | ⟨a, _ | ⟨b, _ | ⟨c, _ | ⟨d, _ | _⟩⟩⟩⟩ <;> simp at hl
  exact ⟨a, b, c, d, rfl⟩
 exact (((h.set 0 x).set 1 y).set 2 z).set 3 u
end Lx
end Go.Proofs.YtmdnhinpaflamaaGreatDoor
namespace Go.Proofs.YtmdnhinpaflamaaGreatDoor
open Go.RowKit
namespace Lx
open LexM (Tok)
open Parse (parseV parseE)
def numM (p : Nat) (S : List UInt8) : (Nat × Int) ⊕ (Tok × Nat) :=
 let t := (S.drop p).takeWhile LexM.dig
 if LexM.letter (at0 S (p + t.length)) then .inl (p + t.length, 4)
 else if parseE t = 0 then .inr (⟨3, [], parseV t, p⟩, p + t.length)
 else .inl (p, parseE t)
structure Cells (w : World) (T : Nat) : Prop where
 c0 : w.cell? ⟨T, 0, none⟩ = some (.int .i64 0)
 c1 : w.cell? ⟨T, 1, none⟩ = some (.string ⟨#[]⟩)
 c2 : w.cell? ⟨T, 2, none⟩ = some (.int .i64 0)
 c3 : w.cell? ⟨T, 3, none⟩ = some (.int .i64 0)
 f0 : w.frozen? ⟨T, 0, none⟩ = false
 f1 : w.frozen? ⟨T, 1, none⟩ = false
 f2 : w.frozen? ⟨T, 2, none⟩ = false
 f3 : w.frozen? ⟨T, 3, none⟩ = false
theorem cells_of {w : World} {T : Nat} (h : Blk w T 45 zcells) : Cells w T :=
 ⟨h.cell 0, h.cell 1, h.cell 2, h.cell 3, h.free 0, h.free 1, h.free 2, h.free 3⟩
end Lx
end Go.Proofs.YtmdnhinpaflamaaGreatDoor
namespace Go.Proofs.YtmdnhinpaflamaaGreatDoor
open Go.RowKit
namespace Lx
open LexM (Tok)
def signM (p : Nat) (S : List UInt8) : (Nat × Int) ⊕ (Tok × Nat) :=
 let c := at0 S p
 if LexM.signs.contains c then
  let d := at0 S (p + 1)
  if (c = 60 /\ (d = 62 \/ d = 61)) \/ (c = 62 /\ d = 61) then .inr (⟨5, [c, d], 0, p⟩, p + 2)
  else .inr (⟨5, [c], 0, p⟩, p + 1)
 else .inl (p, 4)
end Lx
end Go.Proofs.YtmdnhinpaflamaaGreatDoor
namespace Go.Proofs.YtmdnhinpaflamaaGreatDoor
open Go.RowKit
namespace Lx
open LexM (Tok)
def textM (p : Nat) (S : List UInt8) : (Nat × Int) ⊕ (Tok × Nat) :=
 match LexM.txt (p + 1) (S.drop (p + 1)) with
 |.inl q => .inl (q, 4)
 |.inr (l, q) => if 30 < l.length then .inl (p, 7) else .inr (⟨4, l, 0, p⟩, q)
def ahead (acc : List UInt8) : Nat ⊕ (List UInt8 × Nat) -> Nat ⊕ (List UInt8 × Nat)
 |.inl q => .inl q
 |.inr (l, q) => .inr (acc ++ l, q)
def Tx (S : List UInt8) (p q : Nat) (acc : List UInt8) : Prop := LexM.txt (p + 1) (S.drop (p + 1)) = ahead acc (LexM.txt q (S.drop q))
theorem Tx.zero (S : List UInt8) (p : Nat) : Tx S p (p + 1) [] := by
 unfold Tx
 rcases LexM.txt (p + 1) (S.drop (p + 1)) with x | ⟨l, q⟩ <;> rfl
theorem ahead_cons (acc : List UInt8) (c : UInt8) (x : Nat ⊕ (List UInt8 × Nat)) : ahead acc (match x with | .inl q => .inl q | .inr (l, q) => .inr (c :: l, q)) = ahead (acc ++ [c]) x := by
 rcases x with x | ⟨l, q⟩ <;> simp [ahead]
theorem txt_bad {S : List UInt8} {q : Nat} (h : (at0 S q).toNat < 32 \/ 126 < (at0 S q).toNat) : LexM.txt q (S.drop q) = .inl q := by
 by_cases hl : q < S.length
 ·rw [at0_lt hl] at h
  rw [List.drop_eq_getElem_cons hl]
  unfold LexM.txt
  rw [if_pos h]
 ·rw [List.drop_eq_nil_of_le (by omega)]; rfl
theorem lt_of_good {S : List UInt8} {q : Nat} (h : ¬ ((at0 S q).toNat < 32 \/ 126 < (at0 S q).toNat)) : q < S.length := by
 rcases Nat.lt_or_ge q S.length with h1 | h1
 ·exact h1
 ·rw [at0_ge h1] at h; simp at h
theorem txt_plain {S : List UInt8} {q : Nat} (h : ¬ ((at0 S q).toNat < 32 \/ 126 < (at0 S q).toNat)) (h2 : at0 S q ≠ 39) :
  LexM.txt q (S.drop q) = (match LexM.txt (q + 1) (S.drop (q + 1)) with | .inl x => .inl x | .inr (l, x) => .inr (at0 S q :: l, x)) := by
 have hl := lt_of_good h
 have e := at0_lt hl
 rw [List.drop_eq_getElem_cons hl, <- e]
 conv => lhs; unfold LexM.txt
 rw [if_neg h, if_neg h2]
 rcases LexM.txt (q + 1) (S.drop (q + 1)) with x | ⟨l, x⟩ <;> rfl
theorem txt_twice {S : List UInt8} {q : Nat} (h1 : at0 S q = 39) (h2 : at0 S (q + 1) = 39) :
  q + 1 < S.length /\ LexM.txt q (S.drop q) = (match LexM.txt (q + 2) (S.drop (q + 2)) with | .inl x => .inl x | .inr (l, x) => .inr (39 :: l, x)) := by
 have hl := lt_of_good (S := S) (q := q) (by rw [h1]; decide)
 have hl2 := lt_of_good (S := S) (q := q + 1) (by rw [h2]; decide)
 have e := at0_lt hl
 have e2 := at0_lt hl2
 refine ⟨hl2, ?_⟩
 rw [List.drop_eq_getElem_cons hl, List.drop_eq_getElem_cons hl2, <- e, <- e2, h1, h2]
 conv => lhs; unfold LexM.txt
 rfl
theorem txt_end {S : List UInt8} {q : Nat} (h1 : at0 S q = 39) (h2 : at0 S (q + 1) ≠ 39) : q < S.length /\ LexM.txt q (S.drop q) = .inr ([], q + 1) := by
 have hl := lt_of_good (S := S) (q := q) (by rw [h1]; decide)
 have e := at0_lt hl
 refine ⟨hl, ?_⟩
 rw [List.drop_eq_getElem_cons hl, <- e, h1]
 by_cases hl2 : q + 1 < S.length
 ·have e2 := at0_lt hl2
  rw [List.drop_eq_getElem_cons hl2, <- e2]
  conv => lhs; unfold LexM.txt
  rw [if_neg (by decide), if_pos rfl]
  simp only [if_neg h2]
 ·rw [List.drop_eq_nil_of_le (by omega)]; rfl
theorem Tx.plain {S : List UInt8} {p q : Nat} {acc : List UInt8} (h : Tx S p q acc) (h1 : ¬ ((at0 S q).toNat < 32 \/ 126 < (at0 S q).toNat)) (h2 : at0 S q ≠ 39) : Tx S p (q + 1) (acc ++ [at0 S q]) := by
 unfold Tx at *
 rw [h, txt_plain h1 h2, ahead_cons]
theorem Tx.twice {S : List UInt8} {p q : Nat} {acc : List UInt8} (h : Tx S p q acc) (h1 : at0 S q = 39) (h2 : at0 S (q + 1) = 39) : Tx S p (q + 2) (acc ++ [39]) := by
 unfold Tx at *
 rw [h, (txt_twice h1 h2).2, ahead_cons]
theorem Tx.stop {S : List UInt8} {p q : Nat} {acc : List UInt8} (h : Tx S p q acc) (h1 : at0 S q = 39) (h2 : at0 S (q + 1) ≠ 39) : textM p S = if 30 < acc.length then .inl (p, 7) else .inr (⟨4, acc, 0, p⟩, q + 1) := by
 unfold Tx at h
 rw [textM, h, (txt_end h1 h2).2]
 simp [ahead]
end Lx
end Go.Proofs.YtmdnhinpaflamaaGreatDoor
namespace Go.Proofs.YtmdnhinpaflamaaGreatDoor
open Go.RowKit
namespace Lx
open LexM (Tok)
open Parse (parseV parseE)
theorem at0_drop (S : List UInt8) (p n : Nat) : ((S.drop p).drop n).headD 0 = at0 S (p + n) := by
 unfold at0; rw [List.drop_drop]
theorem tok_name {S : List UInt8} {p : Nat} (hp : p < S.length) (h : LexM.letter (at0 S p) = true) : LexM.tok1 p (S.drop p) = nameM p S := by
 rw [at0_lt hp] at h
 unfold nameM
 rw [List.drop_eq_getElem_cons hp]
 simp only [LexM.tok1, h, if_true]
theorem dig_eq : LexM.dig = Parse.dig := rfl
theorem all_takeWhile (f : UInt8 -> Bool) (l : List UInt8) : (l.takeWhile f).all f = true := by
 induction l with
 |nil => rfl
 |cons c r ih =>
  rw [List.takeWhile_cons]
  split
  ·rename_i h; simp only [List.all_cons, h, ih, Bool.and_self]
  ·rfl
theorem tok_num {S : List UInt8} {p : Nat} (hp : p < S.length) (h : LexM.letter (at0 S p) = false) (h2 : LexM.dig (at0 S p) = true) : LexM.tok1 p (S.drop p) = numM p S := by
 have hb : Parse.bad ((S.drop p).takeWhile LexM.dig) = false := by
  have h3 := all_takeWhile LexM.dig (S.drop p)
  have h4 : 0 < ((S.drop p).takeWhile LexM.dig).length := by
   rw [List.drop_eq_getElem_cons hp]
   rw [at0_lt hp] at h2
   exact LexM.takeWhile_pos h2
  have h5 : ((S.drop p).takeWhile LexM.dig).isEmpty = false := by
   cases hc : (S.drop p).takeWhile LexM.dig with
   |nil => rw [hc] at h4; simp at h4
   |cons => rfl
  unfold Parse.bad
  rw [h5, <- dig_eq, h3]
  rfl
 have e1 : LexM.tok1 p (S.drop p) = (let t := (S.drop p).takeWhile LexM.dig
   if ((S.drop p).drop t.length).headD 0 |> LexM.letter then .inl (p + t.length, 4)
   else if 9223372036854775807 < LexM.val t then .inl (p, 8)
   else .inr (⟨3, [], LexM.val t, p⟩, p + t.length)) := by
  rw [at0_lt hp] at h h2
  rw [List.drop_eq_getElem_cons hp]
  simp only [LexM.tok1, h, h2, if_true, Bool.false_eq_true, if_false]
 rw [e1]
 unfold numM
 obtain ⟨t, ht⟩ : ∃ t, (S.drop p).takeWhile LexM.dig = t := ⟨_, rfl⟩
 simp only [ht, at0_drop]
 rw [ht] at hb
 split
 ·rfl
 ·have hv : LexM.val t = Parse.val t := rfl
  have hE : parseE t = err (Parse.val t) := by simp [parseE, hb]
  have hV : parseV t = res (Parse.val t) := by simp [parseV, hb]
  rw [hE, hV, hv]
  by_cases hl : 9223372036854775807 < Parse.val t
  ·have ho : ok64 (Parse.val t : Int) = false := no_iff.2 (by omega)
   rw [err_no ho, if_pos hl, if_neg (by decide)]
  ·have ho : ok64 (Parse.val t : Int) = true := ok_iff.2 (by omega)
   rw [err_ok ho, res_ok ho, if_neg hl, if_pos rfl]
theorem tok_text {S : List UInt8} {p : Nat} (hp : p < S.length) (h : at0 S p = 39) : LexM.tok1 p (S.drop p) = textM p S := by
 rw [at0_lt hp] at h
 unfold textM
 rw [List.drop_eq_getElem_cons hp, h]
 rfl
theorem tok_sign {S : List UInt8} {p : Nat} (hp : p < S.length) (h1 : LexM.letter (at0 S p) = false) (h2 : LexM.dig (at0 S p) = false) (h : at0 S p ≠ 39) : LexM.tok1 p (S.drop p) = signM p S := by
 unfold signM
 rw [at0_lt hp] at h h1 h2 ⊢
 rw [List.drop_eq_getElem_cons hp]
 have : (S.drop (p + 1)).headD 0 = at0 S (p + 1) := rfl
 simp only [LexM.tok1, h, h1, h2, Bool.false_eq_true, if_false, this]
theorem tok_err {S : List UInt8} {p q : Nat} {e : Int} (hp : p < S.length) (h : LexM.tok1 p (S.drop p) = .inl (q, e)) : e ≠ 0 := by
 rw [List.drop_eq_getElem_cons hp] at h
 simp only [LexM.tok1] at h
 repeat' split at h
 all_goals first
  |(simp only [reduceCtorEq] at h; done)
  |(simp only [Sum.inl.injEq, Prod.mk.injEq] at h; obtain ⟨_, rfl⟩ := h; decide)
end Lx
end Go.Proofs.YtmdnhinpaflamaaGreatDoor
namespace Go.Proofs.YtmdnhinpaflamaaGreatDoor
open Go.RowKit
namespace Lx
open LexM (Tok)
def LS (S : List UInt8) (p : Nat) : (Nat × Int) ⊕ List Tok := LexM.lexN S (S.length + 1) p
theorem lexN_fuel (S : List UInt8) : ∀ (n m p : Nat), p <= S.length -> S.length < p + n -> S.length < p + m -> LexM.lexN S n p = LexM.lexN S m p
 |0, m, p, h, h1, h2 => by omega
 |n + 1, 0, p, h, h1, h2 => by omega
 |n + 1, m + 1, p, h, h1, h2 => by
  unfold LexM.lexN
  by_cases hp : p < S.length
  ·rw [List.drop_eq_getElem_cons hp]
   simp only []
   split
   ·exact lexN_fuel S n m (p + 1) (by omega) (by omega) (by omega)
   ·cases ht : LexM.tok1 p (S[p] :: S.drop (p + 1)) with
    |inl e => rfl
    |inr x =>
     obtain ⟨t, q⟩ := x
     obtain ⟨h3, h4, _⟩ := LexM.tok1_next ht
     rw [<- List.drop_eq_getElem_cons hp, List.length_drop] at h4
     simp only []
     rw [lexN_fuel S n m q (by omega) (by omega) (by omega)]
  ·rw [List.drop_eq_nil_of_le (by omega)]
theorem LS_end (S : List UInt8) : LS S S.length = .inr [⟨6, [], 0, S.length⟩] := by
 unfold LS LexM.lexN
 rw [List.drop_eq_nil_of_le (Nat.le_refl _)]
theorem LS_blank {S : List UInt8} {p : Nat} (hp : p < S.length) (h : at0 S p = 32) : LS S p = LS S (p + 1) := by
 rw [at0_lt hp] at h
 unfold LS
 rw [LexM.lexN, List.drop_eq_getElem_cons hp]
 simp only [h, if_true]
 exact lexN_fuel S _ _ _ (by omega) (by omega) (by omega)
theorem LS_tok {S : List UInt8} {p : Nat} (hp : p < S.length) (h : at0 S p ≠ 32) :
  LS S p = (match LexM.tok1 p (S.drop p) with | .inl e => .inl e | .inr (t, q) => match LS S q with | .inl e => .inl e | .inr l => .inr (t :: l)) := by
 rw [at0_lt hp] at h
 conv => lhs; rw [LS, LexM.lexN, List.drop_eq_getElem_cons hp]
 rw [List.drop_eq_getElem_cons hp]
 simp only [if_neg h]
 cases ht : LexM.tok1 p (S[p] :: S.drop (p + 1)) with
 |inl e => rfl
 |inr x =>
  obtain ⟨t, q⟩ := x
  obtain ⟨h3, h4, _⟩ := LexM.tok1_next ht
  rw [<- List.drop_eq_getElem_cons hp, List.length_drop] at h4
  simp only []
  rw [lexN_fuel S S.length (S.length + 1) q (by omega) (by omega) (by omega)]
  rfl
theorem tok_range {S : List UInt8} {p q : Nat} {t : Tok} (hp : p < S.length) (h : LexM.tok1 p (S.drop p) = .inr (t, q)) : p < q /\ q <= S.length /\ t.pos = p := by
 obtain ⟨h3, h4, h5⟩ := LexM.tok1_next h
 rw [List.length_drop] at h4
 exact ⟨h3, by omega, h5⟩
def pre (acc : List Tok) : (Nat × Int) ⊕ List Tok -> (Nat × Int) ⊕ List Tok
 |.inl e => .inl e
 |.inr l => .inr (acc ++ l)
theorem pre_nil (x : (Nat × Int) ⊕ List Tok) : x = pre [] x := by cases x <;> rfl
theorem pre_tok {S : List UInt8} {p q : Nat} {t : Tok} (acc : List Tok) (hp : p < S.length) (h : at0 S p ≠ 32) (ht : LexM.tok1 p (S.drop p) = .inr (t, q)) : pre acc (LS S p) = pre (acc ++ [t]) (LS S q) := by
 rw [LS_tok hp h, ht]
 simp only []
 cases LS S q with
 |inl e => rfl
 |inr l => simp [pre]
theorem pre_bad {S : List UInt8} {p : Nat} {e : Nat × Int} (acc : List Tok) (hp : p < S.length) (h : at0 S p ≠ 32) (ht : LexM.tok1 p (S.drop p) = .inl e) : pre acc (LS S p) = .inl e := by
 rw [LS_tok hp h, ht]
 rfl
theorem pre_end (S : List UInt8) (acc : List Tok) : pre acc (LS S S.length) = .inr (acc ++ [⟨6, [], 0, S.length⟩]) := by
 rw [LS_end]; rfl
end Lx
end Go.Proofs.YtmdnhinpaflamaaGreatDoor
namespace Go.Proofs.YtmdnhinpaflamaaGreatDoor
open Go.RowKit
namespace Lx
open LexM (Tok)
theorem toksC_snoc (l : List Tok) (t : Tok) : toksC (l ++ [t]) = toksC l ++ tokC t := by simp [toksC]
theorem infoT : (Tryz.prog.info? 45).map (fun i => (i.zero, i.size, i.bytes)) = some (some (tokA 0 [] 0 0), 4, 40) := by kernel_rfl
theorem four_new2 (w : World) (o : Obj) (E : TypeId) (l : List Value) (j : Nat) (u : Value) (h : l[j]? = some u) : ((w.alloc o).alloc (.cells l.toArray E)).cell? ((⟨w.heap.size + 1, 0, none⟩ : Addr).add j) = some u := by
 have := four_new (w.alloc o) E l j u h
 rwa [show (w.alloc o).heap.size = w.heap.size + 1 by simp] at this
theorem one_tok (t : Tok) : ∀ u ∈ tokC t, u.oneCell' = true := by simp [tokC, Value.oneCell']
theorem lim {n : Nat} (h : n <= 1000000) : n + 1 <= maxLen /\ (n + 1) * 40 <= 140737488355328 := by unfold maxLen; omega
end Lx
end Go.Proofs.YtmdnhinpaflamaaGreatDoor
namespace Go.Proofs.YtmdnhinpaflamaaGreatDoor
open Go.RowKit
namespace Lx
open LexM (Tok)
end Lx
end Go.Proofs.YtmdnhinpaflamaaGreatDoor
namespace Go.Proofs.YtmdnhinpaflamaaGreatDoor
open Go.RowKit
namespace Lx
open LexM (Tok)
theorem LS_err (S : List UInt8) : ∀ (n p q : Nat) (x : Int), p <= S.length -> S.length - p = n -> LS S p = .inl (q, x) -> x ≠ 0 := by
 intro n
 induction n using Nat.strongRecOn with
 |ind n ih =>
  intro p q x hp hn h
  by_cases hlt : p < S.length
  ·by_cases hb : at0 S p = 32
   ·rw [LS_blank hlt hb] at h
    exact ih (S.length - (p + 1)) (by omega) (p + 1) q x (by omega) rfl h
   ·rw [LS_tok hlt hb] at h
    cases ht : LexM.tok1 p (S.drop p) with
    |inl e =>
     rw [ht] at h
     obtain ⟨q', x'⟩ := e
     simp only [Sum.inl.injEq, Prod.mk.injEq] at h
     obtain ⟨rfl, rfl⟩ := h
     exact tok_err hlt ht
    |inr y =>
     obtain ⟨t, r⟩ := y
     obtain ⟨h1, h2, _⟩ := tok_range hlt ht
     rw [ht] at h
     simp only [] at h
     cases hr : LS S r with
     |inl e =>
      rw [hr] at h
      simp only [Sum.inl.injEq] at h
      subst h
      exact ih (S.length - r) (by omega) r q x h2 rfl hr
     |inr l => rw [hr] at h; simp only [reduceCtorEq] at h
  ·obtain rfl : p = S.length := by omega
   rw [LS_end] at h
   simp only [reduceCtorEq] at h
theorem LS_ne (S : List UInt8) : ∀ (n p : Nat) (l : List Tok), p <= S.length -> S.length - p = n -> LS S p = .inr l -> l ≠ [] /\ l.length <= S.length + 1 - p := by
 intro n
 induction n using Nat.strongRecOn with
 |ind n ih =>
  intro p l hp hn h
  by_cases hlt : p < S.length
  ·by_cases hb : at0 S p = 32
   ·rw [LS_blank hlt hb] at h
    obtain ⟨i1, i2⟩ := ih (S.length - (p + 1)) (by omega) (p + 1) l (by omega) rfl h
    exact ⟨i1, by omega⟩
   ·rw [LS_tok hlt hb] at h
    cases ht : LexM.tok1 p (S.drop p) with
    |inl e => rw [ht] at h; simp only [reduceCtorEq] at h
    |inr y =>
     obtain ⟨t, r⟩ := y
     obtain ⟨h1, h2, _⟩ := tok_range hlt ht
     rw [ht] at h
     simp only [] at h
     cases hr : LS S r with
     |inl e => rw [hr] at h; simp only [reduceCtorEq] at h
     |inr l' =>
      rw [hr] at h
      simp only [Sum.inr.injEq] at h
      obtain ⟨i1, i2⟩ := ih (S.length - r) (by omega) r l' h2 rfl hr
      subst h
      exact ⟨by simp, by rw [List.length_cons]; omega⟩
  ·obtain rfl : p = S.length := by omega
   rw [LS_end] at h
   simp only [Sum.inr.injEq] at h
   subst h
   exact ⟨by simp, by rw [List.length_singleton]; omega⟩
theorem lex_err {S : List UInt8} {q : Nat} {x : Int} (h : LexM.lex S = .inl (q, x)) : x ≠ 0 := by
 unfold LexM.lex at h
 split at h
 ·simp only [Sum.inl.injEq, Prod.mk.injEq] at h
  obtain ⟨_, rfl⟩ := h
  decide
 ·exact LS_err S _ 0 q x (Nat.zero_le _) rfl h
theorem lex_ne {S : List UInt8} {l : List Tok} (h : LexM.lex S = .inr l) : l ≠ [] /\ l.length <= 401 := by
 unfold LexM.lex at h
 split at h
 ·simp only [reduceCtorEq] at h
 ·obtain ⟨h1, h2⟩ := LS_ne S _ 0 l (Nat.zero_le _) rfl h
  exact ⟨h1, by omega⟩
theorem byte_eq {a c : UInt8} (h : c = a) : ((c.toNat : Int) == (a.toNat : Int)) = true := by rw [h]; exact beq_self_eq_true _
theorem byte_ne {a c : UInt8} (h : ¬ c = a) : ((c.toNat : Int) == (a.toNat : Int)) = false := by
 rw [beq_eq_false_iff_ne]
 intro e
 exact h (UInt8.toNat_inj.1 (by exact_mod_cast e))
end Lx
end Go.Proofs.YtmdnhinpaflamaaGreatDoor
namespace Go.Proofs.YtmdnhinpaflamaaGreatDoor
open Go.RowKit
namespace Parse
theorem val_mono (l : List UInt8) (c : UInt8) : val l <= val (l ++ [c]) := by rw [val_snoc]; omega
def Inv (l : List UInt8) (v : Int) (o : Bool) : Prop := (o = false -> (val l : Int) = v) /\ (o = true -> ok64 (val l) = false)
theorem inv_over (l : List UInt8) (c : UInt8) (v : Int) (h : Inv l v true) : Inv (l ++ [c]) v true := by
 refine ⟨fun h => by simp at h, fun _ => ?_⟩
 have h1 := h.2 rfl
 have h2 := val_mono l c
 rw [no_iff] at *
 omega
theorem inv_runs (l : List UInt8) (c : UInt8) (v d : Int) (h : Inv l v false) (hd : (c.toNat : Int) = d + 48) (h0 : 0 <= d /\ d <= 9) (hb : (9223372036854775807 - d) / 10 < v) : Inv (l ++ [c]) v true := by
 refine ⟨fun h => by simp at h, fun _ => ?_⟩
 have h1 := h.1 rfl
 rw [val_snoc, no_iff]
 omega
theorem inv_step (l : List UInt8) (c : UInt8) (v d : Int) (h : Inv l v false) (hd : (c.toNat : Int) = d + 48) (h0 : 0 <= d /\ d <= 9) : Inv (l ++ [c]) (v * 10 + d) false := by
 refine ⟨fun _ => ?_, fun h => by simp at h⟩
 have h1 := h.1 rfl
 rw [val_snoc]
 omega
theorem rparse_good {l : List UInt8} {v : Int} (h : bad l = false) (hi : Inv l v false) (h0 : 0 <= v /\ v <= 9223372036854775807) : Ending.returned (.tuple #[.int .i64 v, .int .i64 0]) = .returned (.tuple #[.int .i64 (parseV l), .int .i64 (parseE l)]) := by
 have h1 := hi.1 rfl
 have ho : ok64 (val l : Int) = true := ok_iff.2 (by omega)
 simp only [parseV, parseE, h, Bool.false_eq_true, if_false]
 rw [res_ok ho, err_ok ho, h1]
theorem rparse_over {l : List UInt8} {v : Int} (h : bad l = false) (hi : Inv l v true) : Ending.returned (.tuple #[.int .i64 0, .int .i64 8]) = .returned (.tuple #[.int .i64 (parseV l), .int .i64 (parseE l)]) := by
 have ho := hi.2 rfl
 simp only [parseV, parseE, h, Bool.false_eq_true, if_false, res_no ho, err_no ho]
set_option maxHeartbeats 1000000 in
theorem rparse_any (l : List UInt8) (w : World) (hs : l.length <= 1000000) :
  Calls Tryz.prog 80 #[.string ⟨l.toArray⟩] w fun e w' => e = .returned (.tuple #[.int .i64 (parseV l), .int .i64 (parseE l)]) /\ w = w' := by
 cases hem : l.isEmpty
 case true =>
  obtain rfl : l = [] := by simpa using hem
  go_enter Tryz.func80, Tryz.ntmps80
  go_wp2_with fail
  go_ret2
  exact ⟨parse_bad rfl, rfl⟩
 have hl0 : ((l.length : Int) == 0) = false := by
  cases l with
  |nil => simp at hem
  |cons => simp; omega
 have HE := Hd hem
 clear hem
 go_enter Tryz.func80, Tryz.ntmps80
 go_wp2_with fail
 clear hl0
 go_loop [4, 5, 6] (fun n ov i => ∃ (k : Nat) (v : Int) (o : Bool), k <= l.length /\ i = .int .i64 k /\ n = .int .i64 v /\ ov = .bool o /\ 0 <= v /\ v <= 9223372036854775807 /\ Hid (Inv (l.take k) v o) /\ Hid ((l.take k).all dig = true)) (fun _ _ i => l.length - (intOf i).toNat)
 case atStart => exact ⟨0, 0, false, by omega, rfl, rfl, rfl, by omega, by omega, ⟨fun _ => rfl, fun h => by simp at h⟩, rfl⟩
 case round =>
  obtain ⟨k, v, o, hk, rfl, rfl, rfl, hv0, hv1, HP, HD⟩ := hrel
  by_cases hlt : k < l.length
  ·obtain ⟨c, hc⟩ : ∃ c, l[k] = c := ⟨_, rfl⟩
   have hix : (ByteArray.mk l.toArray)[k]'(show k < l.toArray.size by simpa using hlt) = c := by rw [<- hc]; rfl
   have HCC := Hd hc
   clear hc
   cases hd : dig c
   ·have hb := Hd (bad_of hlt HCC.out hd)
    have hd' : c.toNat < 48 \/ (48 <= c.toNat /\ 57 < c.toNat) := by simp [dig] at hd; omega
    have hc1 : (c.toNat : Int) <= 255 := by have := c.toNat_lt; omega
    clear hd
    rcases hd' with h | ⟨h, h'⟩
    all_goals
     go_wp2_with fail
     go_ret2
     exact ⟨parse_bad hb.out, rfl⟩
   ·have hd' : 48 <= c.toNat /\ c.toNat <= 57 := by simpa [dig] using hd
    obtain ⟨d, hcd⟩ : ∃ d : Int, (c.toNat : Int) = d + 48 := ⟨(c.toNat : Int) - 48, by omega⟩
    have h0 : 0 <= d := by omega
    have h9 : d <= 9 := by omega
    have HD' := Hd hd
    have HY := Hd hcd
    clear hd hd'
    have e1 : l.take (k + 1) = l.take k ++ [c] := by rw [List.take_succ_eq_append_getElem hlt, HCC.out]
    have E1 := Hd e1
    have HD2 : Hid ((l.take (k + 1)).all dig = true) := by
     rw [Hid, e1, List.all_append, HD.out]; simp [HD'.out]
    clear e1
    cases o
    ·by_cases hv : (9223372036854775807 - d) / 10 < v
     ·go_wp2_with fail
      go_round
      case rel => exact ⟨k + 1, v, true, by omega, by go_num, rfl, rfl, hv0, hv1, by rw [Hid, E1.out]; exact inv_runs _ c v d HP.out HY.out ⟨h0, h9⟩ hv, HD2⟩
      case measure => simp [intOf]; omega
     ·have hv2 : v <= (9223372036854775807 - d) / 10 := by omega
      have hb1 : v * 10 + d <= 9223372036854775807 := by omega
      have hb2 : 0 <= v * 10 + d := by omega
      have hb3 : v * 10 <= 9223372036854775807 := by omega
      go_wp2_with fail
      go_round
      case rel => exact ⟨k + 1, v * 10 + d, false, by omega, by go_num, rfl, rfl, hb2, hb1, by rw [Hid, E1.out]; exact inv_step _ c v d HP.out HY.out ⟨h0, h9⟩, HD2⟩
      case measure => simp [intOf]; omega
    ·go_wp2_with fail
     go_round
     case rel => exact ⟨k + 1, v, true, by omega, by go_num, rfl, rfl, hv0, hv1, by rw [Hid, E1.out]; exact inv_over _ c v HP.out, HD2⟩
     case measure => simp [intOf]; omega
  ·have hkl : l.take k = l := List.take_of_length_le (by omega)
   rw [hkl] at HP HD
   have hg : Hid (bad l = false) := by
    have h1 := HE.out
    have h2 := HD.out
    simp [Hid, bad, h1, h2]
   clear hkl
   cases o
   ·go_wp2_with fail
    go_ret2
    exact ⟨rparse_good hg.out HP.out ⟨hv0, hv1⟩, rfl⟩
   ·go_wp2_with fail
    go_ret2
    exact ⟨rparse_over hg.out HP.out, rfl⟩
end Parse
end Go.Proofs.YtmdnhinpaflamaaGreatDoor
namespace Go.Proofs.YtmdnhinpaflamaaGreatDoor
open Go.RowKit
end Go.Proofs.YtmdnhinpaflamaaGreatDoor
namespace Go.Proofs.YtmdnhinpaflamaaGreatDoor
open Go.RowKit
namespace Lx
open LexM (Tok)
theorem words_any (w : World) : Calls Tryz.prog 121 #[] w fun e w' => e = .returned (.slice (some ⟨w.heap.size, 0, none⟩) 37 37) /\
  Blk w' w.heap.size 9 (LexM.words.map fun (l : List UInt8) => Value.string (ByteArray.mk l.toArray)) /\ Fr [] w w' := by
 go_enter Tryz.func121, Tryz.ntmps121
 go_wp2_with fail
 go_ret
 exact ⟨rfl, Blk.new w 9 (LexM.words.map fun (l : List UInt8) => Value.string (ByteArray.mk l.toArray)), (Fr.refl [] w).alloc _⟩
theorem words_len : LexM.words.length = 37 := by decide +kernel
theorem str_yes {x t : ByteArray} (h : x = t) : (x.toList == t.toList) = true := by rw [h]; exact beq_self_eq_true _
theorem str_no {x t : ByteArray} (h : ¬ x = t) : (x.toList == t.toList) = false := by
 rw [Lib.bytes_beq_false_iff]
 exact h
theorem bytes_inj {x t : List UInt8} (h : ByteArray.mk x.toArray = ByteArray.mk t.toArray) : x = t := congrArg (fun b : ByteArray => b.data.toList) h
set_option maxHeartbeats 1000000 in
theorem word_any (t : List UInt8) (w : World) : Calls Tryz.prog 79 #[.string ⟨t.toArray⟩] w fun e w' => e = .returned (.bool (LexM.words.contains t)) /\ Fr [] w w' := by
 obtain ⟨b, hbt⟩ : ∃ b, LexM.words.contains t = b := ⟨_, rfl⟩
 rw [hbt]
 have HBT := Hd hbt
 clear hbt
 obtain ⟨tb, htb⟩ : ∃ tb, ByteArray.mk t.toArray = tb := ⟨_, rfl⟩
 rw [htb]
 have HTB := Hd htb
 clear htb
 go_enter Tryz.func79, Tryz.ntmps79
 go_wp2_with fail
 refine (words_any w).mono ?_
 rintro e w1 ⟨rfl, hb, hf1⟩
 have HB := Hd hb
 have HF1 := Hd hf1
 clear hb hf1
 go_wp2_with fail
 go_loop [4] (fun u4 => ∃ (k : Nat), k <= 37 /\ u4 = .int .i64 k /\ Hid ((LexM.words.take k).contains t = false)) (fun i => 37 - (intOf i).toNat)
 case atStart => exact ⟨0, by omega, rfl, rfl⟩
 case round =>
  obtain ⟨k, hk, rfl, HK⟩ := hrel
  by_cases hlt : k < 37
  ·have hkl : k < LexM.words.length := by rw [words_len]; exact hlt
   obtain ⟨x, hx⟩ : ∃ x, LexM.words[k]'hkl = x := ⟨_, rfl⟩
   obtain ⟨xb, hxb⟩ : ∃ xb, ByteArray.mk x.toArray = xb := ⟨_, rfl⟩
   have hcell : w1.cell? ⟨w.heap.size, k, none⟩ = some (.string xb) := by
    rw [HB.out.cell k, List.getElem?_map, List.getElem?_eq_getElem hkl, hx, <- hxb]
    rfl
   by_cases hxt : x = t
   ·have HW : Hid (LexM.words.contains t = true) := by
     rw [Hid, List.contains_iff_mem, <- hxt, <- hx]
     exact List.getElem_mem _
    have hs : (xb.toList == tb.toList) = true := str_yes (by rw [<- hxb, hxt]; exact HTB.out)
    clear hx hxt hxb
    go_wp2_with fail
    go_ret
    rw [<- HBT.out, HW.out]
    exact ⟨rfl, HF1.out⟩
   ·have HK2 : Hid ((LexM.words.take (k + 1)).contains t = false) := by
     rw [Hid, List.take_succ_eq_append_getElem hkl, hx, Bool.eq_false_iff]
     intro h
     rw [List.contains_iff_mem, List.mem_append, List.mem_singleton, <- List.contains_iff_mem, HK.out] at h
     rcases h with h | h
     ·cases h
     ·exact hxt h.symm
    have hs : (xb.toList == tb.toList) = false := str_no (by rw [<- hxb, <- HTB.out]; exact fun h => hxt (bytes_inj h))
    clear hx hxt hxb
    go_wp2_with fail
    go_round
    case rel => exact ⟨k + 1, hlt, by go_num, HK2⟩
    case measure => simp [intOf]; omega
  ·have HW : Hid (LexM.words.contains t = false) := by
    have := HK.out
    rwa [List.take_of_length_le (by rw [words_len]; omega)] at this
   go_wp2_with fail
   go_ret
   rw [<- HBT.out, HW.out]
   exact ⟨rfl, HF1.out⟩
end Lx
end Go.Proofs.YtmdnhinpaflamaaGreatDoor
namespace Go.Proofs.YtmdnhinpaflamaaGreatDoor
open Go.RowKit
namespace Lx
open LexM (Tok)
theorem cat_list {A B : List UInt8} {X : ByteArray} (h : X.data.toList = B) : (ByteArray.mk A.toArray ++ X : ByteArray) = ⟨(A ++ B).toArray⟩ := by
 apply bytes_ext
 rw [ByteArray.data_append, Array.toList_append, h]
theorem ext_at {S : List UInt8} {k : Nat} {c : UInt8} (hk : k < S.length) (hc : S[k] = c) : ((ByteArray.mk S.toArray).extract k (k + 1)).data.toList = [c] := by
 rw [extract_eq, show k + 1 - k = 1 by omega, List.drop_eq_getElem_cons hk, hc]
 rfl
def DocR (e : Ending) : (Nat × Int) ⊕ (Tok × Nat) -> Prop
 |.inl (q, x) => ∃ (a : Int) (b : List UInt8) (c d z : Int), e = .returned (.tuple #[.agg #[.int .i64 a, .string ⟨b.toArray⟩, .int .i64 c, .int .i64 d], .int .i64 z, .int .i64 q, .int .i64 x])
 |.inr (t, q) => ∃ z : Int, e = .returned (.tuple #[tokV t, .int .i64 q, .int .i64 z, .int .i64 0])
theorem ret_tok4 {fn : Func} (h : fn.results = #[.cell 4 45, .tmp 5, .tmp 6, .tmp 7]) (tmps : Array Value) (T : Nat) (h2 : tmps.getD 4 undef = .pointer (some ⟨T, 0, none⟩)) (w : World) (a b c d : Value) (hb : Blk w T 45 [a, b, c, d]) :
  (results fn tmps).run Tryz.prog w = .ok (.tuple #[.agg #[a, b, c, d], tmps.getD 5 undef, tmps.getD 6 undef, tmps.getD 7 undef]) w := by
 have c0 := hb.cell 0
 have c1 := hb.cell 1
 have c2 := hb.cell 2
 have c3 := hb.cell 3
 simp only [List.getElem?_cons_zero, List.getElem?_cons_succ] at c0 c1 c2 c3
 have h2' : tmps[4]?.getD undef = .pointer (some ⟨T, 0, none⟩) := by simpa using h2
 simp [results, h, h2', go_sem, c0, c1, c2, c3]
structure TokAt (w : World) (T : Nat) (a : Int) (b : List UInt8) (c d : Int) : Prop where
 c0 : w.cell? ⟨T, 0, none⟩ = some (.int .i64 a)
 c1 : w.cell? ⟨T, 1, none⟩ = some (.string ⟨b.toArray⟩)
 c2 : w.cell? ⟨T, 2, none⟩ = some (.int .i64 c)
 c3 : w.cell? ⟨T, 3, none⟩ = some (.int .i64 d)
 f0 : w.frozen? ⟨T, 0, none⟩ = false
 f1 : w.frozen? ⟨T, 1, none⟩ = false
 f2 : w.frozen? ⟨T, 2, none⟩ = false
 f3 : w.frozen? ⟨T, 3, none⟩ = false
def TokB (w : World) (T : Nat) (a : Int) (b : List UInt8) (c d : Int) : Prop := Blk w T 45 [.int .i64 a, .string ⟨b.toArray⟩, .int .i64 c, .int .i64 d]
theorem tok_at {w : World} {T : Nat} {a : Int} {b : List UInt8} {c d : Int} (h : TokB w T a b c d) : TokAt w T a b c d :=
 ⟨h.cell 0, h.cell 1, h.cell 2, h.cell 3, h.free 0, h.free 1, h.free 2, h.free 3⟩
def LtI (w : World) (S : List UInt8) (p : Nat) (u : Value) (wr : World) : Prop :=
 ∃ (q : Nat) (acc : List UInt8), u = .int .i64 q /\ p < q /\ q <= S.length /\ acc.length <= q /\ Hid (Tx S p q acc) /\ Hid (Blk wr w.heap.size 45 zcells) /\ Hid (TokB wr (w.heap.size + 1) 4 acc 0 p) /\ Hid (Fr [] w wr)
theorem LtI.step {w wr : World} {S : List UInt8} {p q : Nat} {acc acc' : List UInt8} (z : Int) (b : ByteArray) (hz : z = (q : Int)) (hb : b = ⟨acc'.toArray⟩) (h1 : p < q) (h2 : q <= S.length) (h3 : acc'.length <= q) (hx : Tx S p q acc')
  (hB : Blk wr w.heap.size 45 zcells) (hT : TokB wr (w.heap.size + 1) 4 acc 0 p) (hF : Fr [] w wr) : LtI w S p (.int .i64 z) (wr.setCell ⟨w.heap.size + 1, 1, none⟩ (.string b)) := by
 subst hz hb
 have hs : Fr [some (w.heap.size + 1)] wr (wr.setCell ⟨w.heap.size + 1, 1, none⟩ (.string ⟨acc'.toArray⟩)) := (Fr.refl [some (w.heap.size + 1)] wr).setCell (p := ⟨w.heap.size + 1, 1, none⟩) (.inl (by simp)) _
 exact ⟨q, acc', rfl, h1, h2, h3, hx, hB.keep hs (by simp), Blk.set hT 1 _, hF.trans' hs (by simp)⟩
theorem LtI.drew {w wr : World} {S : List UInt8} {p : Nat} {u : Value} (h : LtI w S p u wr) : LtI w S p u wr.drew := by
 obtain ⟨q, acc, h1, h2, h3, h4, h5, h6, h7, h8⟩ := h
 exact ⟨q, acc, h1, h2, h3, h4, h5, Blk.drew h6.out, Blk.drew h7.out, Fr.drew h8.out⟩
theorem arithL {p q n k : Nat} (h1 : p < q) (h2 : q < n) (h3 : k <= q) (h4 : n <= 1000000) : (q : Int) + 1 = ((q + 1 : Nat) : Int) /\ p < q + 1 /\ q + 1 <= n /\ k + 1 <= q + 1 /\ (q : Int) <= 1000000 /\ (q : Int) < (n : Int) := by
 omega
set_option maxHeartbeats 2000000 in
theorem letters_any (S : List UInt8) (p : Nat) (w : World) (hS : S.length <= 1000000) (hp : p < S.length) :
  Calls Tryz.prog 81 #[.string ⟨S.toArray⟩, .int .i64 p] w fun e w' => DocR e (textM p S) /\ Fr [] w w' := by
 have HS := Hd hS
 have hw1 : (p : Int) <= 1000000 := by omega
 clear hS
 go_enter Tryz.func81, Tryz.ntmps81
 go_wp2_with fail
 clear hw1
 go_loopw [9] (fun u wr => LtI w S p u wr) (fun i _ => S.length - (intOf i).toNat)
 case atStart =>
  have h1 := Blk.alloc (Blk.new w 45 zcells) (.cells #[.int .i64 4, .string ⟨#[]⟩, .int .i64 0, .int .i64 p] 45)
  have h2 := Blk.new (w.alloc (.cells zcells.toArray 45)) 45 [.int .i64 4, .string ⟨#[]⟩, .int .i64 0, .int .i64 p]
  rw [show (w.alloc (.cells zcells.toArray 45)).heap.size = w.heap.size + 1 by simp] at h2
  exact ⟨p + 1, [], rfl, by omega, by omega, by simp, Tx.zero S p, h1, h2, ((Fr.refl [] w).alloc _).alloc _⟩
 case round =>
  obtain ⟨q, acc, rfl, hpq, hq, hacc, HX, HB, HT, HF⟩ := hrel
  obtain ⟨t0, t1, t2, t3, g0, g1, g2, g3⟩ := tok_at HT.out
  obtain ⟨z0, z1, z2, z3, y0, y1, y2, y3⟩ := cells_of HB.out
  have hTl := HT.out.lt
  have hsz : acc.length <= 1000000 := Nat.le_trans hacc (Nat.le_trans hq HS.out)
  by_cases hlt : q < S.length
  ·obtain ⟨a1, a2, a3, a4, hww, hqi⟩ := arithL hpq hlt hacc HS.out
   obtain ⟨c, hc⟩ : ∃ c, S[q] = c := ⟨_, rfl⟩
   have hix : (ByteArray.mk S.toArray)[q]'(show q < S.toArray.size by simpa using hlt) = c := by rw [<- hc]; rfl
   have HC : Hid (at0 S q = c) := (at0_lt hlt).trans hc
   have HE := Hd (ext_at hlt hc)
   clear hc
   by_cases hbad : c.toNat < 32 \/ 126 < c.toNat
   ·have HBD : Hid (textM p S = .inl (q, 4)) := by
     have h := HX.out
     unfold Tx at h
     rw [Hid, textM, h, txt_bad (by rw [HC.out]; exact hbad)]
     rfl
    have hb' : (c.toNat : Int) < 32 \/ ((32 : Int) <= c.toNat /\ (126 : Int) < c.toNat) := by omega
    clear hbad
    rcases hb' with hb1 | ⟨hb1, hb2⟩
    all_goals
     go_wp2_with fail
     refine bodyPost_ret (ret_tok4 rfl _ w.heap.size rfl _ _ _ _ _ (blkPut4 HB.out rfl _ _ _ _)) rfl ⟨?_, frPut4 HF.out (.inr (Nat.le_refl _)) _ _ _ _⟩
     rw [HBD.out]
     exact ⟨_, _, _, _, _, rfl⟩
   ·have hgood : ¬ ((at0 S q).toNat < 32 \/ 126 < (at0 S q).toNat) := by rw [HC.out]; exact hbad
    have HG := Hd hgood
    have hg1 : (32 : Int) <= c.toNat := by omega
    have hg2 : (c.toNat : Int) <= 126 := by omega
    clear hbad hgood
    by_cases h39 : c = 39
    ·have h39i : ((c.toNat : Int) == 39) = true := by rw [h39]; decide
     have HC39 : Hid (at0 S q = 39) := HC.out.trans h39
     clear h39
     by_cases h2 : q + 1 < S.length
     ·obtain ⟨d, hd⟩ : ∃ d, S[q + 1] = d := ⟨_, rfl⟩
      have hix2 : (ByteArray.mk S.toArray)[q + 1]'(show q + 1 < S.toArray.size by simpa using h2) = d := by rw [<- hd]; rfl
      have HD : Hid (at0 S (q + 1) = d) := (at0_lt h2).trans hd
      have h2i : (q : Int) + 1 < (S.length : Int) := by clear h39i; omega
      clear hd
      by_cases hd39 : d = 39
      ·have HX2 := Hd (HX.out.twice HC39.out (HD.out.trans hd39))
       have hST := LtI.step (acc := acc) (acc' := acc ++ [39]) ((q : Int) + 1 + 1) (ByteArray.mk acc.toArray ++ ByteArray.mk #[39]) (q := q + 2) (by clear h39i; omega) (cat_list (A := acc) (show (ByteArray.mk #[39]).data.toList = [39] from rfl)) (by clear h39i; omega) h2 (by rw [List.length_append, List.length_singleton]; clear h39i; omega) HX2.out HB.out HT.out HF.out
       have HST := Hd hST
       have hd39i : ((d.toNat : Int) == 39) = true := by rw [hd39]; decide
       clear hST a1 a2 a3 a4 hd39
       go_wp2_with fail
       go_roundw
       case rel => exact HST.out
       case measure => clear h39i hd39i; simp [intOf]; omega
      ·have HSTP := Hd (HX.out.stop HC39.out (by rw [HD.out]; exact hd39))
       have hd39i : ((d.toNat : Int) == 39) = false := byte_ne (a := 39) hd39
       clear hd39 a1 a2 a3 a4
       by_cases hl : 30 < acc.length
       ·have hl' : (30 : Int) < (acc.length : Int) := by clear h39i hd39i; omega
        go_wp2_with fail
        refine bodyPost_ret (ret_tok4 rfl _ w.heap.size rfl _ _ _ _ _ (blkPut4 HB.out rfl _ _ _ _)) rfl ⟨?_, frPut4 HF.out (.inr (Nat.le_refl _)) _ _ _ _⟩
        rw [HSTP.out, if_pos hl]
        exact ⟨_, _, _, _, _, rfl⟩
       ·have hl' : (acc.length : Int) <= 30 := by clear h39i hd39i; omega
        go_wp2_with fail
        refine bodyPost_ret (ret_tok4 rfl _ w.heap.size rfl _ _ _ _ _ (blkPut4 HB.out rfl _ _ _ _)) rfl ⟨?_, frPut4 HF.out (.inr (Nat.le_refl _)) _ _ _ _⟩
        rw [HSTP.out, if_neg hl]
        exact ⟨_, rfl⟩
     ·have HSTP := Hd (HX.out.stop HC39.out (by rw [at0_ge (by clear h39i; omega)]; decide))
      have h2i : (S.length : Int) <= (q : Int) + 1 := by clear h39i; omega
      have h2d : decide ((q : Int) + 1 < (S.length : Int)) = false := by simp; exact h2i
      clear a1 a2 a3 a4 h2
      by_cases hl : 30 < acc.length
      ·have hl' : (30 : Int) < (acc.length : Int) := by clear h39i; omega
       go_wp2_with fail
       refine bodyPost_ret (ret_tok4 rfl _ w.heap.size rfl _ _ _ _ _ (blkPut4 HB.out rfl _ _ _ _)) rfl ⟨?_, frPut4 HF.out (.inr (Nat.le_refl _)) _ _ _ _⟩
       rw [HSTP.out, if_pos hl]
       exact ⟨_, _, _, _, _, rfl⟩
      ·have hl' : (acc.length : Int) <= 30 := by clear h39i; omega
       go_wp2_with fail
       refine bodyPost_ret (ret_tok4 rfl _ w.heap.size rfl _ _ _ _ _ (blkPut4 HB.out rfl _ _ _ _)) rfl ⟨?_, frPut4 HF.out (.inr (Nat.le_refl _)) _ _ _ _⟩
       rw [HSTP.out, if_neg hl]
       exact ⟨_, rfl⟩
    ·have HX2 := Hd (HX.out.plain HG.out (by rw [HC.out]; exact h39))
     rw [HC.out] at HX2
     have hST := LtI.step (acc := acc) (acc' := acc ++ [c]) ((q : Int) + 1) (ByteArray.mk acc.toArray ++ (ByteArray.mk S.toArray).extract q (q + 1)) a1 (cat_list (A := acc) HE.out) a2 a3 (by rw [List.length_append]; exact a4) HX2.out HB.out HT.out HF.out
     have HST := Hd hST
     clear hST a1 a2 a3 a4
     have hne39 : ((c.toNat : Int) == 39) = false := byte_ne (a := 39) h39
     clear h39
     go_wp2_with fail
     go_region
     go_wp2_with fail
     go_roundw
     case rel => exact HST.out.drew
     case measure => clear hne39; simp [intOf]; omega
  ·obtain rfl : q = S.length := by omega
   have HBD : Hid (textM p S = .inl (S.length, 4)) := by
    have h := HX.out
    unfold Tx at h
    rw [Hid, textM, h, txt_bad (by rw [at0_ge (Nat.le_refl _)]; left; decide)]
    rfl
   go_wp2_with fail
   refine bodyPost_ret (ret_tok4 rfl _ w.heap.size rfl _ _ _ _ _ (blkPut4 HB.out rfl _ _ _ _)) rfl ⟨?_, frPut4 HF.out (.inr (Nat.le_refl _)) _ _ _ _⟩
   rw [HBD.out]
   exact ⟨_, _, _, _, _, rfl⟩
end Lx
end Go.Proofs.YtmdnhinpaflamaaGreatDoor
namespace Go.Proofs.YtmdnhinpaflamaaGreatDoor
open Go.RowKit
namespace Lx
open LexM (Tok)
open Parse (parseV parseE)
theorem rletter_any (c : UInt8) (w : World) : Calls Tryz.prog 77 #[.int .u8 (c.toNat : Int)] w fun e w' => e = .returned (.bool (LexM.letter c)) /\ w' = w := by
 have hc := c.toNat_lt
 obtain ⟨y, hy⟩ : ∃ y : Int, (c.toNat : Int) = y := ⟨_, rfl⟩
 have hv : LexM.letter c = (decide (97 <= y /\ y <= 122) || decide (y = 95)) := by
  have e : (c == 95) = decide (y = 95) := by
   rw [<- hy]
   by_cases h : c = 95
   ·subst h; rfl
   ·have : ¬ ((c.toNat : Int) = 95) := fun he => h (UInt8.toNat_inj.1 (by simpa using (by omega : c.toNat = 95)))
    simp [h, this]
  unfold LexM.letter
  rw [e]
  congr 1
  rw [decide_eq_decide]
  omega
 rw [hv, hy]
 have h0 : 0 <= y /\ y <= 255 := by omega
 obtain ⟨h1, h2⟩ := h0
 have HV := Hd hv
 clear hv hy hc
 rcases (by omega : y < 95 \/ y = 95 \/ (95 < y /\ y < 97) \/ (97 <= y /\ y <= 122) \/ (97 <= y /\ 122 < y)) with h | rfl | ⟨h, h'⟩ | ⟨h, h'⟩ | ⟨h, h'⟩
 all_goals
  go_enter Tryz.func77, Tryz.ntmps77
  go_wp2_with fail
  go_ret
  refine ⟨?_, rfl⟩
  congr 2
  try simp
  try (rw [Bool.eq_iff_iff]; simp; omega)
  try omega
theorem rdigit_any (c : UInt8) (w : World) : Calls Tryz.prog 78 #[.int .u8 (c.toNat : Int)] w fun e w' => e = .returned (.bool (LexM.dig c)) /\ w' = w := by
 have hc := c.toNat_lt
 obtain ⟨y, hy⟩ : ∃ y : Int, (c.toNat : Int) = y := ⟨_, rfl⟩
 have hv : LexM.dig c = decide (48 <= y /\ y <= 57) := by
  unfold LexM.dig
  rw [decide_eq_decide]
  omega
 rw [hv, hy]
 have h0 : 0 <= y /\ y <= 255 := by omega
 obtain ⟨h1, h2⟩ := h0
 have HV := Hd hv
 clear hv hy hc
 rcases (by omega : y < 48 \/ (48 <= y /\ y <= 57) \/ (48 <= y /\ 57 < y)) with h | ⟨h, h'⟩ | ⟨h, h'⟩
 all_goals
  go_enter Tryz.func78, Tryz.ntmps78
  go_wp2_with fail
  go_ret
  refine ⟨?_, rfl⟩
  congr 2
  try simp
  try (rw [Bool.eq_iff_iff]; simp; omega)
  try omega
theorem arithO {q n : Nat} (h2 : q < n) (h4 : n <= 1000000) : (q : Int) + 1 = ((q + 1 : Nat) : Int) /\ q + 1 <= n /\ (q : Int) <= 1000000 /\ (q : Int) < (n : Int) /\ decide ((q : Int) < (n : Int)) = true := by
 refine ⟨by omega, by omega, by omega, by omega, by simp; omega⟩
theorem ext_pq {S t : List UInt8} {p q : Nat} (h : (S.drop p).take (q - p) = t) : (ByteArray.mk S.toArray).extract p q = ⟨t.toArray⟩ := by rw [extract_eq, h]
theorem TokB.set0 {w : World} {T : Nat} {a : Int} {b : List UInt8} {c d : Int} (h : TokB w T a b c d) (a' : Int) : TokB (w.setCell ⟨T, 0, none⟩ (.int .i64 a')) T a' b c d := Blk.set h 0 _
theorem TokB.set1 {w : World} {T : Nat} {a : Int} {b : List UInt8} {c d : Int} (h : TokB w T a b c d) (b' : List UInt8) : TokB (w.setCell ⟨T, 1, none⟩ (.string ⟨b'.toArray⟩)) T a b' c d := Blk.set h 1 _
theorem blkPast {w : World} {b : Nat} {E : TypeId} {cs : List Value} (h : Blk w b E cs) {T i : Nat} (hT : T ≠ b) (u : Value) : Blk (w.setCell ⟨T, i, none⟩ u) b E cs :=
 Blk.keep h ((Fr.refl [some T] w).setCell (p := ⟨T, i, none⟩) (.inl (by simp)) u) (by simp; exact fun h => hT h.symm)
theorem frPast {w w' : World} (h : Fr [] w w') {T i : Nat} (hT : w.heap.size <= T) (u : Value) : Fr [] w (w'.setCell ⟨T, i, none⟩ u) := Fr.setCell h (p := ⟨T, i, none⟩) (.inr hT) u
set_option maxRecDepth 100000 in
set_option maxHeartbeats 4000000 in
theorem one_name (S : List UInt8) (p : Nat) (w : World) (hS : S.length <= 1000000) (hp : p < S.length) (hl : LexM.letter (at0 S p) = true) :
  Calls Tryz.prog 37 #[.string ⟨S.toArray⟩, .int .i64 p] w fun e w' => DocR e (nameM p S) /\ Fr [] w w' := by
 have HS := Hd hS
 obtain ⟨c, hc⟩ : ∃ c, S[p] = c := ⟨_, rfl⟩
 have hix : (ByteArray.mk S.toArray)[p]'(show p < S.toArray.size by simpa using hp) = c := by rw [<- hc]; rfl
 rw [at0_lt hp, hc] at hl
 have HLC := Hd hl
 have hpi : (p : Int) < (S.length : Int) := by omega
 clear hS hc hl
 go_enter Tryz.func37, Tryz.ntmps37
 go_wp2_with fail
 refine (rletter_any c _).mono ?_
 rintro e w1 ⟨rfl, rfl⟩
 rw [HLC.out]
 have HB0 : Hid (Blk ((w.alloc (.cells zcells.toArray 45)).alloc (.cells #[.int .i64 0, .string ⟨#[]⟩, .int .i64 0, .int .i64 p] 45)) w.heap.size 45 zcells) := Blk.alloc (Blk.new w 45 zcells) _
 have HT0 : Hid (TokB ((w.alloc (.cells zcells.toArray 45)).alloc (.cells #[.int .i64 0, .string ⟨#[]⟩, .int .i64 0, .int .i64 p] 45)) (w.heap.size + 1) 0 [] 0 p) := by
  have h2 := Blk.new (w.alloc (.cells zcells.toArray 45)) 45 [.int .i64 0, .string ⟨#[]⟩, .int .i64 0, .int .i64 p]
  rw [show (w.alloc (.cells zcells.toArray 45)).heap.size = w.heap.size + 1 by simp] at h2
  exact h2
 have HF0 : Hid (Fr [] w ((w.alloc (.cells zcells.toArray 45)).alloc (.cells #[.int .i64 0, .string ⟨#[]⟩, .int .i64 0, .int .i64 p] 45))) := ((Fr.refl [] w).alloc _).alloc _
 obtain ⟨wa, hwa⟩ : ∃ wa, (w.alloc (.cells zcells.toArray 45)).alloc (.cells #[.int .i64 0, .string ⟨#[]⟩, .int .i64 0, .int .i64 p] 45) = wa := ⟨_, rfl⟩
 rw [hwa] at HB0 HT0 HF0
 go_wp2_with fail
 rw [show ((w.alloc (.cells #[.int .i64 0, .string ⟨#[]⟩, .int .i64 0, .int .i64 0] 45)).alloc (.cells #[.int .i64 0, .string ⟨#[]⟩, .int .i64 0, .int .i64 p] 45)) = wa from hwa]
 clear hwa hix
 go_loop [8] (fun u8 => ∃ q : Nat, u8 = .int .i64 q /\ p <= q /\ q <= S.length /\ Hid (StopAt LexM.nameByte S p q)) (fun i => S.length - (intOf i).toNat)
 case atStart => exact ⟨p, rfl, Nat.le_refl _, Nat.le_of_lt hp, StopAt.zero _ S p⟩
 case round =>
  obtain ⟨q, rfl, hpq, hq, HST⟩ := hrel
  by_cases hlt : q < S.length
  ·obtain ⟨-, -, a3, a4, a5⟩ := arithO hlt HS.out
   obtain ⟨d, hd⟩ : ∃ d, S[q] = d := ⟨_, rfl⟩
   have hix : (ByteArray.mk S.toArray)[q]'(show q < S.toArray.size by simpa using hlt) = d := by rw [<- hd]; rfl
   have HD := Hd hd
   clear hd
   go_wp2_with fail
   refine (rletter_any d _).mono ?_
   rintro e w1 ⟨rfl, rfl⟩
   cases hl : LexM.letter d
   ·go_wp2_with fail
    refine (rdigit_any d _).mono ?_
    rintro e w2 ⟨rfl, rfl⟩
    cases hdd : LexM.dig d
    ·have HDN : Hid _ := HST.out.done hpq hq (fun h => by rw [at0_lt h, HD.out]; simp [LexM.nameByte, hl, hdd])
     clear hl hdd
     go_wp2_with fail
     obtain ⟨t, ht⟩ : ∃ t, (S.drop p).takeWhile LexM.nameByte = t := ⟨_, rfl⟩
     obtain ⟨e1, e2⟩ := HDN.out
     rw [ht] at e1 e2
     have hext := ext_pq e1.symm
     have HN : Hid (nameM p S = if LexM.words.contains t then .inr (⟨2, t, 0, p⟩, q) else if 16 < t.length then .inl (p, 7) else .inr (⟨1, t, 0, p⟩, q)) := by
      rw [Hid, nameM, ht, <- e2]
     have hqi : (q : Int) <= (S.length : Int) := by omega
     have hpqi : (p : Int) <= (q : Int) := by omega
     have hbd : (S.length : Int) <= 1000000 := by have := HS.out; omega
     have hqt : (q : Int) - (p : Int) = (t.length : Int) := by omega
     obtain ⟨t0, t1, t2, t3, g0, g1, g2, g3⟩ := tok_at HT0.out
     clear ht e1 e2 HDN
     go_wp2_with fail
     go_region
     go_wp2_with fail
     refine (word_any t _).mono ?_
     rintro e w3 ⟨rfl, hf3⟩
     have HT3 : Hid (TokB w3 (w.heap.size + 1) 1 t 0 p) := Blk.keep (Blk.drew ((HT0.out.set0 1).set1 t)) hf3 (by simp)
     have HB3 : Hid (Blk w3 w.heap.size 45 zcells) := Blk.keep (Blk.drew (blkPast (blkPast HB0.out (by omega) _) (by omega) _)) hf3 (by simp)
     have HF3 : Hid (Fr [] w w3) := Fr.trans (Fr.drew (frPast (frPast HF0.out (by omega) _) (by omega) _)) hf3
     obtain ⟨z0, z1, z2, z3, y0, y1, y2, y3⟩ := cells_of HB3.out
     obtain ⟨x0, x1, x2, x3, v0, v1, v2, v3⟩ := tok_at HT3.out
     clear t0 t1 t2 t3 g0 g1 g2 g3 hf3 hext
     cases hw : LexM.words.contains t
     ·rw [hw] at HN
      by_cases hl : 16 < t.length
      ·have hl' : (16 : Int) < (q : Int) - (p : Int) := by omega
       have HL : Hid (nameM p S = .inl (p, 7)) := by rw [Hid, HN.out, if_neg Bool.false_ne_true, if_pos hl]
       clear hw hl hqt
       go_wp2_with fail
       refine bodyPost_ret (ret_tok4 rfl _ w.heap.size rfl _ _ _ _ _ (blkPut4 HB3.out rfl _ _ _ _)) rfl ⟨?_, frPut4 HF3.out (.inr (Nat.le_refl _)) _ _ _ _⟩
       rw [HL.out]
       exact ⟨_, _, _, _, _, rfl⟩
      ·have hl' : (q : Int) - (p : Int) <= 16 := by omega
       have HL : Hid (nameM p S = .inr (⟨1, t, 0, p⟩, q)) := by rw [Hid, HN.out, if_neg Bool.false_ne_true, if_neg hl]
       clear hw hl hqt
       go_wp2_with fail
       refine bodyPost_ret (ret_tok4 rfl _ w.heap.size rfl _ _ _ _ _ (blkPut4 HB3.out rfl _ _ _ _)) rfl ⟨?_, frPut4 HF3.out (.inr (Nat.le_refl _)) _ _ _ _⟩
       rw [HL.out]
       exact ⟨_, rfl⟩
     ·rw [hw] at HN
      have HL : Hid (nameM p S = .inr (⟨2, t, 0, p⟩, q)) := by rw [Hid, HN.out, if_pos rfl]
      clear hw hqt
      go_wp2_with fail
      refine bodyPost_ret (ret_tok4 rfl _ w.heap.size rfl _ _ _ _ _ (blkPut4 (blkPast HB3.out (T := w.heap.size + 1) (by omega) _) rfl _ _ _ _)) rfl ⟨?_, frPut4 (frPast HF3.out (T := w.heap.size + 1) (by omega) _) (.inr (Nat.le_refl _)) _ _ _ _⟩
      rw [HL.out]
      exact ⟨_, rfl⟩
    ·have HN : Hid _ := HST.out.next hpq hlt (by rw [HD.out]; simp [LexM.nameByte, hdd])
     clear hl hdd
     go_wp2_with fail
     go_round
     case rel => exact ⟨q + 1, by go_num, by omega, by omega, HN.out⟩
     case measure => simp [intOf]; omega
   ·have HN : Hid _ := HST.out.next hpq hlt (by rw [HD.out]; simp [LexM.nameByte, hl])
    clear hl
    go_wp2_with fail
    go_round
    case rel => exact ⟨q + 1, by go_num, by omega, by omega, HN.out⟩
    case measure => simp [intOf]; omega
  ·have HDN : Hid _ := HST.out.done hpq hq (fun h => absurd h hlt)
   have hle : (S.length : Int) <= (q : Int) := by omega
   have hdf : decide ((q : Int) < (S.length : Int)) = false := decide_eq_false (by omega)
   have hq0 : q = S.length := by omega
   clear hlt hq0
   go_wp2_with fail
   obtain ⟨t, ht⟩ : ∃ t, (S.drop p).takeWhile LexM.nameByte = t := ⟨_, rfl⟩
   obtain ⟨e1, e2⟩ := HDN.out
   rw [ht] at e1 e2
   have hext := ext_pq e1.symm
   have HN : Hid (nameM p S = if LexM.words.contains t then .inr (⟨2, t, 0, p⟩, q) else if 16 < t.length then .inl (p, 7) else .inr (⟨1, t, 0, p⟩, q)) := by
    rw [Hid, nameM, ht, <- e2]
   have hqi : (q : Int) <= (S.length : Int) := by omega
   have hpqi : (p : Int) <= (q : Int) := by omega
   have hbd : (S.length : Int) <= 1000000 := by have := HS.out; omega
   have hqt : (q : Int) - (p : Int) = (t.length : Int) := by omega
   obtain ⟨t0, t1, t2, t3, g0, g1, g2, g3⟩ := tok_at HT0.out
   clear ht e1 e2 HDN
   go_wp2_with fail
   go_region
   go_wp2_with fail
   refine (word_any t _).mono ?_
   rintro e w3 ⟨rfl, hf3⟩
   have HT3 : Hid (TokB w3 (w.heap.size + 1) 1 t 0 p) := Blk.keep (Blk.drew ((HT0.out.set0 1).set1 t)) hf3 (by simp)
   have HB3 : Hid (Blk w3 w.heap.size 45 zcells) := Blk.keep (Blk.drew (blkPast (blkPast HB0.out (by omega) _) (by omega) _)) hf3 (by simp)
   have HF3 : Hid (Fr [] w w3) := Fr.trans (Fr.drew (frPast (frPast HF0.out (by omega) _) (by omega) _)) hf3
   obtain ⟨z0, z1, z2, z3, y0, y1, y2, y3⟩ := cells_of HB3.out
   obtain ⟨x0, x1, x2, x3, v0, v1, v2, v3⟩ := tok_at HT3.out
   clear t0 t1 t2 t3 g0 g1 g2 g3 hf3 hext
   cases hw : LexM.words.contains t
   ·rw [hw] at HN
    by_cases hl : 16 < t.length
    ·have hl' : (16 : Int) < (q : Int) - (p : Int) := by omega
     have HL : Hid (nameM p S = .inl (p, 7)) := by rw [Hid, HN.out, if_neg Bool.false_ne_true, if_pos hl]
     clear hw hl hqt
     go_wp2_with fail
     refine bodyPost_ret (ret_tok4 rfl _ w.heap.size rfl _ _ _ _ _ (blkPut4 HB3.out rfl _ _ _ _)) rfl ⟨?_, frPut4 HF3.out (.inr (Nat.le_refl _)) _ _ _ _⟩
     rw [HL.out]
     exact ⟨_, _, _, _, _, rfl⟩
    ·have hl' : (q : Int) - (p : Int) <= 16 := by omega
     have HL : Hid (nameM p S = .inr (⟨1, t, 0, p⟩, q)) := by rw [Hid, HN.out, if_neg Bool.false_ne_true, if_neg hl]
     clear hw hl hqt
     go_wp2_with fail
     refine bodyPost_ret (ret_tok4 rfl _ w.heap.size rfl _ _ _ _ _ (blkPut4 HB3.out rfl _ _ _ _)) rfl ⟨?_, frPut4 HF3.out (.inr (Nat.le_refl _)) _ _ _ _⟩
     rw [HL.out]
     exact ⟨_, rfl⟩
   ·rw [hw] at HN
    have HL : Hid (nameM p S = .inr (⟨2, t, 0, p⟩, q)) := by rw [Hid, HN.out, if_pos rfl]
    clear hw hqt
    go_wp2_with fail
    refine bodyPost_ret (ret_tok4 rfl _ w.heap.size rfl _ _ _ _ _ (blkPut4 (blkPast HB3.out (T := w.heap.size + 1) (by omega) _) rfl _ _ _ _)) rfl ⟨?_, frPut4 (frPast HF3.out (T := w.heap.size + 1) (by omega) _) (.inr (Nat.le_refl _)) _ _ _ _⟩
    rw [HL.out]
    exact ⟨_, rfl⟩
end Lx
end Go.Proofs.YtmdnhinpaflamaaGreatDoor
namespace Go.Proofs.YtmdnhinpaflamaaGreatDoor
open Go.RowKit
namespace Lx
open LexM (Tok)
open Parse (parseV parseE)
set_option maxRecDepth 100000 in
set_option maxHeartbeats 4000000 in
theorem one_num (S : List UInt8) (p : Nat) (w : World) (hS : S.length <= 1000000) (hp : p < S.length) (hl : LexM.letter (at0 S p) = false) (hd : LexM.dig (at0 S p) = true) :
  Calls Tryz.prog 37 #[.string ⟨S.toArray⟩, .int .i64 p] w fun e w' => DocR e (numM p S) /\ Fr [] w w' := by
 have HS := Hd hS
 obtain ⟨c, hc⟩ : ∃ c, S[p] = c := ⟨_, rfl⟩
 have hix : (ByteArray.mk S.toArray)[p]'(show p < S.toArray.size by simpa using hp) = c := by rw [<- hc]; rfl
 rw [at0_lt hp, hc] at hl hd
 have HLC := Hd hl
 have HDC := Hd hd
 have hpi : (p : Int) < (S.length : Int) := by omega
 clear hS hc hl hd
 go_enter Tryz.func37, Tryz.ntmps37
 go_wp2_with fail
 refine (rletter_any c _).mono ?_
 rintro e w1 ⟨rfl, rfl⟩
 rw [HLC.out]
 have HB0 : Hid (Blk ((w.alloc (.cells zcells.toArray 45)).alloc (.cells #[.int .i64 0, .string ⟨#[]⟩, .int .i64 0, .int .i64 p] 45)) w.heap.size 45 zcells) := Blk.alloc (Blk.new w 45 zcells) _
 have HT0 : Hid (TokB ((w.alloc (.cells zcells.toArray 45)).alloc (.cells #[.int .i64 0, .string ⟨#[]⟩, .int .i64 0, .int .i64 p] 45)) (w.heap.size + 1) 0 [] 0 p) := by
  have h2 := Blk.new (w.alloc (.cells zcells.toArray 45)) 45 [.int .i64 0, .string ⟨#[]⟩, .int .i64 0, .int .i64 p]
  rw [show (w.alloc (.cells zcells.toArray 45)).heap.size = w.heap.size + 1 by simp] at h2
  exact h2
 have HF0 : Hid (Fr [] w ((w.alloc (.cells zcells.toArray 45)).alloc (.cells #[.int .i64 0, .string ⟨#[]⟩, .int .i64 0, .int .i64 p] 45))) := ((Fr.refl [] w).alloc _).alloc _
 obtain ⟨wa, hwa⟩ : ∃ wa, (w.alloc (.cells zcells.toArray 45)).alloc (.cells #[.int .i64 0, .string ⟨#[]⟩, .int .i64 0, .int .i64 p] 45) = wa := ⟨_, rfl⟩
 rw [hwa] at HB0 HT0 HF0
 go_wp2_with fail
 refine (rdigit_any c _).mono ?_
 rintro e w1 ⟨rfl, rfl⟩
 rw [HDC.out]
 go_wp2_with fail
 rw [show ((w.alloc (.cells #[.int .i64 0, .string ⟨#[]⟩, .int .i64 0, .int .i64 0] 45)).alloc (.cells #[.int .i64 0, .string ⟨#[]⟩, .int .i64 0, .int .i64 p] 45)) = wa from hwa]
 clear hwa hix
 go_loop [8] (fun u8 => ∃ q : Nat, u8 = .int .i64 q /\ p <= q /\ q <= S.length /\ Hid (StopAt LexM.dig S p q)) (fun i => S.length - (intOf i).toNat)
 case atStart => exact ⟨p, rfl, Nat.le_refl _, Nat.le_of_lt hp, StopAt.zero _ S p⟩
 case round =>
  obtain ⟨q, rfl, hpq, hq, HST⟩ := hrel
  by_cases hlt : q < S.length
  ·obtain ⟨-, -, a3, a4, a5⟩ := arithO hlt HS.out
   obtain ⟨d, hd⟩ : ∃ d, S[q] = d := ⟨_, rfl⟩
   have hix : (ByteArray.mk S.toArray)[q]'(show q < S.toArray.size by simpa using hlt) = d := by rw [<- hd]; rfl
   have HD := Hd hd
   clear hd
   go_wp2_with fail
   refine (rdigit_any d _).mono ?_
   rintro e w2 ⟨rfl, rfl⟩
   cases hdd : LexM.dig d
   ·have HDN : Hid _ := HST.out.done hpq hq (fun h => by rw [at0_lt h, HD.out]; exact hdd)
    clear hdd
    go_wp2_with fail
    refine (rletter_any d _).mono ?_
    rintro e w3 ⟨rfl, rfl⟩
    have hdl : LexM.letter (at0 S q) = LexM.letter d := by rw [at0_lt hlt, HD.out]
    cases hll : LexM.letter d
    ·rw [hll] at hdl
     obtain ⟨t, ht⟩ : ∃ t, (S.drop p).takeWhile LexM.dig = t := ⟨_, rfl⟩
     obtain ⟨e1, e2⟩ := HDN.out
     rw [ht] at e1 e2
     have hext := ext_pq e1.symm
     have HN : Hid (numM p S = if parseE t = 0 then .inr (⟨3, [], parseV t, p⟩, q) else .inl (p, parseE t)) := by
      rw [Hid, numM, ht, <- e2, hdl]
      rfl
     have hqi : (q : Int) <= (S.length : Int) := by omega
     have hpqi : (p : Int) <= (q : Int) := by omega
     have hbd : (S.length : Int) <= 1000000 := by have := HS.out; omega
     have htl : t.length <= 1000000 := by have := HS.out; omega
     obtain ⟨t0, t1, t2, t3, g0, g1, g2, g3⟩ := tok_at HT0.out
     obtain ⟨z0, z1, z2, z3, y0, y1, y2, y3⟩ := cells_of HB0.out
     clear ht e1 e2 HDN hdl
     go_wp2_with fail
     refine (Parse.rparse_any t _ htl).mono ?_
     rintro e w4 ⟨rfl, rfl⟩
     obtain ⟨v, hv⟩ : ∃ v, parseV t = v := ⟨_, rfl⟩
     obtain ⟨x, hx⟩ : ∃ x, parseE t = x := ⟨_, rfl⟩
     rw [hv, hx] at HN ⊢
     clear hv hx hext
     go_wp2_with fail
     refine bodyPost_ret (ret_tok4 rfl _ w.heap.size rfl _ _ _ _ _ (blkPut4 (blkPast (blkPast HB0.out (T := w.heap.size + 1) (by omega) _) (T := w.heap.size + 1) (by omega) _) rfl _ _ _ _)) rfl ⟨?_, frPut4 (frPast (frPast HF0.out (T := w.heap.size + 1) (by omega) _) (T := w.heap.size + 1) (by omega) _) (.inr (Nat.le_refl _)) _ _ _ _⟩
     rw [HN.out]
     by_cases hx0 : x = 0
     ·rw [if_pos hx0, hx0]
      exact ⟨_, rfl⟩
     ·rw [if_neg hx0]
      exact ⟨_, [], _, _, _, rfl⟩
    ·rw [hll] at hdl
     have HN : Hid (numM p S = .inl (q, 4)) := by
      obtain ⟨e1, e2⟩ := HDN.out
      rw [Hid, numM, <- e2, if_pos hdl]
     obtain ⟨z0, z1, z2, z3, y0, y1, y2, y3⟩ := cells_of HB0.out
     obtain ⟨t0, t1, t2, t3, g0, g1, g2, g3⟩ := tok_at HT0.out
     clear hdl hll HDN
     go_wp2_with fail
     refine bodyPost_ret (ret_tok4 rfl _ w.heap.size rfl _ _ _ _ _ (blkPut4 HB0.out rfl _ _ _ _)) rfl ⟨?_, frPut4 HF0.out (.inr (Nat.le_refl _)) _ _ _ _⟩
     rw [HN.out]
     exact ⟨_, _, _, _, _, rfl⟩
   ·have HN : Hid _ := HST.out.next hpq hlt (by rw [HD.out]; exact hdd)
    clear hdd
    go_wp2_with fail
    go_round
    case rel => exact ⟨q + 1, by go_num, by omega, by omega, HN.out⟩
    case measure => simp [intOf]; omega
  ·have HDN : Hid _ := HST.out.done hpq hq (fun h => absurd h hlt)
   have hdl : LexM.letter (at0 S q) = false := by rw [at0_ge (by omega)]; decide
   have hle : (S.length : Int) <= (q : Int) := by omega
   have hdf : decide ((q : Int) < (S.length : Int)) = false := decide_eq_false (by omega)
   clear hlt
   obtain ⟨t, ht⟩ : ∃ t, (S.drop p).takeWhile LexM.dig = t := ⟨_, rfl⟩
   obtain ⟨e1, e2⟩ := HDN.out
   rw [ht] at e1 e2
   have hext := ext_pq e1.symm
   have HN : Hid (numM p S = if parseE t = 0 then .inr (⟨3, [], parseV t, p⟩, q) else .inl (p, parseE t)) := by
    rw [Hid, numM, ht, <- e2, hdl]
    rfl
   have hqi : (q : Int) <= (S.length : Int) := by omega
   have hpqi : (p : Int) <= (q : Int) := by omega
   have hbd : (S.length : Int) <= 1000000 := by have := HS.out; omega
   have htl : t.length <= 1000000 := by have := HS.out; omega
   obtain ⟨t0, t1, t2, t3, g0, g1, g2, g3⟩ := tok_at HT0.out
   obtain ⟨z0, z1, z2, z3, y0, y1, y2, y3⟩ := cells_of HB0.out
   clear ht e1 e2 HDN hdl
   go_wp2_with fail
   refine (Parse.rparse_any t _ htl).mono ?_
   rintro e w4 ⟨rfl, rfl⟩
   obtain ⟨v, hv⟩ : ∃ v, parseV t = v := ⟨_, rfl⟩
   obtain ⟨x, hx⟩ : ∃ x, parseE t = x := ⟨_, rfl⟩
   rw [hv, hx] at HN ⊢
   clear hv hx hext
   go_wp2_with fail
   refine bodyPost_ret (ret_tok4 rfl _ w.heap.size rfl _ _ _ _ _ (blkPut4 (blkPast (blkPast HB0.out (T := w.heap.size + 1) (by omega) _) (T := w.heap.size + 1) (by omega) _) rfl _ _ _ _)) rfl ⟨?_, frPut4 (frPast (frPast HF0.out (T := w.heap.size + 1) (by omega) _) (T := w.heap.size + 1) (by omega) _) (.inr (Nat.le_refl _)) _ _ _ _⟩
   rw [HN.out]
   by_cases hx0 : x = 0
   ·rw [if_pos hx0, hx0]
    exact ⟨_, rfl⟩
   ·rw [if_neg hx0]
    exact ⟨_, [], _, _, _, rfl⟩
set_option maxRecDepth 100000 in
set_option maxHeartbeats 4000000 in
theorem one_text (S : List UInt8) (p : Nat) (w : World) (hS : S.length <= 1000000) (hp : p < S.length) (h39 : at0 S p = 39) :
  Calls Tryz.prog 37 #[.string ⟨S.toArray⟩, .int .i64 p] w fun e w' => DocR e (textM p S) /\ Fr [] w w' := by
 have HS := Hd hS
 have hix : (ByteArray.mk S.toArray)[p]'(show p < S.toArray.size by simpa using hp) = 39 := by
  rw [at0_lt hp] at h39
  exact h39
 have hpi : (p : Int) < (S.length : Int) := by omega
 clear hS h39
 obtain ⟨c, hcc⟩ : ∃ c : UInt8, c = 39 := ⟨_, rfl⟩
 rw [<- hcc] at hix
 have HLC : Hid (LexM.letter c = false) := by show LexM.letter c = false; rw [hcc]; decide
 have HDC : Hid (LexM.dig c = false) := by show LexM.dig c = false; rw [hcc]; decide
 have h39i : ((c.toNat : Int) == 39) = true := by rw [hcc]; decide
 clear hcc
 go_enter Tryz.func37, Tryz.ntmps37
 go_wp2_with fail
 refine (rletter_any c _).mono ?_
 rintro e w1 ⟨rfl, rfl⟩
 rw [HLC.out]
 go_wp2_with fail
 refine (rdigit_any c _).mono ?_
 rintro e w1 ⟨rfl, rfl⟩
 rw [HDC.out]
 have HB0 : Hid (Blk ((w.alloc (.cells zcells.toArray 45)).alloc (.cells #[.int .i64 0, .string ⟨#[]⟩, .int .i64 0, .int .i64 p] 45)) w.heap.size 45 zcells) := Blk.alloc (Blk.new w 45 zcells) _
 have HF0 : Hid (Fr [] w ((w.alloc (.cells zcells.toArray 45)).alloc (.cells #[.int .i64 0, .string ⟨#[]⟩, .int .i64 0, .int .i64 p] 45))) := ((Fr.refl [] w).alloc _).alloc _
 go_wp2_with fail
 refine (letters_any S p _ HS.out hp).mono ?_
 intro e w3 hr
 obtain ⟨hd, hf⟩ := hr
 have HB := Hd (HB0.out.keep hf (by simp))
 have HF : Hid (Fr [] w w3) := HF0.out.trans hf
 obtain ⟨z0, z1, z2, z3, y0, y1, y2, y3⟩ := cells_of HB.out
 clear hf h39i
 cases hX : textM p S with
 |inl y =>
  obtain ⟨q, x⟩ := y
  rw [hX] at hd
  obtain ⟨a, b, c', d, z, rfl⟩ := hd
  have HX := Hd hX
  clear hX
  go_wp2_with fail
  refine bodyPost_ret (ret_tok4 rfl _ w.heap.size rfl _ _ _ _ _ (blkPut4 HB.out rfl _ _ _ _)) rfl ⟨?_, frPut4 HF.out (.inr (Nat.le_refl _)) _ _ _ _⟩
  rw [HX.out]
  exact ⟨_, _, _, _, _, rfl⟩
 |inr y =>
  obtain ⟨t, q⟩ := y
  rw [hX] at hd
  obtain ⟨z, rfl⟩ := hd
  simp only [tokV, tokA]
  have HX := Hd hX
  clear hX
  go_wp2_with fail
  refine bodyPost_ret (ret_tok4 rfl _ w.heap.size rfl _ _ _ _ _ (blkPut4 HB.out rfl _ _ _ _)) rfl ⟨?_, frPut4 HF.out (.inr (Nat.le_refl _)) _ _ _ _⟩
  rw [HX.out]
  exact ⟨_, rfl⟩
end Lx
end Go.Proofs.YtmdnhinpaflamaaGreatDoor
namespace Go.Proofs.YtmdnhinpaflamaaGreatDoor
open Go.RowKit
namespace Lx
open LexM (Tok)
theorem sg_no' {l : List UInt8} {k : Nat} {a c : UInt8} (h : k < l.length) (hc : l[k] = c) (ha : ¬ c = a) : (l.take (k + 1)).contains a = (l.take k).contains a := by
 rw [List.take_succ_eq_append_getElem h, hc, Bool.eq_iff_iff]
 simp only [List.contains_iff_mem, List.mem_append, List.mem_singleton]
 constructor
 ·rintro (h | h)
  ·exact h
  ·exact absurd h.symm ha
 ·exact .inl
theorem ext_two {S : List UInt8} {p : Nat} {c d : UInt8} (h : p + 1 < S.length) (hc : S[p]'(by omega) = c) (hd : S[p + 1] = d) : (ByteArray.mk S.toArray).extract p (p + 2) = ⟨#[c, d]⟩ := by
 rw [extract_eq, show p + 2 - p = 2 by omega, List.drop_eq_getElem_cons (by omega), List.drop_eq_getElem_cons h, hc, hd]
 rfl
theorem ext_1 {S : List UInt8} {p : Nat} {c : UInt8} (h : p < S.length) (hc : S[p] = c) : (ByteArray.mk S.toArray).extract p (p + 1) = ⟨#[c]⟩ := by
 rw [extract_eq, show p + 1 - p = 1 by omega, List.drop_eq_getElem_cons h, hc]
 rfl
def SgI (w : World) (p : Nat) (c : UInt8) (u : Value) (wr : World) : Prop :=
 ∃ k : Nat, u = .int .i64 k /\ k <= 10 /\ Hid ((LexM.signs.take k).contains c = false) /\ Hid (Blk wr w.heap.size 45 zcells) /\ Hid (TokB wr (w.heap.size + 1) 5 [] 0 p) /\ Hid (Fr [] w wr)
set_option maxRecDepth 100000 in
set_option maxHeartbeats 8000000 in
theorem one_sign (S : List UInt8) (p : Nat) (w : World) (hS : S.length <= 1000000) (hp : p < S.length) (hl : LexM.letter (at0 S p) = false) (hd : LexM.dig (at0 S p) = false) (h39 : at0 S p ≠ 39) :
  Calls Tryz.prog 37 #[.string ⟨S.toArray⟩, .int .i64 p] w fun e w' => DocR e (signM p S) /\ Fr [] w w' := by
 have HS := Hd hS
 obtain ⟨c, hc⟩ : ∃ c, S[p] = c := ⟨_, rfl⟩
 have hix : (ByteArray.mk S.toArray)[p]'(show p < S.toArray.size by simpa using hp) = c := by rw [<- hc]; rfl
 have HAT : Hid (at0 S p = c) := (at0_lt hp).trans hc
 rw [at0_lt hp, hc] at hl hd h39
 have HLC := Hd hl
 have HDC := Hd hd
 have HC := Hd hc
 have hpi : (p : Int) < (S.length : Int) := by omega
 have hbd : (S.length : Int) <= 1000000 := by omega
 have h39i : ((c.toNat : Int) == 39) = false := byte_ne (a := 39) h39
 clear hS hc hl hd h39
 go_enter Tryz.func37, Tryz.ntmps37
 go_wp2_with fail
 refine (rletter_any c _).mono ?_
 rintro e w1 ⟨rfl, rfl⟩
 rw [HLC.out]
 have HB0 : Hid (Blk ((w.alloc (.cells zcells.toArray 45)).alloc (.cells #[.int .i64 0, .string ⟨#[]⟩, .int .i64 0, .int .i64 p] 45)) w.heap.size 45 zcells) := Blk.alloc (Blk.new w 45 zcells) _
 have HT0 : Hid (TokB ((w.alloc (.cells zcells.toArray 45)).alloc (.cells #[.int .i64 0, .string ⟨#[]⟩, .int .i64 0, .int .i64 p] 45)) (w.heap.size + 1) 0 [] 0 p) := by
  have h2 := Blk.new (w.alloc (.cells zcells.toArray 45)) 45 [.int .i64 0, .string ⟨#[]⟩, .int .i64 0, .int .i64 p]
  rw [show (w.alloc (.cells zcells.toArray 45)).heap.size = w.heap.size + 1 by simp] at h2
  exact h2
 have HF0 : Hid (Fr [] w ((w.alloc (.cells zcells.toArray 45)).alloc (.cells #[.int .i64 0, .string ⟨#[]⟩, .int .i64 0, .int .i64 p] 45))) := ((Fr.refl [] w).alloc _).alloc _
 obtain ⟨wa, hwa⟩ : ∃ wa, (w.alloc (.cells zcells.toArray 45)).alloc (.cells #[.int .i64 0, .string ⟨#[]⟩, .int .i64 0, .int .i64 p] 45) = wa := ⟨_, rfl⟩
 rw [hwa] at HB0 HT0 HF0
 go_wp2_with fail
 refine (rdigit_any c _).mono ?_
 rintro e w1 ⟨rfl, rfl⟩
 rw [HDC.out]
 rw [show ((w.alloc (.cells #[.int .i64 0, .string ⟨#[]⟩, .int .i64 0, .int .i64 0] 45)).alloc (.cells #[.int .i64 0, .string ⟨#[]⟩, .int .i64 0, .int .i64 p] 45)) = wa from hwa]
 clear hwa
 have HB5 : Hid (Blk (wa.setCell ⟨w.heap.size + 1, 0, none⟩ (.int .i64 5)) w.heap.size 45 zcells) := blkPast HB0.out (by omega) _
 have HT5 : Hid (TokB (wa.setCell ⟨w.heap.size + 1, 0, none⟩ (.int .i64 5)) (w.heap.size + 1) 5 [] 0 p) := HT0.out.set0 5
 have HF5 : Hid (Fr [] w (wa.setCell ⟨w.heap.size + 1, 0, none⟩ (.int .i64 5))) := frPast HF0.out (by omega) _
 obtain ⟨t0, t1, t2, t3, g0, g1, g2, g3⟩ := tok_at HT0.out
 obtain ⟨z0, z1, z2, z3, y0, y1, y2, y3⟩ := cells_of HB0.out
 by_cases h2 : p + 1 < S.length
 ·obtain ⟨d, hd⟩ : ∃ d, S[p + 1] = d := ⟨_, rfl⟩
  have hext := ext_two h2 HC.out hd
  have HAD : Hid (at0 S (p + 1) = d) := (at0_lt h2).trans hd
  have h2i : (p : Int) + 1 < (S.length : Int) := by clear h39i; omega
  have h2j : (p : Int) + 2 <= (S.length : Int) := by clear h39i; omega
  clear hd h2
  by_cases hb : (c = 60 /\ (d = 62 \/ d = 61)) \/ (c = 62 /\ d = 61)
  ·have HM : Hid (signM p S = .inr (⟨5, [c, d], 0, p⟩, p + 2)) := by
    have hs : LexM.signs.contains c = true := by
     rcases hb with ⟨rfl, _⟩ | ⟨rfl, _⟩ <;> decide
    rw [Hid, signM, HAT.out, HAD.out]
    simp only [hs, if_true, if_pos hb]
   obtain ⟨e1, he, hv⟩ : ∃ e1 : ByteArray, (⟨#[c, d]⟩ : ByteArray) = e1 /\ (e1 = ⟨#[60, 62]⟩ \/ e1 = ⟨#[60, 61]⟩ \/ e1 = ⟨#[62, 61]⟩) := by
    rcases hb with ⟨rfl, rfl | rfl⟩ | ⟨rfl, rfl⟩
    ·exact ⟨_, rfl, .inl rfl⟩
    ·exact ⟨_, rfl, .inr (.inl rfl)⟩
    ·exact ⟨_, rfl, .inr (.inr rfl)⟩
   rw [he] at hext
   have HE := Hd he
   clear hb he
   rcases hv with rfl | rfl | rfl
   all_goals
    go_wp2_with fail
    refine bodyPost_ret (ret_tok4 rfl _ w.heap.size rfl _ _ _ _ _ (blkPut4 (blkPast HB5.out (T := w.heap.size + 1) (by clear h39i; omega) _) rfl _ _ _ _)) rfl ⟨?_, frPut4 (frPast HF5.out (T := w.heap.size + 1) (by clear h39i; omega) _) (.inr (Nat.le_refl _)) _ _ _ _⟩
    rw [HM.out]
    refine ⟨0, ?_⟩
    rw [show tokV ⟨5, [c, d], 0, p⟩ = .agg #[.int .i64 5, .string ⟨#[c, d]⟩, .int .i64 0, .int .i64 p] from rfl, HE.out]
    rfl
  ·obtain ⟨e1, he⟩ : ∃ e1 : ByteArray, (⟨#[c, d]⟩ : ByteArray) = e1 := ⟨_, rfl⟩
   have hn : ∀ x y : UInt8, e1 = ⟨#[x, y]⟩ -> c = x /\ d = y := by
    rintro x y h
    rw [<- he] at h
    have : [c, d] = [x, y] := congrArg (fun b : ByteArray => b.data.toList) h
    simpa using this
   have k1 : (e1.toList == [60, 62]) = false := by rw [<- (by kernel_rfl : (ByteArray.mk #[60, 62]).toList = [60, 62]), Lib.bytes_beq_false_iff]; intro h; obtain ⟨rfl, rfl⟩ := hn _ _ h; simp at hb
   have k2 : (e1.toList == [60, 61]) = false := by rw [<- (by kernel_rfl : (ByteArray.mk #[60, 61]).toList = [60, 61]), Lib.bytes_beq_false_iff]; intro h; obtain ⟨rfl, rfl⟩ := hn _ _ h; simp at hb
   have k3 : (e1.toList == [62, 61]) = false := by rw [<- (by kernel_rfl : (ByteArray.mk #[62, 61]).toList = [62, 61]), Lib.bytes_beq_false_iff]; intro h; obtain ⟨rfl, rfl⟩ := hn _ _ h; simp at hb
   have HM : Hid (signM p S = if LexM.signs.contains c then .inr (⟨5, [c], 0, p⟩, p + 1) else .inl (p, 4)) := by
    rw [Hid, signM, HAT.out, HAD.out]
    simp only [if_neg hb]
   rw [he] at hext
   clear hn hb he
   go_wp2_with fail
   go_loopw [13] (fun u wr => SgI w p c u wr) (fun i _ => 10 - (intOf i).toNat)
   case atStart => exact ⟨0, rfl, by clear h39i; omega, rfl, HB5.out, HT5.out, HF5.out⟩
   case round =>
    obtain ⟨k, rfl, hk, HK, HB, HT, HF⟩ := hrel
    clear t0 t1 t2 t3 g0 g1 g2 g3 z0 z1 z2 z3 y0 y1 y2 y3 h39i
    obtain ⟨t0, t1, t2, t3, g0, g1, g2, g3⟩ := tok_at HT.out
    obtain ⟨z0, z1, z2, z3, y0, y1, y2, y3⟩ := cells_of HB.out
    by_cases hlt : k < 10
    ·obtain ⟨x, hx⟩ : ∃ x, LexM.signs[k]'hlt = x := ⟨_, rfl⟩
     have hixk : (ByteArray.mk #[40, 41, 44, 46, 61, 60, 62, 43, 45, 42])[k]'hlt = x := hx
     have hki : (k : Int) < 10 := by omega
     by_cases hxc : x = c
     ·have HM2 : Hid (signM p S = .inr (⟨5, [c], 0, p⟩, p + 1)) := by
       have hs : LexM.signs.contains c = true := by
        rw [List.contains_iff_mem, <- hxc, <- hx]
        exact List.getElem_mem _
       rw [Hid, HM.out, if_pos hs]
      have hxi := byte_eq hxc
      have hext1 := ext_1 hp HC.out
      have hpi1 : (p : Int) + 1 <= (S.length : Int) := by omega
      clear hx hxc
      go_wp2_with fail
      go_quiet (fail)
      go_wp2_with fail
      refine bodyPost_ret (ret_tok4 rfl _ w.heap.size rfl _ _ _ _ _ (blkPut4 (blkPast (Blk.drewN HB.out _) (T := w.heap.size + 1) (by clear hxi; omega) _) rfl _ _ _ _)) rfl ⟨?_, frPut4 (frPast (Fr.drewN HF.out _) (T := w.heap.size + 1) (by clear hxi; omega) _) (.inr (Nat.le_refl _)) _ _ _ _⟩
      rw [HM2.out]
      exact ⟨_, rfl⟩
     ·have HK2 : Hid ((LexM.signs.take (k + 1)).contains c = false) := by
       rw [Hid, sg_no' hlt hx hxc]
       exact HK.out
      have hxi := byte_ne hxc
      clear hx hxc
      go_wp2_with fail
      go_quiet (fail)
      go_wp2_with fail
      go_roundw
      case rel => exact ⟨k + 1, by go_num, hlt, HK2, Blk.drewN HB.out _, Blk.drewN HT.out _, Fr.drewN HF.out _⟩
      case measure => clear hxi; simp [intOf]; omega
    ·have HM2 : Hid (signM p S = .inl (p, 4)) := by
      obtain rfl : k = 10 := by omega
      have := HK.out
      rw [Hid, HM.out, if_neg (by rw [show LexM.signs.contains c = (LexM.signs.take 10).contains c from rfl, this]; decide)]
     have hki : (10 : Int) <= (k : Int) := by omega
     go_wp2_with fail
     refine bodyPost_ret (ret_tok4 rfl _ w.heap.size rfl _ _ _ _ _ (blkPut4 HB.out rfl _ _ _ _)) rfl ⟨?_, frPut4 HF.out (.inr (Nat.le_refl _)) _ _ _ _⟩
     rw [HM2.out]
     exact ⟨_, _, _, _, _, rfl⟩
 ·have HM : Hid (signM p S = if LexM.signs.contains c then .inr (⟨5, [c], 0, p⟩, p + 1) else .inl (p, 4)) := by
   have hb : ¬ ((c = 60 /\ ((0 : UInt8) = 62 \/ (0 : UInt8) = 61)) \/ (c = 62 /\ (0 : UInt8) = 61)) := by
    rintro (⟨_, h | h⟩ | ⟨_, h⟩) <;> revert h <;> decide
   rw [Hid, signM, HAT.out, at0_ge (S := S) (p := p + 1) (by omega)]
   simp only [if_neg hb]
  have h2i : (S.length : Int) <= (p : Int) + 1 := by clear h39i; omega
  have h2d : decide ((p : Int) + 1 < (S.length : Int)) = false := decide_eq_false (by clear h39i; omega)
  clear h2
  go_wp2_with fail
  go_loopw [13] (fun u wr => SgI w p c u wr) (fun i _ => 10 - (intOf i).toNat)
  case atStart => exact ⟨0, rfl, by clear h39i; omega, rfl, HB5.out, HT5.out, HF5.out⟩
  case round =>
   obtain ⟨k, rfl, hk, HK, HB, HT, HF⟩ := hrel
   clear t0 t1 t2 t3 g0 g1 g2 g3 z0 z1 z2 z3 y0 y1 y2 y3 h39i
   obtain ⟨t0, t1, t2, t3, g0, g1, g2, g3⟩ := tok_at HT.out
   obtain ⟨z0, z1, z2, z3, y0, y1, y2, y3⟩ := cells_of HB.out
   by_cases hlt : k < 10
   ·obtain ⟨x, hx⟩ : ∃ x, LexM.signs[k]'hlt = x := ⟨_, rfl⟩
    have hixk : (ByteArray.mk #[40, 41, 44, 46, 61, 60, 62, 43, 45, 42])[k]'hlt = x := hx
    have hki : (k : Int) < 10 := by omega
    by_cases hxc : x = c
    ·have HM2 : Hid (signM p S = .inr (⟨5, [c], 0, p⟩, p + 1)) := by
      have hs : LexM.signs.contains c = true := by
       rw [List.contains_iff_mem, <- hxc, <- hx]
       exact List.getElem_mem _
      rw [Hid, HM.out, if_pos hs]
     have hxi := byte_eq hxc
     have hext1 := ext_1 hp HC.out
     have hpi1 : (p : Int) + 1 <= (S.length : Int) := by omega
     clear hx hxc
     go_wp2_with fail
     go_quiet (fail)
     go_wp2_with fail
     refine bodyPost_ret (ret_tok4 rfl _ w.heap.size rfl _ _ _ _ _ (blkPut4 (blkPast (Blk.drewN HB.out _) (T := w.heap.size + 1) (by clear hxi; omega) _) rfl _ _ _ _)) rfl ⟨?_, frPut4 (frPast (Fr.drewN HF.out _) (T := w.heap.size + 1) (by clear hxi; omega) _) (.inr (Nat.le_refl _)) _ _ _ _⟩
     rw [HM2.out]
     exact ⟨_, rfl⟩
    ·have HK2 : Hid ((LexM.signs.take (k + 1)).contains c = false) := by
      rw [Hid, sg_no' hlt hx hxc]
      exact HK.out
     have hxi := byte_ne hxc
     clear hx hxc
     go_wp2_with fail
     go_quiet (fail)
     go_wp2_with fail
     go_roundw
     case rel => exact ⟨k + 1, by go_num, hlt, HK2, Blk.drewN HB.out _, Blk.drewN HT.out _, Fr.drewN HF.out _⟩
     case measure => clear hxi; simp [intOf]; omega
   ·have HM2 : Hid (signM p S = .inl (p, 4)) := by
     obtain rfl : k = 10 := by omega
     have := HK.out
     rw [Hid, HM.out, if_neg (by rw [show LexM.signs.contains c = (LexM.signs.take 10).contains c from rfl, this]; decide)]
    have hki : (10 : Int) <= (k : Int) := by omega
    go_wp2_with fail
    refine bodyPost_ret (ret_tok4 rfl _ w.heap.size rfl _ _ _ _ _ (blkPut4 HB.out rfl _ _ _ _)) rfl ⟨?_, frPut4 HF.out (.inr (Nat.le_refl _)) _ _ _ _⟩
    rw [HM2.out]
    exact ⟨_, _, _, _, _, rfl⟩
end Lx
end Go.Proofs.YtmdnhinpaflamaaGreatDoor
namespace Go.Proofs.YtmdnhinpaflamaaGreatDoor
open Go.RowKit
namespace Lx
open LexM (Tok)
theorem one_any (S : List UInt8) (p : Nat) (w : World) (hS : S.length <= 1000000) (hp : p < S.length) :
  Calls Tryz.prog 37 #[.string ⟨S.toArray⟩, .int .i64 p] w fun e w' => DocR e (LexM.tok1 p (S.drop p)) /\ Fr [] w w' := by
 cases hl : LexM.letter (at0 S p)
 ·cases hd : LexM.dig (at0 S p)
  ·by_cases h39 : at0 S p = 39
   ·rw [tok_text hp h39]; exact one_text S p w hS hp h39
   ·rw [tok_sign hp hl hd h39]; exact one_sign S p w hS hp hl hd h39
  ·rw [tok_num hp hl hd]; exact one_num S p w hS hp hl hd
 ·rw [tok_name hp hl]; exact one_name S p w hS hp hl
def DxI (w : World) (S : List UInt8) (v u : Value) (wr : World) : Prop :=
 ∃ (p : Nat) (acc : List Tok), u = .int .i64 p /\ p <= S.length /\ acc.length <= p /\ Hid (LS S 0 = pre acc (LS S p)) /\ Hid (Row wr 45 4 v acc.length (toksC acc)) /\ Hid (v.ownBlock = none \/ ∃ k, w.heap.size <= k /\ v.ownBlock = some k) /\ Hid (Fr [] w wr)
def DxR (w w' : World) (e : Ending) : (Nat × Int) ⊕ List Tok -> Prop
 |.inl (q, x) => e = .returned (.tuple #[.slice none 0 0, .int .i64 q, .int .i64 x]) /\ Fr [] w w'
 |.inr l => ∃ v, e = .returned (.tuple #[v, .int .i64 0, .int .i64 0]) /\ Row w' 45 4 v l.length (toksC l) /\ Fr [] w w'
theorem own_fr' {v : Value} {w w1 w' : World} (hF : Fr [] w w1) (hf : Fr [v.ownBlock] w1 w') (h : v.ownBlock = none \/ ∃ k, w.heap.size <= k /\ v.ownBlock = some k) : Fr [] w w' :=
 hF.trans' hf (by
  intro i hi
  rcases h with h | ⟨k, hk, h⟩ <;> rw [h] at hi <;> simp at hi
  exact .inr (by omega))
theorem own_behind' {v v' : Value} {n z : Nat} (h : v.ownBlock = none \/ ∃ k, n <= k /\ v.ownBlock = some k) (hb : v'.ownBlock = v.ownBlock \/ ∃ k, z <= k /\ v'.ownBlock = some k) (hz : n <= z) : v'.ownBlock = none \/ ∃ k, n <= k /\ v'.ownBlock = some k := by
 rcases hb with h1 | ⟨k, hk, h1⟩
 ·rw [h1]; exact h
 ·exact .inr ⟨k, by omega, h1⟩
theorem DxI.step {w wa w' : World} {S : List UInt8} {q r z : Nat} {acc : List Tok} {t : Tok} {v v' : Value} (hX : LS S 0 = pre acc (LS S q)) (hlt : q < S.length) (hne : at0 S q ≠ 32) (ht : LexM.tok1 q (S.drop q) = .inr (t, r)) (hacc : acc.length <= q)
  (hown : v.ownBlock = none \/ ∃ k, w.heap.size <= k /\ v.ownBlock = some k) (hF : Fr [] w wa) (hz : w.heap.size <= z)
  (hr' : Row w' 45 4 v' (acc.length + 1) (toksC acc ++ tokC t)) (hf' : Fr [v.ownBlock] wa w') (hb' : v'.ownBlock = v.ownBlock \/ ∃ k, z <= k /\ v'.ownBlock = some k) : DxI w S v' (.int .i64 r) w' := by
 obtain ⟨h1, h2, _⟩ := tok_range hlt ht
 refine ⟨r, acc ++ [t], rfl, h2, by rw [List.length_append]; simp only [List.length_cons, List.length_nil]; omega, by rw [Hid, hX]; exact pre_tok acc hlt hne ht, ?_, own_behind' hown hb' hz, own_fr' hF hf' hown⟩
 rw [Hid, List.length_append, toksC_snoc]; exact hr'
set_option maxHeartbeats 4000000 in
set_option maxRecDepth 1000000 in
theorem doclex_any (S : List UInt8) (w : World) (hS : S.length <= 1000000) :
  Calls Tryz.prog 15 #[.string ⟨S.toArray⟩] w fun e w' => DxR w w' e (LexM.lex S) := by
 have HS := Hd hS
 clear hS
 by_cases h400 : 400 < S.length
 ·have h4' : (400 : Int) < (S.length : Int) := by omega
  have HL : Hid (LexM.lex S = .inl (0, 7)) := if_pos h400
  clear h400
  go_enter Tryz.func15, Tryz.ntmps15
  go_wp2_with fail
  go_ret3
  rw [HL.out]
  exact ⟨rfl, Fr.refl _ _⟩
 have h4' : (S.length : Int) <= 400 := by omega
 have HL : Hid (LexM.lex S = LS S 0) := if_neg h400
 obtain ⟨i0, hi, hz0, hz1, hz2⟩ := info_parts infoT
 clear h400
 go_enter Tryz.func15, Tryz.ntmps15
 go_wp2_with fail
 go_loopw [5, 6] (fun v u wr => DxI w S v u wr) (fun _ u _ => S.length - (intOf u).toNat)
 case atStart =>
  exact ⟨0, [], rfl, Nat.zero_le _, Nat.le_refl _, pre_nil _, Row.nil _ _ _, .inl rfl, Fr.refl [] w⟩
 case round =>
  obtain ⟨p, acc, rfl, hp, hacc, HX, HROW, HOWN, HF⟩ := hrel
  have hlim := lim (Nat.le_trans hacc (Nat.le_trans hp HS.out))
  obtain ⟨hmx, hby⟩ := hlim
  by_cases hlt : p < S.length
  ·obtain ⟨c, hc⟩ : ∃ c, S[p] = c := ⟨_, rfl⟩
   have hix : (ByteArray.mk S.toArray)[p]'(show p < S.toArray.size by simpa using hlt) = c := by rw [<- hc]; rfl
   have HC : Hid (at0 S p = c) := (at0_lt hlt).trans hc
   have hpi : (p : Int) < (S.length : Int) := by omega
   clear hc
   by_cases h32 : c = 32
   ·have HX2 : Hid (LS S 0 = pre acc (LS S (p + 1))) := by
     rw [Hid, HX.out, LS_blank hlt (HC.out.trans h32)]
    have hci : ((c.toNat : Int) == 32) = true := by rw [h32]; decide
    clear h32
    go_wp2_with fail
    go_roundw
    case rel => exact ⟨p + 1, acc, by go_num, hlt, Nat.le_succ_of_le hacc, HX2, HROW, HOWN, HF⟩
    case measure => clear hci; simp [intOf]; omega
   ·have HN : Hid (at0 S p ≠ 32) := by rw [Hid, HC.out]; exact h32
    have hci : ((c.toNat : Int) == 32) = false := byte_ne (a := 32) h32
    clear h32
    go_wp2_with fail
    refine (one_any S p wr HS.out hlt).mono ?_
    intro e w2 hr
    obtain ⟨hd, hf⟩ := hr
    have HROW2 := Hd (HROW.out.keep hf (by simp))
    have HF2 : Hid (Fr [] w w2) := HF.out.trans hf
    clear hf hci
    rcases hX : LexM.tok1 p (S.drop p) with ⟨r, x⟩ | ⟨t, r⟩
    ·rw [hX] at hd
     obtain ⟨a, b, c', d, z, rfl⟩ := hd
     have hx0 : (x != 0) = true := by simpa using tok_err hlt hX
     have HT := Hd hX
     clear hX
     go_wp2_with fail
     go_ret3
     rw [HL.out, HX.out, pre_bad acc hlt HN.out HT.out]
     exact ⟨rfl, HF2.out.alloc _⟩
    ·rw [hX] at hd
     obtain ⟨z, rfl⟩ := hd
     have HT := Hd hX
     clear hX
     simp only [tokV, tokA]
     go_wp2_with (at_builtin; refine wpList_append_row rfl _ _ 41 rfl 45 i0 (tokA 0 [] 0 0) 4 40 Tryz.underlying41 hi hz0 hz1 hz2 rfl (by decide) u5 acc.length (toksC acc) rfl ?c0 ⟨w2.heap.size + 1, 0, none⟩ 1 1 (tokC t) rfl rfl ?c1 (one_tok _) hmx hby ?_)
     case c0 => exact (HROW2.out.keep ((Fr.refl [] _).alloc _) (by simp)).keep ((Fr.refl [] _).alloc _) (by simp)
     case c1 => exact four_new2 _ _ _ _
     intro v' w' hr' hf' hb'
     have hsz := HF2.out.size
     have HST := Hd (DxI.step HX.out hlt HN.out HT.out hacc HOWN.out ((HF2.out.alloc _).alloc _) (Nat.le_succ_of_le (Nat.le_succ_of_le hsz)) hr' hf' hb')
     have htr := tok_range hlt HT.out
     clear hr' hf' hb' hsz
     go_wp2_with fail
     go_roundw
     case rel => exact HST.out
     case measure => simp [intOf]; omega
  ·obtain rfl : p = S.length := by omega
   go_wp2_with (at_builtin; refine wpList_append_row rfl _ _ 41 rfl 45 i0 (tokA 0 [] 0 0) 4 40 Tryz.underlying41 hi hz0 hz1 hz2 rfl (by decide) u5 acc.length (toksC acc) rfl (HROW.out.keep ((Fr.refl [] _).alloc _) (by simp)) ⟨wr.heap.size, 0, none⟩ 1 1 (tokC ⟨6, [], 0, S.length⟩) rfl rfl ?c1 (one_tok _) hmx hby ?_)
   case c1 => exact four_new _ _ _
   intro v' w' hr' hf' hb'
   have HR' := Hd hr'
   have HF' := Hd (own_fr' (HF.out.alloc _) hf' HOWN.out)
   clear hr' hf' hb'
   go_wp2_with fail
   go_ret3
   rw [HL.out, HX.out, pre_end]
   refine ⟨v', rfl, ?_, HF'.out⟩
   rw [List.length_append, toksC_snoc]
   exact HR'.out
end Lx
end Go.Proofs.YtmdnhinpaflamaaGreatDoor
