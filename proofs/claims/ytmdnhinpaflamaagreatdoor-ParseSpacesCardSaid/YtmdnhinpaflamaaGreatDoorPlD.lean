/- A statement that is cut off between its words. No program in sight. -/
import Derived.Test.YtmdnhinpaflamaaGreatDoorPlC
namespace Go.Proofs.YtmdnhinpaflamaaGreatDoor
open Go.RowKit
set_option linter.unusedVariables false
namespace CM
open LexM (Tok)
open PM (B Ex Col It St PS zeroTok wordy two un colEx opOr opAnd opSum opTerm opComp)
section
variable {e : Tok} {α β : Type} {N M : Nat} {X : List Tok}
end
end CM
end Go.Proofs.YtmdnhinpaflamaaGreatDoor
namespace Go.Proofs.YtmdnhinpaflamaaGreatDoor
open Go.RowKit
set_option linter.unusedVariables false
namespace CM
open LexM (Tok)
open PM (B Ex Col It St PS zeroTok wordy two un colEx opOr opAnd opSum opTerm opComp)
open Pc (Pc Line okName okText)
section
variable {α β : Type}
end
theorem parseL_keys {q : Qs} {L : Line} (ho : q.ok 64 = true) (hk : keys L = keys q.line) (p e : Nat) : parseL (Pc.toks p L ++ [⟨6, [], 0, e⟩]) = .inr q.st := by
 have h0 := starts_toks L p [⟨6, [], 0, e⟩]
 rw [hk] at h0
 have h1 := stmt_ok (D := 64) ho (Nat.le_refl _) h0 (end_tok e)
 unfold parseL
 rw [show (64 - ((64 : Nat) : Int)) = 0 from rfl] at h1
 rw [h1]
 rfl
end CM
end Go.Proofs.YtmdnhinpaflamaaGreatDoor
namespace Go.Proofs.YtmdnhinpaflamaaGreatDoor
open Go.RowKit
set_option linter.unusedVariables false
set_option linter.unusedSimpArgs false
namespace CM
open LexM (Tok)
open PM (B Ex Col It St PS zeroTok wordy two un colEx opOr opAnd opSum opTerm opComp)
open Pc (Pc Line okName okText render toks blanks)
def wide (n : Nat) (L : Line) : Line := L.map fun x => (x.1 + n, x.2)
theorem keys_wide (n : Nat) (L : Line) : keys (wide n L) = keys L := by simp [keys, wide]
def spread (n : Nat) (S : B) : List Nat -> B
 |a :: b :: r => (S.drop a).take (b - a) ++ blanks n ++ spread n S (b :: r)
 |_ => []
theorem blanks_add (a b : Nat) : blanks (a + b) = blanks a ++ blanks b := by simp [blanks, List.replicate_append_replicate]
theorem tok_pos (c : Pc) (q : Nat) : (c.tok q).pos = q := by cases c <;> rfl
theorem spread_line (S : B) (n : Nat) : ∀ (L : Line) (g : Nat) (c : Pc) (p : Nat), S.drop p = render ((g, c) :: L) -> p <= S.length ->
  blanks (g + n) ++ spread n S (((toks p ((g, c) :: L)).map (·.pos)) ++ [S.length]) = render (wide n ((g, c) :: L)) ++ blanks n
 |[], g, c, p, h, hp => by
  have h1 : S.drop (p + g) = c.bytes := by
   rw [<- List.drop_drop, h]
   simp [render, blanks]
  have h2 : S.length - (p + g) = c.bytes.length := by rw [<- h1]; simp
  simp only [toks, List.map_cons, List.map_nil, tok_pos, List.cons_append, List.nil_append, spread, h1, h2, List.take_length, wide, render, List.append_assoc]
  simp
 |(g', c') :: L, g, c, p, h, hp => by
  have h1 : S.drop (p + g) = c.bytes ++ render ((g', c') :: L) := by
   rw [<- List.drop_drop, h]
   simp [render, blanks]
  have h3 : S.drop (p + g + c.bytes.length) = render ((g', c') :: L) := by rw [<- List.drop_drop, h1, List.drop_left]
  have hl : p + g + c.bytes.length <= S.length := by
   have := congrArg List.length h
   simp [render, blanks] at this
   omega
  have ih := spread_line S n L g' c' (p + g + c.bytes.length) h3 hl
  have h4 : (S.drop (p + g)).take (p + g + c.bytes.length + g' - (p + g)) = c.bytes ++ blanks g' := by
   rw [h1, show p + g + c.bytes.length + g' - (p + g) = (c.bytes ++ blanks g').length by simp [blanks]; omega]
   simp only [render]
   rw [<- List.append_assoc]
   exact List.take_left' rfl
  have h5 : spread n S (((toks p ((g, c) :: (g', c') :: L)).map (·.pos)) ++ [S.length]) = c.bytes ++ blanks g' ++ blanks n ++ spread n S (((toks (p + g + c.bytes.length) ((g', c') :: L)).map (·.pos)) ++ [S.length]) := by
   simp only [toks, List.map_cons, tok_pos, List.cons_append, spread, h4]
  rw [h5]
  have e1 : c.bytes ++ blanks g' ++ blanks n ++ spread n S (((toks (p + g + c.bytes.length) ((g', c') :: L)).map (·.pos)) ++ [S.length]) = c.bytes ++ (render (wide n ((g', c') :: L)) ++ blanks n) := by
   rw [<- ih, blanks_add]
   simp only [List.append_assoc]
  rw [e1]
  simp [wide, render]
end CM
end Go.Proofs.YtmdnhinpaflamaaGreatDoor
