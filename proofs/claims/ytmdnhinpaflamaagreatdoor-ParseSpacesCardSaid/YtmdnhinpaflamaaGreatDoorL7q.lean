/- What is shown, spread: the pieces between words. No program in sight. -/
import Derived.Test.YtmdnhinpaflamaaGreatDoorL7p
namespace Go.Proofs.YtmdnhinpaflamaaGreatDoor
open Go.RowKit
set_option linter.unusedVariables false
set_option linter.unusedSimpArgs false
namespace CM
open LexM (Tok)
open PM (B Ex Col It St PS zeroTok wordy two un colEx opOr opAnd opSum opTerm opComp)
open Pc (Pc Line okName okText render toks blanks fits first)
theorem spread_take {n : Nat} {S : B} : ∀ {ps : List Nat} {k a b : Nat}, ps[k]? = some a -> ps[k + 1]? = some b -> spread n S (ps.take (k + 2)) = spread n S (ps.take (k + 1)) ++ ((S.drop a).take (b - a) ++ blanks n)
 |[], _, _, _, h, _ => by simp at h
 |[x], _, _, _, _, h => by simp at h
 |x :: y :: r, 0, a, b, ha, hb => by
  simp only [List.getElem?_cons_zero, List.getElem?_cons_succ, Option.some.injEq] at ha hb
  subst ha hb
  simp [spread]
 |x :: y :: r, k + 1, a, b, ha, hb => by
  have ih := spread_take (n := n) (S := S) (ps := y :: r) (k := k) (by simpa using ha) (by simpa using hb)
  simp only [List.take_succ_cons] at ih ⊢
  simp only [spread, ih, List.append_assoc]
theorem line_head (q : Qs) : ∃ c L, q.line = (0, c) :: L := by
 cases q with
 |write s => cases s <;> exact ⟨_, _, rfl⟩
 |_ => exact ⟨_, _, rfl⟩
theorem spread_all {q : Qs} {S : B} (hS : render q.line = S) (n : Nat) : blanks n ++ spread n S ((toks 0 q.line ++ [⟨6, [], 0, S.length⟩] : List Tok).map (·.pos)) = render (wide n q.line) ++ blanks n := by
 obtain ⟨c, L, hq⟩ := line_head q
 have h := spread_line S n L 0 c 0 (by rw [List.drop_zero, <- hS, hq]) (Nat.zero_le _)
 rw [<- hq, Nat.zero_add] at h
 rw [List.map_append]
 exact h
theorem tok_in : ∀ (L : Line) (p e : Nat), p + (render L).length <= e -> ∀ x ∈ toks p L ++ [⟨6, [], 0, e⟩], p <= x.pos /\ x.pos <= e
 |[], p, e, h, x, hx => by
  simp only [toks, List.nil_append, List.mem_singleton] at hx
  subst hx
  simp only [render, List.length_nil] at h
  exact ⟨by simpa using h, Nat.le_refl _⟩
 |(g, c) :: L, p, e, h, x, hx => by
  simp only [render, List.length_append, blanks, List.length_replicate] at h
  simp only [toks, List.cons_append, List.mem_cons] at hx
  rcases hx with rfl | hx
  ·rw [tok_pos]; omega
  ·have := tok_in L (p + g + c.bytes.length) e (by omega) x hx
   omega
theorem tok_next : ∀ (L : Line) (p e k : Nat), p + (render L).length <= e -> ∀ x y, (toks p L ++ [⟨6, [], 0, e⟩])[k]? = some x -> (toks p L ++ [⟨6, [], 0, e⟩])[k + 1]? = some y -> x.pos <= y.pos /\ y.pos <= e
 |[], p, e, k, h, x, y, hx, hy => by simp [toks] at hy
 |(g, c) :: L, p, e, 0, h, x, y, hx, hy => by
  simp only [render, List.length_append, blanks, List.length_replicate] at h
  simp only [toks, List.cons_append, List.getElem?_cons_zero, List.getElem?_cons_succ, Option.some.injEq] at hx hy
  subst hx
  have := tok_in L (p + g + c.bytes.length) e (by omega) y (List.mem_of_getElem? hy)
  rw [tok_pos]
  omega
 |(g, c) :: L, p, e, k + 1, h, x, y, hx, hy => by
  simp only [render, List.length_append, blanks, List.length_replicate] at h
  exact tok_next L (p + g + c.bytes.length) e k (by omega) x y (by simpa [toks] using hx) (by simpa [toks] using hy)
end CM
end Go.Proofs.YtmdnhinpaflamaaGreatDoor
