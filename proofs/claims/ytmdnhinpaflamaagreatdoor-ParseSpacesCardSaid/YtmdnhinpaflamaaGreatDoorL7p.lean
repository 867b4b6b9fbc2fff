/- What is shown, spread, cut off, or with a word more. No program in sight. -/
import Derived.Test.YtmdnhinpaflamaaGreatDoorLin
import Derived.Test.YtmdnhinpaflamaaGreatDoorTold
namespace Go.Proofs.YtmdnhinpaflamaaGreatDoor
open Go.RowKit
set_option linter.unusedVariables false
set_option linter.unusedSimpArgs false
namespace CM
open LexM (Tok)
open PM (B Ex Col It St PS zeroTok wordy two un colEx opOr opAnd opSum opTerm opComp)
open Pc (Pc Line okName okText render toks blanks fits first)
theorem first_wide (n : Nat) (L : Line) : first (wide n L) = 0 \/ first (wide n L) = first L := by
 cases L with
 |nil => exact .inl rfl
 |cons x r =>
  obtain ⟨g, c⟩ := x
  cases n with
  |zero => exact .inr (by simp [wide])
  |succ n => exact .inl rfl
theorem fits_wide (n : Nat) : ∀ {L : Line}, fits L = true -> fits (wide n L) = true
 |[], _ => rfl
 |(g, c) :: L, h => by
  simp only [fits, Bool.and_eq_true] at h
  show (c.ok && c.stops (first (wide n L)) && fits (wide n L)) = true
  simp only [Bool.and_eq_true]
  refine ⟨⟨h.1.1, ?_⟩, fits_wide n h.2⟩
  rcases first_wide n L with e | e
  ·rw [e]; exact Pc.stops0 c
  ·rw [e]; exact h.1.2
theorem toks_len : ∀ (L : Line) (p : Nat), (toks p L).length = L.length
 |[], _ => rfl
 |(g, c) :: L, p => by simp only [toks, List.length_cons, toks_len L]
theorem parse_wide {q : Qs} (n : Nat) (ho : q.ok 64 = true) (hl : (render (wide n q.line) ++ blanks n).length <= 400) : PM.parse (render (wide n q.line) ++ blanks n) = .inr q.st :=
 parse_keys ho (keys_wide n q.line) (fits_wide n (qs_fits ho)) hl
end CM
end Go.Proofs.YtmdnhinpaflamaaGreatDoor
