/- parse: how ways of one rank and of unlike ranks group: reckoned, of any names. No program in sight. -/
import Derived.Test.YthmdgiodhjlbcaaDoorPlC
import Derived.KernelRfl
import Derived.Test.YthmdgiodhjlbcaaDoorPc
namespace Go.Proofs.YthmdgiodhjlbcaaDoor
namespace Gp
open PM (B Ex)
open Pc (Pc Line)
/-- or, and, =, +, -, * : as CM.opPc counts them -/
def opN (p : Nat) : Nat := match p with | 0 => 10 | 1 => 9 | 2 => 3 | 3 => 0 | 4 => 1 | _ => 2
def rank (p : Nat) : Nat := match p with | 0 => 0 | 1 => 1 | 2 => 2 | 3 => 3 | 4 => 3 | _ => 4
def head : Line := [(0, .word [100, 101, 108, 101, 116, 101]), (1, .word [102, 114, 111, 109]), (1, .name [116]), (1, .word [119, 104, 101, 114, 101])]
def flat (p q : Nat) (x y z : B) : Line := head ++ [(1, .name x), (1, CM.opPc (opN p)), (1, .name y), (1, CM.opPc (opN q)), (1, .name z)]
def left (p q : Nat) (x y z : B) : Line := head ++ [(1, .sign [40]), (0, .name x), (1, CM.opPc (opN p)), (1, .name y), (0, .sign [41]), (1, CM.opPc (opN q)), (1, .name z)]
def right (p q : Nat) (x y z : B) : Line := head ++ [(1, .name x), (1, CM.opPc (opN p)), (1, .sign [40]), (0, .name y), (1, CM.opPc (opN q)), (1, .name z), (0, .sign [41])]
def binE (p : Nat) (a b : Ex) : Ex := PM.two (5 + opN p) a b
def exL (p q : Nat) (x y z : B) : Ex := binE q (binE p (PM.colEx [] x) (PM.colEx [] y)) (PM.colEx [] z)
def exR (p q : Nat) (x y z : B) : Ex := binE p (PM.colEx [] x) (binE q (PM.colEx [] y) (PM.colEx [] z))
def del (e : Ex) : PM.St := .mk 8 [116] [] [] [] [] [] [] [] [e] [] false []
def tk (L : Line) (n : Nat) : List LexM.Tok := Pc.toks 0 L ++ [⟨6, [], 0, n⟩]
theorem g00 (x y z : B) (n : Nat) : CM.parseL (tk (flat 0 0 x y z) n) = .inr (del (exL 0 0 x y z)) ∧ CM.parseL (tk (left 0 0 x y z) n) = .inr (del (exL 0 0 x y z)) := ⟨by kernel_rfl, by kernel_rfl⟩
theorem g01 (x y z : B) (n : Nat) : CM.parseL (tk (flat 0 1 x y z) n) = .inr (del (exR 0 1 x y z)) ∧ CM.parseL (tk (right 0 1 x y z) n) = .inr (del (exR 0 1 x y z)) := ⟨by kernel_rfl, by kernel_rfl⟩
theorem g02 (x y z : B) (n : Nat) : CM.parseL (tk (flat 0 2 x y z) n) = .inr (del (exR 0 2 x y z)) ∧ CM.parseL (tk (right 0 2 x y z) n) = .inr (del (exR 0 2 x y z)) := ⟨by kernel_rfl, by kernel_rfl⟩
theorem g03 (x y z : B) (n : Nat) : CM.parseL (tk (flat 0 3 x y z) n) = .inr (del (exR 0 3 x y z)) ∧ CM.parseL (tk (right 0 3 x y z) n) = .inr (del (exR 0 3 x y z)) := ⟨by kernel_rfl, by kernel_rfl⟩
theorem g04 (x y z : B) (n : Nat) : CM.parseL (tk (flat 0 4 x y z) n) = .inr (del (exR 0 4 x y z)) ∧ CM.parseL (tk (right 0 4 x y z) n) = .inr (del (exR 0 4 x y z)) := ⟨by kernel_rfl, by kernel_rfl⟩
theorem g05 (x y z : B) (n : Nat) : CM.parseL (tk (flat 0 5 x y z) n) = .inr (del (exR 0 5 x y z)) ∧ CM.parseL (tk (right 0 5 x y z) n) = .inr (del (exR 0 5 x y z)) := ⟨by kernel_rfl, by kernel_rfl⟩
theorem g10 (x y z : B) (n : Nat) : CM.parseL (tk (flat 1 0 x y z) n) = .inr (del (exL 1 0 x y z)) ∧ CM.parseL (tk (left 1 0 x y z) n) = .inr (del (exL 1 0 x y z)) := ⟨by kernel_rfl, by kernel_rfl⟩
theorem g11 (x y z : B) (n : Nat) : CM.parseL (tk (flat 1 1 x y z) n) = .inr (del (exL 1 1 x y z)) ∧ CM.parseL (tk (left 1 1 x y z) n) = .inr (del (exL 1 1 x y z)) := ⟨by kernel_rfl, by kernel_rfl⟩
theorem g12 (x y z : B) (n : Nat) : CM.parseL (tk (flat 1 2 x y z) n) = .inr (del (exR 1 2 x y z)) ∧ CM.parseL (tk (right 1 2 x y z) n) = .inr (del (exR 1 2 x y z)) := ⟨by kernel_rfl, by kernel_rfl⟩
theorem g13 (x y z : B) (n : Nat) : CM.parseL (tk (flat 1 3 x y z) n) = .inr (del (exR 1 3 x y z)) ∧ CM.parseL (tk (right 1 3 x y z) n) = .inr (del (exR 1 3 x y z)) := ⟨by kernel_rfl, by kernel_rfl⟩
theorem g14 (x y z : B) (n : Nat) : CM.parseL (tk (flat 1 4 x y z) n) = .inr (del (exR 1 4 x y z)) ∧ CM.parseL (tk (right 1 4 x y z) n) = .inr (del (exR 1 4 x y z)) := ⟨by kernel_rfl, by kernel_rfl⟩
theorem g15 (x y z : B) (n : Nat) : CM.parseL (tk (flat 1 5 x y z) n) = .inr (del (exR 1 5 x y z)) ∧ CM.parseL (tk (right 1 5 x y z) n) = .inr (del (exR 1 5 x y z)) := ⟨by kernel_rfl, by kernel_rfl⟩
theorem g20 (x y z : B) (n : Nat) : CM.parseL (tk (flat 2 0 x y z) n) = .inr (del (exL 2 0 x y z)) ∧ CM.parseL (tk (left 2 0 x y z) n) = .inr (del (exL 2 0 x y z)) := ⟨by kernel_rfl, by kernel_rfl⟩
theorem g21 (x y z : B) (n : Nat) : CM.parseL (tk (flat 2 1 x y z) n) = .inr (del (exL 2 1 x y z)) ∧ CM.parseL (tk (left 2 1 x y z) n) = .inr (del (exL 2 1 x y z)) := ⟨by kernel_rfl, by kernel_rfl⟩
theorem g23 (x y z : B) (n : Nat) : CM.parseL (tk (flat 2 3 x y z) n) = .inr (del (exR 2 3 x y z)) ∧ CM.parseL (tk (right 2 3 x y z) n) = .inr (del (exR 2 3 x y z)) := ⟨by kernel_rfl, by kernel_rfl⟩
theorem g24 (x y z : B) (n : Nat) : CM.parseL (tk (flat 2 4 x y z) n) = .inr (del (exR 2 4 x y z)) ∧ CM.parseL (tk (right 2 4 x y z) n) = .inr (del (exR 2 4 x y z)) := ⟨by kernel_rfl, by kernel_rfl⟩
theorem g25 (x y z : B) (n : Nat) : CM.parseL (tk (flat 2 5 x y z) n) = .inr (del (exR 2 5 x y z)) ∧ CM.parseL (tk (right 2 5 x y z) n) = .inr (del (exR 2 5 x y z)) := ⟨by kernel_rfl, by kernel_rfl⟩
theorem g30 (x y z : B) (n : Nat) : CM.parseL (tk (flat 3 0 x y z) n) = .inr (del (exL 3 0 x y z)) ∧ CM.parseL (tk (left 3 0 x y z) n) = .inr (del (exL 3 0 x y z)) := ⟨by kernel_rfl, by kernel_rfl⟩
theorem g31 (x y z : B) (n : Nat) : CM.parseL (tk (flat 3 1 x y z) n) = .inr (del (exL 3 1 x y z)) ∧ CM.parseL (tk (left 3 1 x y z) n) = .inr (del (exL 3 1 x y z)) := ⟨by kernel_rfl, by kernel_rfl⟩
theorem g32 (x y z : B) (n : Nat) : CM.parseL (tk (flat 3 2 x y z) n) = .inr (del (exL 3 2 x y z)) ∧ CM.parseL (tk (left 3 2 x y z) n) = .inr (del (exL 3 2 x y z)) := ⟨by kernel_rfl, by kernel_rfl⟩
theorem g33 (x y z : B) (n : Nat) : CM.parseL (tk (flat 3 3 x y z) n) = .inr (del (exL 3 3 x y z)) ∧ CM.parseL (tk (left 3 3 x y z) n) = .inr (del (exL 3 3 x y z)) := ⟨by kernel_rfl, by kernel_rfl⟩
theorem g34 (x y z : B) (n : Nat) : CM.parseL (tk (flat 3 4 x y z) n) = .inr (del (exL 3 4 x y z)) ∧ CM.parseL (tk (left 3 4 x y z) n) = .inr (del (exL 3 4 x y z)) := ⟨by kernel_rfl, by kernel_rfl⟩
theorem g35 (x y z : B) (n : Nat) : CM.parseL (tk (flat 3 5 x y z) n) = .inr (del (exR 3 5 x y z)) ∧ CM.parseL (tk (right 3 5 x y z) n) = .inr (del (exR 3 5 x y z)) := ⟨by kernel_rfl, by kernel_rfl⟩
theorem g40 (x y z : B) (n : Nat) : CM.parseL (tk (flat 4 0 x y z) n) = .inr (del (exL 4 0 x y z)) ∧ CM.parseL (tk (left 4 0 x y z) n) = .inr (del (exL 4 0 x y z)) := ⟨by kernel_rfl, by kernel_rfl⟩
theorem g41 (x y z : B) (n : Nat) : CM.parseL (tk (flat 4 1 x y z) n) = .inr (del (exL 4 1 x y z)) ∧ CM.parseL (tk (left 4 1 x y z) n) = .inr (del (exL 4 1 x y z)) := ⟨by kernel_rfl, by kernel_rfl⟩
theorem g42 (x y z : B) (n : Nat) : CM.parseL (tk (flat 4 2 x y z) n) = .inr (del (exL 4 2 x y z)) ∧ CM.parseL (tk (left 4 2 x y z) n) = .inr (del (exL 4 2 x y z)) := ⟨by kernel_rfl, by kernel_rfl⟩
theorem g43 (x y z : B) (n : Nat) : CM.parseL (tk (flat 4 3 x y z) n) = .inr (del (exL 4 3 x y z)) ∧ CM.parseL (tk (left 4 3 x y z) n) = .inr (del (exL 4 3 x y z)) := ⟨by kernel_rfl, by kernel_rfl⟩
theorem g44 (x y z : B) (n : Nat) : CM.parseL (tk (flat 4 4 x y z) n) = .inr (del (exL 4 4 x y z)) ∧ CM.parseL (tk (left 4 4 x y z) n) = .inr (del (exL 4 4 x y z)) := ⟨by kernel_rfl, by kernel_rfl⟩
theorem g45 (x y z : B) (n : Nat) : CM.parseL (tk (flat 4 5 x y z) n) = .inr (del (exR 4 5 x y z)) ∧ CM.parseL (tk (right 4 5 x y z) n) = .inr (del (exR 4 5 x y z)) := ⟨by kernel_rfl, by kernel_rfl⟩
theorem g50 (x y z : B) (n : Nat) : CM.parseL (tk (flat 5 0 x y z) n) = .inr (del (exL 5 0 x y z)) ∧ CM.parseL (tk (left 5 0 x y z) n) = .inr (del (exL 5 0 x y z)) := ⟨by kernel_rfl, by kernel_rfl⟩
theorem g51 (x y z : B) (n : Nat) : CM.parseL (tk (flat 5 1 x y z) n) = .inr (del (exL 5 1 x y z)) ∧ CM.parseL (tk (left 5 1 x y z) n) = .inr (del (exL 5 1 x y z)) := ⟨by kernel_rfl, by kernel_rfl⟩
theorem g52 (x y z : B) (n : Nat) : CM.parseL (tk (flat 5 2 x y z) n) = .inr (del (exL 5 2 x y z)) ∧ CM.parseL (tk (left 5 2 x y z) n) = .inr (del (exL 5 2 x y z)) := ⟨by kernel_rfl, by kernel_rfl⟩
theorem g53 (x y z : B) (n : Nat) : CM.parseL (tk (flat 5 3 x y z) n) = .inr (del (exL 5 3 x y z)) ∧ CM.parseL (tk (left 5 3 x y z) n) = .inr (del (exL 5 3 x y z)) := ⟨by kernel_rfl, by kernel_rfl⟩
theorem g54 (x y z : B) (n : Nat) : CM.parseL (tk (flat 5 4 x y z) n) = .inr (del (exL 5 4 x y z)) ∧ CM.parseL (tk (left 5 4 x y z) n) = .inr (del (exL 5 4 x y z)) := ⟨by kernel_rfl, by kernel_rfl⟩
theorem g55 (x y z : B) (n : Nat) : CM.parseL (tk (flat 5 5 x y z) n) = .inr (del (exL 5 5 x y z)) ∧ CM.parseL (tk (left 5 5 x y z) n) = .inr (del (exL 5 5 x y z)) := ⟨by kernel_rfl, by kernel_rfl⟩
theorem left_ok {p q : Nat} (hp : p < 6) (hq : q < 6) (h : rank q ≤ rank p) (h2 : ¬ (p = 2 ∧ q = 2)) (x y z : B) (n : Nat) : CM.parseL (tk (flat p q x y z) n) = .inr (del (exL p q x y z)) ∧ CM.parseL (tk (left p q x y z) n) = .inr (del (exL p q x y z)) := by
  rcases (by omega : p = 0 ∨ p = 1 ∨ p = 2 ∨ p = 3 ∨ p = 4 ∨ p = 5) with rfl | rfl | rfl | rfl | rfl | rfl
  · rcases (by omega : q = 0 ∨ q = 1 ∨ q = 2 ∨ q = 3 ∨ q = 4 ∨ q = 5) with rfl | rfl | rfl | rfl | rfl | rfl
    · exact g00 x y z n
    · exact absurd h (by decide)
    · exact absurd h (by decide)
    · exact absurd h (by decide)
    · exact absurd h (by decide)
    · exact absurd h (by decide)
  · rcases (by omega : q = 0 ∨ q = 1 ∨ q = 2 ∨ q = 3 ∨ q = 4 ∨ q = 5) with rfl | rfl | rfl | rfl | rfl | rfl
    · exact g10 x y z n
    · exact g11 x y z n
    · exact absurd h (by decide)
    · exact absurd h (by decide)
    · exact absurd h (by decide)
    · exact absurd h (by decide)
  · rcases (by omega : q = 0 ∨ q = 1 ∨ q = 2 ∨ q = 3 ∨ q = 4 ∨ q = 5) with rfl | rfl | rfl | rfl | rfl | rfl
    · exact g20 x y z n
    · exact g21 x y z n
    · exact absurd ⟨rfl, rfl⟩ h2
    · exact absurd h (by decide)
    · exact absurd h (by decide)
    · exact absurd h (by decide)
  · rcases (by omega : q = 0 ∨ q = 1 ∨ q = 2 ∨ q = 3 ∨ q = 4 ∨ q = 5) with rfl | rfl | rfl | rfl | rfl | rfl
    · exact g30 x y z n
    · exact g31 x y z n
    · exact g32 x y z n
    · exact g33 x y z n
    · exact g34 x y z n
    · exact absurd h (by decide)
  · rcases (by omega : q = 0 ∨ q = 1 ∨ q = 2 ∨ q = 3 ∨ q = 4 ∨ q = 5) with rfl | rfl | rfl | rfl | rfl | rfl
    · exact g40 x y z n
    · exact g41 x y z n
    · exact g42 x y z n
    · exact g43 x y z n
    · exact g44 x y z n
    · exact absurd h (by decide)
  · rcases (by omega : q = 0 ∨ q = 1 ∨ q = 2 ∨ q = 3 ∨ q = 4 ∨ q = 5) with rfl | rfl | rfl | rfl | rfl | rfl
    · exact g50 x y z n
    · exact g51 x y z n
    · exact g52 x y z n
    · exact g53 x y z n
    · exact g54 x y z n
    · exact g55 x y z n
theorem right_ok {p q : Nat} (hp : p < 6) (hq : q < 6) (h : rank p < rank q) (x y z : B) (n : Nat) : CM.parseL (tk (flat p q x y z) n) = .inr (del (exR p q x y z)) ∧ CM.parseL (tk (right p q x y z) n) = .inr (del (exR p q x y z)) := by
  rcases (by omega : p = 0 ∨ p = 1 ∨ p = 2 ∨ p = 3 ∨ p = 4 ∨ p = 5) with rfl | rfl | rfl | rfl | rfl | rfl
  · rcases (by omega : q = 0 ∨ q = 1 ∨ q = 2 ∨ q = 3 ∨ q = 4 ∨ q = 5) with rfl | rfl | rfl | rfl | rfl | rfl
    · exact absurd h (by decide)
    · exact g01 x y z n
    · exact g02 x y z n
    · exact g03 x y z n
    · exact g04 x y z n
    · exact g05 x y z n
  · rcases (by omega : q = 0 ∨ q = 1 ∨ q = 2 ∨ q = 3 ∨ q = 4 ∨ q = 5) with rfl | rfl | rfl | rfl | rfl | rfl
    · exact absurd h (by decide)
    · exact absurd h (by decide)
    · exact g12 x y z n
    · exact g13 x y z n
    · exact g14 x y z n
    · exact g15 x y z n
  · rcases (by omega : q = 0 ∨ q = 1 ∨ q = 2 ∨ q = 3 ∨ q = 4 ∨ q = 5) with rfl | rfl | rfl | rfl | rfl | rfl
    · exact absurd h (by decide)
    · exact absurd h (by decide)
    · exact absurd h (by decide)
    · exact g23 x y z n
    · exact g24 x y z n
    · exact g25 x y z n
  · rcases (by omega : q = 0 ∨ q = 1 ∨ q = 2 ∨ q = 3 ∨ q = 4 ∨ q = 5) with rfl | rfl | rfl | rfl | rfl | rfl
    · exact absurd h (by decide)
    · exact absurd h (by decide)
    · exact absurd h (by decide)
    · exact absurd h (by decide)
    · exact absurd h (by decide)
    · exact g35 x y z n
  · rcases (by omega : q = 0 ∨ q = 1 ∨ q = 2 ∨ q = 3 ∨ q = 4 ∨ q = 5) with rfl | rfl | rfl | rfl | rfl | rfl
    · exact absurd h (by decide)
    · exact absurd h (by decide)
    · exact absurd h (by decide)
    · exact absurd h (by decide)
    · exact absurd h (by decide)
    · exact g45 x y z n
  · rcases (by omega : q = 0 ∨ q = 1 ∨ q = 2 ∨ q = 3 ∨ q = 4 ∨ q = 5) with rfl | rfl | rfl | rfl | rfl | rfl
    · exact absurd h (by decide)
    · exact absurd h (by decide)
    · exact absurd h (by decide)
    · exact absurd h (by decide)
    · exact absurd h (by decide)
    · exact absurd h (by decide)
theorem none_at (x y z : B) (n : Nat) : CM.parseL (tk (flat 2 2 x y z) n) = .inl ((((tk (flat 2 2 x y z) 0).getD 7 PM.zeroTok).pos : Int), 5) := by kernel_rfl
/-- a letter and a digit -/
def nm (c : UInt8) (d : Nat) : B := [c, UInt8.ofNat (48 + d)]
theorem nm_ok {d : Nat} (h : d < 10) : Pc.okName (nm 97 d) = true ∧ Pc.okName (nm 98 d) = true ∧ Pc.okName (nm 99 d) = true := by
  have key : ((List.range 10).all fun d => Pc.okName (nm 97 d) && Pc.okName (nm 98 d) && Pc.okName (nm 99 d)) = true := by decide +kernel
  have := List.all_eq_true.1 key d (by simpa using h)
  simpa [and_assoc] using this
end Gp
end Go.Proofs.YthmdgiodhjlbcaaDoor
