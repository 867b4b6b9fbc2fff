/- lex: the words of a text, place by place. No program in sight. -/
import Derived.Test.YtpmgecnkcllneaaDoorLexF
namespace Go.Proofs.YtpmgecnkcllneaaDoor
open Go.RowKit

namespace Lx
open LexM (Tok)

/-- the words from place p on -/
def LS (S : List UInt8) (p : Nat) : (Nat × Int) ⊕ List Tok := LexM.lexN S (S.length + 1) p

theorem lexN_fuel (S : List UInt8) : ∀ (n m p : Nat), p ≤ S.length → S.length < p + n → S.length < p + m → LexM.lexN S n p = LexM.lexN S m p
  | 0, m, p, h, h1, h2 => by omega
  | n + 1, 0, p, h, h1, h2 => by omega
  | n + 1, m + 1, p, h, h1, h2 => by
    unfold LexM.lexN
    by_cases hp : p < S.length
    · rw [List.drop_eq_getElem_cons hp]
      simp only []
      split
      · exact lexN_fuel S n m (p + 1) (by omega) (by omega) (by omega)
      · cases ht : LexM.tok1 p (S[p] :: S.drop (p + 1)) with
        | inl e => rfl
        | inr x =>
          obtain ⟨t, q⟩ := x
          obtain ⟨h3, h4, _⟩ := LexM.tok1_next ht
          rw [← List.drop_eq_getElem_cons hp, List.length_drop] at h4
          simp only []
          rw [lexN_fuel S n m q (by omega) (by omega) (by omega)]
    · rw [List.drop_eq_nil_of_le (by omega)]

theorem LS_end (S : List UInt8) : LS S S.length = .inr [⟨6, [], 0, S.length⟩] := by
  unfold LS LexM.lexN
  rw [List.drop_eq_nil_of_le (Nat.le_refl _)]
theorem LS_blank {S : List UInt8} {p : Nat} (hp : p < S.length) (h : at0 S p = 32) : LS S p = LS S (p + 1) := by
  rw [at0_lt hp] at h
  unfold LS
  rw [LexM.lexN, List.drop_eq_getElem_cons hp]
  simp only [h, if_true]
  exact lexN_fuel S _ _ _ (by omega) (by omega) (by omega)
theorem LS_tok {S : List UInt8} {p : Nat} (hp : p < S.length) (h : at0 S p ≠ 32) :
    LS S p = (match LexM.tok1 p (S.drop p) with | .inl e => .inl e | .inr (t, q) => match LS S q with | .inl e => .inl e | .inr l => .inr (t :: l)) := by
  rw [at0_lt hp] at h
  conv => lhs; rw [LS, LexM.lexN, List.drop_eq_getElem_cons hp]
  rw [List.drop_eq_getElem_cons hp]
  simp only [if_neg h]
  cases ht : LexM.tok1 p (S[p] :: S.drop (p + 1)) with
  | inl e => rfl
  | inr x =>
    obtain ⟨t, q⟩ := x
    obtain ⟨h3, h4, _⟩ := LexM.tok1_next ht
    rw [← List.drop_eq_getElem_cons hp, List.length_drop] at h4
    simp only []
    rw [lexN_fuel S S.length (S.length + 1) q (by omega) (by omega) (by omega)]
    rfl
theorem tok_range {S : List UInt8} {p q : Nat} {t : Tok} (hp : p < S.length) (h : LexM.tok1 p (S.drop p) = .inr (t, q)) : p < q ∧ q ≤ S.length ∧ t.pos = p := by
  obtain ⟨h3, h4, h5⟩ := LexM.tok1_next h
  rw [List.length_drop] at h4
  exact ⟨h3, by omega, h5⟩

theorem LS_blanks (S : List UInt8) : ∀ (n p : Nat), p ≤ S.length → S.length - p = n → LS S p = LS S (p + ((S.drop p).takeWhile blank).length) ∧ p + ((S.drop p).takeWhile blank).length ≤ S.length ∧
    (p + ((S.drop p).takeWhile blank).length < S.length → at0 S (p + ((S.drop p).takeWhile blank).length) ≠ 32)
  | 0, p, hp, hn => by
    rw [List.drop_eq_nil_of_le (by omega)]
    simp only [List.takeWhile_nil, List.length_nil, Nat.add_zero]
    exact ⟨trivial, hp, fun h => absurd h (by omega)⟩
  | n + 1, p, hp, hn => by
    have hlt : p < S.length := by omega
    rw [List.drop_eq_getElem_cons hlt, List.takeWhile_cons]
    by_cases hb : S[p] = 32
    · rw [if_pos (by simp [blank, hb]), List.length_cons, ← Nat.add_assoc, Nat.add_right_comm]
      obtain ⟨h1, h2, h3⟩ := LS_blanks S n (p + 1) (by omega) (by omega)
      rw [LS_blank hlt (by rw [at0_lt hlt]; exact hb)]
      exact ⟨h1, h2, h3⟩
    · rw [if_neg (by simp [blank, hb]), List.length_nil, Nat.add_zero]
      exact ⟨rfl, hp, fun _ => by rw [at0_lt hlt]; exact hb⟩

/-- what stands ahead of some words -/
def pre (acc : List Tok) : (Nat × Int) ⊕ List Tok → (Nat × Int) ⊕ List Tok
  | .inl e => .inl e
  | .inr l => .inr (acc ++ l)
theorem pre_nil (x : (Nat × Int) ⊕ List Tok) : x = pre [] x := by cases x <;> rfl
theorem pre_tok {S : List UInt8} {p q : Nat} {t : Tok} (acc : List Tok) (hp : p < S.length) (h : at0 S p ≠ 32) (ht : LexM.tok1 p (S.drop p) = .inr (t, q)) : pre acc (LS S p) = pre (acc ++ [t]) (LS S q) := by
  rw [LS_tok hp h, ht]
  simp only []
  cases LS S q with
  | inl e => rfl
  | inr l => simp [pre]
theorem pre_bad {S : List UInt8} {p : Nat} {e : Nat × Int} (acc : List Tok) (hp : p < S.length) (h : at0 S p ≠ 32) (ht : LexM.tok1 p (S.drop p) = .inl e) : pre acc (LS S p) = .inl e := by
  rw [LS_tok hp h, ht]
  rfl
theorem pre_end (S : List UInt8) (acc : List Tok) : pre acc (LS S S.length) = .inr (acc ++ [⟨6, [], 0, S.length⟩]) := by
  rw [LS_end]; rfl
end Lx
end Go.Proofs.YtpmgecnkcllneaaDoor
