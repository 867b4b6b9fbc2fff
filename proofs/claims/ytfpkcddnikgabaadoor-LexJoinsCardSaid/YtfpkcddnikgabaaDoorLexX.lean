/- lex: texts with a space between them. No program in sight. -/
import Derived.Test.YtfpkcddnikgabaaDoorLexJ
namespace Go.Proofs.YtfpkcddnikgabaaDoor
open Go.RowKit

namespace Lx
open LexM (Tok)

/-- the first of two texts is read as it was, or its reader has come to its end -/
def Joins {α : Type} (n : Nat) (x y : (Nat × Int) ⊕ α) : Prop := x = y ∨ ∃ e, x = .inl (n, e)

theorem txt_joins (T : List UInt8) : ∀ (n : Nat) (r : List UInt8) (p : Nat), r.length ≤ n → LexM.txt p (r ++ 32 :: T) = LexM.txt p r ∨ LexM.txt p r = .inl (p + r.length)
  | 0, r, p, h => by
    obtain rfl := List.eq_nil_of_length_eq_zero (by omega : r.length = 0)
    exact .inr rfl
  | n + 1, r, p, h => by
    cases r with
    | nil => exact .inr rfl
    | cons c r =>
      simp only [List.length_cons] at h
      rw [List.cons_append]
      unfold LexM.txt
      by_cases h1 : c.toNat < 32 ∨ 126 < c.toNat
      · rw [if_pos h1, if_pos h1]; exact .inl rfl
      · rw [if_neg h1, if_neg h1]
        by_cases h2 : c = 39
        · rw [if_pos h2, if_pos h2]
          cases r with
          | nil => exact .inl rfl
          | cons d r' =>
            simp only [List.cons_append]
            by_cases h3 : d = 39
            · rw [if_pos h3, if_pos h3]
              simp only [List.length_cons] at h
              rcases txt_joins T n r' (p + 2) (by omega) with h4 | h4
              · rw [h4]; exact .inl rfl
              · right
                rw [h4]
                simp only [List.length_cons, Sum.inl.injEq]
                omega
            · rw [if_neg h3, if_neg h3]; exact .inl rfl
        · rw [if_neg h2, if_neg h2]
          rcases txt_joins T n r (p + 1) (by omega) with h4 | h4
          · rw [h4]; exact .inl rfl
          · right
            rw [h4]
            simp only [List.length_cons, Sum.inl.injEq]
            omega
theorem takeWhile_joins {f : UInt8 → Bool} (h32 : f 32 = false) (s T : List UInt8) : (s ++ 32 :: T).takeWhile f = s.takeWhile f := by
  induction s with
  | nil => rw [List.nil_append, List.takeWhile_cons, if_neg (by simp [h32])]; rfl
  | cons c r ih =>
    rw [List.cons_append, List.takeWhile_cons, List.takeWhile_cons, ih]
theorem head_joins (s T : List UInt8) (k : Nat) (hk : k ≤ s.length) : LexM.letter (((s ++ 32 :: T).drop k).headD 0) = LexM.letter ((s.drop k).headD 0) := by
  rcases Nat.lt_or_ge k s.length with h | h
  · rw [List.drop_append_of_le_length hk, List.drop_eq_getElem_cons h]; rfl
  · rw [List.drop_append_of_le_length hk, List.drop_eq_nil_of_le h]
    show LexM.letter 32 = LexM.letter 0
    decide

theorem tok_joins (p : Nat) (s T : List UInt8) (hs : s ≠ []) : Joins (p + s.length) (LexM.tok1 p s) (LexM.tok1 p (s ++ 32 :: T)) := by
  cases s with
  | nil => exact absurd rfl hs
  | cons c r =>
    have tw1 := takeWhile_joins (f := LexM.nameByte) (by decide) (c :: r) T
    have tw2 := takeWhile_joins (f := LexM.dig) (by decide) (c :: r) T
    have hd := head_joins (c :: r) T ((c :: r).takeWhile LexM.dig).length (LexM.takeWhile_len _ _)
    rw [List.cons_append] at tw1 tw2 hd
    rw [List.cons_append]
    simp only [LexM.tok1]
    by_cases h1 : LexM.letter c = true
    · rw [if_pos h1, if_pos h1, tw1]; exact .inl rfl
    · rw [if_neg h1, if_neg h1]
      by_cases h2 : LexM.dig c = true
      · rw [if_pos h2, if_pos h2, tw2, hd]; exact .inl rfl
      · rw [if_neg h2, if_neg h2]
        by_cases h3 : c = 39
        · rw [if_pos h3, if_pos h3]
          rcases txt_joins T r.length r (p + 1) (Nat.le_refl _) with h4 | h4
          · rw [h4]; exact .inl rfl
          · right
            rw [h4]
            exact ⟨4, by simp only [List.length_cons, Sum.inl.injEq, Prod.mk.injEq, and_true]; omega⟩
        · rw [if_neg h3, if_neg h3]
          cases r with
          | nil =>
            left
            by_cases h5 : LexM.signs.contains c = true
            · rw [if_pos h5, if_pos h5]
              simp
            · rw [if_neg h5, if_neg h5]
          | cons d r' => left; rfl

theorem at0_joins {S T : List UInt8} {p : Nat} (h : p < S.length) : at0 (S ++ 32 :: T) p = at0 S p := by
  rw [at0_lt (by rw [List.length_append]; omega), at0_lt h, List.getElem_append_left h]
theorem drop_joins {S T : List UInt8} {p : Nat} (h : p ≤ S.length) : (S ++ 32 :: T).drop p = S.drop p ++ 32 :: T := List.drop_append_of_le_length h

/-- the words of both, from a place in the first -/
theorem LS_joins (S T : List UInt8) : ∀ (n p : Nat), p ≤ S.length → S.length - p = n →
    (∀ l, LS S p = .inr l → LS (S ++ 32 :: T) p = pre l.dropLast (LS (S ++ 32 :: T) (S.length + 1))) ∧ (∀ e, LS S p = .inl e → e.1 = S.length ∨ LS (S ++ 32 :: T) p = .inl e) := by
  intro n
  induction n using Nat.strongRecOn with
  | ind n ih =>
    intro p hp hn
    have hU : ∀ {q}, q < S.length → q < (S ++ 32 :: T).length := fun h => by rw [List.length_append]; omega
    by_cases hlt : p < S.length
    · by_cases hb : at0 S p = 32
      · have hb' : at0 (S ++ 32 :: T) p = 32 := (at0_joins hlt).trans hb
        rw [LS_blank hlt hb, LS_blank (hU hlt) hb']
        exact ih (S.length - (p + 1)) (by omega) (p + 1) (by omega) rfl
      · have hb' : at0 (S ++ 32 :: T) p ≠ 32 := by rw [at0_joins hlt]; exact hb
        rw [LS_tok hlt hb, LS_tok (hU hlt) hb', drop_joins hp]
        have hne : S.drop p ≠ [] := by
          intro h
          have := congrArg List.length h
          rw [List.length_drop, List.length_nil] at this
          omega
        have hlen : p + (S.drop p).length = S.length := by rw [List.length_drop]; omega
        rcases tok_joins p (S.drop p) T hne with h1 | ⟨x, h1⟩
        · rw [← h1]
          cases ht : LexM.tok1 p (S.drop p) with
          | inl e => exact ⟨fun l h => (by simp only [reduceCtorEq] at h), fun e' h => .inr h⟩
          | inr y =>
            obtain ⟨t, q⟩ := y
            obtain ⟨g1, g2, _⟩ := tok_range hlt ht
            obtain ⟨i1, i2⟩ := ih (S.length - q) (by omega) q g2 rfl
            simp only []
            cases hq : LS S q with
            | inl e =>
              refine ⟨fun l h => (by simp only [reduceCtorEq] at h), fun e' h => ?_⟩
              simp only [Sum.inl.injEq] at h
              subst h
              rcases i2 e hq with h2 | h2
              · exact .inl h2
              · right; rw [h2]
            | inr l' =>
              refine ⟨fun l h => ?_, fun e h => (by simp only [reduceCtorEq] at h)⟩
              simp only [Sum.inr.injEq] at h
              subst h
              rw [i1 l' hq, List.dropLast_cons_of_ne_nil (LS_ne S _ q l' g2 rfl hq).1]
              cases LS (S ++ 32 :: T) (S.length + 1) <;> rfl
        · rw [hlen] at h1
          rw [h1]
          refine ⟨fun l h => (by simp only [reduceCtorEq] at h), fun e h => ?_⟩
          simp only [Sum.inl.injEq] at h
          subst h
          exact .inl rfl
    · obtain rfl : p = S.length := by omega
      rw [LS_end]
      refine ⟨fun l h => ?_, fun e h => (by simp only [reduceCtorEq] at h)⟩
      simp only [Sum.inr.injEq] at h
      subst h
      have hb : at0 (S ++ 32 :: T) S.length = 32 := by
        rw [at0_lt (by simp), List.getElem_append_right (Nat.le_refl _)]
        simp
      rw [LS_blank (by simp) hb]
      exact pre_nil _

/-! ### the second text, further on -/
def shT (k : Nat) (t : Tok) : Tok := { t with pos := t.pos + k }
def shTok (k : Nat) : (Nat × Int) ⊕ (Tok × Nat) → (Nat × Int) ⊕ (Tok × Nat)
  | .inl (q, e) => .inl (q + k, e)
  | .inr (t, q) => .inr (shT k t, q + k)
def shL (k : Nat) : (Nat × Int) ⊕ List Tok → (Nat × Int) ⊕ List Tok
  | .inl (q, e) => .inl (q + k, e)
  | .inr l => .inr (l.map (shT k))
theorem txt_shift (k : Nat) : ∀ (n : Nat) (r : List UInt8) (p : Nat), r.length ≤ n → LexM.txt (p + k) r = (match LexM.txt p r with | .inl q => .inl (q + k) | .inr (l, q) => .inr (l, q + k))
  | 0, r, p, h => by
    obtain rfl := List.eq_nil_of_length_eq_zero (by omega : r.length = 0)
    rfl
  | n + 1, r, p, h => by
    cases r with
    | nil => rfl
    | cons c r =>
      simp only [List.length_cons] at h
      unfold LexM.txt
      by_cases h1 : c.toNat < 32 ∨ 126 < c.toNat
      · rw [if_pos h1, if_pos h1]
      · rw [if_neg h1, if_neg h1]
        by_cases h2 : c = 39
        · rw [if_pos h2, if_pos h2]
          cases r with
          | nil => simp only [Nat.add_right_comm]
          | cons d r' =>
            by_cases h3 : d = 39
            · simp only [if_pos h3]
              simp only [List.length_cons] at h
              rw [show p + k + 2 = p + 2 + k by omega, txt_shift k n r' (p + 2) (by omega)]
              rcases LexM.txt (p + 2) r' with q | ⟨l, q⟩ <;> rfl
            · simp only [if_neg h3, Nat.add_right_comm]
        · rw [if_neg h2, if_neg h2, show p + k + 1 = p + 1 + k by omega, txt_shift k n r (p + 1) (by omega)]
          rcases LexM.txt (p + 1) r with q | ⟨l, q⟩ <;> rfl
theorem tok_shift (p k : Nat) (s : List UInt8) : LexM.tok1 (p + k) s = shTok k (LexM.tok1 p s) := by
  cases s with
  | nil => rfl
  | cons c r =>
    have e1 : ∀ j, p + k + j = p + j + k := fun j => by omega
    simp only [LexM.tok1, e1]
    by_cases h1 : LexM.letter c = true
    · simp only [if_pos h1]
      split
      · rfl
      · split <;> rfl
    · simp only [if_neg h1]
      by_cases h2 : LexM.dig c = true
      · simp only [if_pos h2]
        split
        · rfl
        · split <;> rfl
      · simp only [if_neg h2]
        by_cases h3 : c = 39
        · simp only [if_pos h3]
          rw [txt_shift k r.length r (p + 1) (Nat.le_refl _)]
          rcases LexM.txt (p + 1) r with q | ⟨l, q⟩
          · rfl
          · simp only []
            split <;> rfl
        · simp only [if_neg h3]
          split
          · split <;> rfl
          · rfl
theorem drop_second (S T : List UInt8) (p : Nat) : (S ++ 32 :: T).drop (p + (S.length + 1)) = T.drop p := by
  rw [show S ++ 32 :: T = (S ++ [32]) ++ T by simp, Nat.add_comm p, ← List.drop_drop]
  rw [show S.length + 1 = (S ++ [32]).length by simp, List.drop_left]
theorem at0_second (S T : List UInt8) (p : Nat) : at0 (S ++ 32 :: T) (p + (S.length + 1)) = at0 T p := by
  unfold at0; rw [drop_second]
theorem LS_second (S T : List UInt8) : ∀ (n p : Nat), p ≤ T.length → T.length - p = n → LS (S ++ 32 :: T) (p + (S.length + 1)) = shL (S.length + 1) (LS T p) := by
  have hlen : (S ++ 32 :: T).length = T.length + (S.length + 1) := by simp; omega
  intro n
  induction n using Nat.strongRecOn with
  | ind n ih =>
    intro p hp hn
    by_cases hlt : p < T.length
    · by_cases hb : at0 T p = 32
      · rw [LS_blank hlt hb, LS_blank (by omega) ((at0_second S T p).trans hb), show p + (S.length + 1) + 1 = p + 1 + (S.length + 1) by omega]
        exact ih (T.length - (p + 1)) (by omega) (p + 1) (by omega) rfl
      · rw [LS_tok hlt hb, LS_tok (by omega) (by rw [at0_second]; exact hb), drop_second, tok_shift]
        cases ht : LexM.tok1 p (T.drop p) with
        | inl e => rfl
        | inr y =>
          obtain ⟨t, q⟩ := y
          obtain ⟨g1, g2, _⟩ := tok_range hlt ht
          simp only [shTok]
          rw [ih (T.length - q) (by omega) q g2 rfl]
          cases LS T q with
          | inl e => rfl
          | inr l => rfl
    · obtain rfl : p = T.length := by omega
      rw [LS_end, show T.length + (S.length + 1) = (S ++ 32 :: T).length by omega, LS_end]
      simp only [shL, List.map_cons, List.map_nil, shT, hlen]

theorem lex_LS {S : List UInt8} (h : S.length ≤ 400) : LexM.lex S = LS S 0 := if_neg (by omega)
/-- both -/
theorem lex_both {S T : List UInt8} (h : S.length + T.length < 400) {la lb : List Tok} (ha : LexM.lex S = .inr la) (hb : LexM.lex T = .inr lb) : LexM.lex (S ++ 32 :: T) = .inr (la.dropLast ++ lb.map (shT (S.length + 1))) := by
  rw [lex_LS (by omega)] at ha hb
  have h2 := LS_second S T _ 0 (Nat.zero_le _) rfl
  rw [Nat.zero_add, hb] at h2
  rw [lex_LS (by simp; omega), (LS_joins S T _ 0 (Nat.zero_le _) rfl).1 la ha, h2]
  rfl
theorem lex_first {S T : List UInt8} (h : S.length + T.length < 400) {q : Nat} {x : Int} (ha : LexM.lex S = .inl (q, x)) : q = S.length ∨ LexM.lex (S ++ 32 :: T) = .inl (q, x) := by
  rw [lex_LS (by omega)] at ha
  rw [lex_LS (by simp; omega)]
  exact (LS_joins S T _ 0 (Nat.zero_le _) rfl).2 (q, x) ha
theorem lex_second {S T : List UInt8} (h : S.length + T.length < 400) {la : List Tok} {q : Nat} {x : Int} (ha : LexM.lex S = .inr la) (hb : LexM.lex T = .inl (q, x)) : LexM.lex (S ++ 32 :: T) = .inl (q + (S.length + 1), x) := by
  rw [lex_LS (by omega)] at ha hb
  have h2 := LS_second S T _ 0 (Nat.zero_le _) rfl
  rw [Nat.zero_add, hb] at h2
  rw [lex_LS (by simp; omega), (LS_joins S T _ 0 (Nat.zero_le _) rfl).1 la ha, h2]
  rfl
end Lx
end Go.Proofs.YtfpkcddnikgabaaDoor
