/- lex: what a text's words are like. No program in sight. -/
import Derived.Test.YtpmgecnkcllneaaDoorLexI
namespace Go.Proofs.YtpmgecnkcllneaaDoor
open Go.RowKit

namespace Lx
open LexM (Tok)

theorem LS_err (S : List UInt8) : ∀ (n p q : Nat) (x : Int), p ≤ S.length → S.length - p = n → LS S p = .inl (q, x) → x ≠ 0 := by
  intro n
  induction n using Nat.strongRecOn with
  | ind n ih =>
    intro p q x hp hn h
    by_cases hlt : p < S.length
    · by_cases hb : at0 S p = 32
      · rw [LS_blank hlt hb] at h
        exact ih (S.length - (p + 1)) (by omega) (p + 1) q x (by omega) rfl h
      · rw [LS_tok hlt hb] at h
        cases ht : LexM.tok1 p (S.drop p) with
        | inl e =>
          rw [ht] at h
          obtain ⟨q', x'⟩ := e
          simp only [Sum.inl.injEq, Prod.mk.injEq] at h
          obtain ⟨rfl, rfl⟩ := h
          exact tok_err hlt ht
        | inr y =>
          obtain ⟨t, r⟩ := y
          obtain ⟨h1, h2, _⟩ := tok_range hlt ht
          rw [ht] at h
          simp only [] at h
          cases hr : LS S r with
          | inl e =>
            rw [hr] at h
            simp only [Sum.inl.injEq] at h
            subst h
            exact ih (S.length - r) (by omega) r q x h2 rfl hr
          | inr l => rw [hr] at h; simp only [reduceCtorEq] at h
    · obtain rfl : p = S.length := by omega
      rw [LS_end] at h
      simp only [reduceCtorEq] at h
theorem LS_ne (S : List UInt8) : ∀ (n p : Nat) (l : List Tok), p ≤ S.length → S.length - p = n → LS S p = .inr l → l ≠ [] ∧ l.length ≤ S.length + 1 - p := by
  intro n
  induction n using Nat.strongRecOn with
  | ind n ih =>
    intro p l hp hn h
    by_cases hlt : p < S.length
    · by_cases hb : at0 S p = 32
      · rw [LS_blank hlt hb] at h
        obtain ⟨i1, i2⟩ := ih (S.length - (p + 1)) (by omega) (p + 1) l (by omega) rfl h
        exact ⟨i1, by omega⟩
      · rw [LS_tok hlt hb] at h
        cases ht : LexM.tok1 p (S.drop p) with
        | inl e => rw [ht] at h; simp only [reduceCtorEq] at h
        | inr y =>
          obtain ⟨t, r⟩ := y
          obtain ⟨h1, h2, _⟩ := tok_range hlt ht
          rw [ht] at h
          simp only [] at h
          cases hr : LS S r with
          | inl e => rw [hr] at h; simp only [reduceCtorEq] at h
          | inr l' =>
            rw [hr] at h
            simp only [Sum.inr.injEq] at h
            obtain ⟨i1, i2⟩ := ih (S.length - r) (by omega) r l' h2 rfl hr
            subst h
            exact ⟨by simp, by rw [List.length_cons]; omega⟩
    · obtain rfl : p = S.length := by omega
      rw [LS_end] at h
      simp only [Sum.inr.injEq] at h
      subst h
      exact ⟨by simp, by rw [List.length_singleton]; omega⟩
theorem lex_err {S : List UInt8} {q : Nat} {x : Int} (h : LexM.lex S = .inl (q, x)) : x ≠ 0 := by
  unfold LexM.lex at h
  split at h
  · simp only [Sum.inl.injEq, Prod.mk.injEq] at h
    obtain ⟨_, rfl⟩ := h
    decide
  · exact LS_err S _ 0 q x (Nat.zero_le _) rfl h
theorem lex_ne {S : List UInt8} {l : List Tok} (h : LexM.lex S = .inr l) : l ≠ [] ∧ l.length ≤ 401 := by
  unfold LexM.lex at h
  split at h
  · simp only [reduceCtorEq] at h
  · obtain ⟨h1, h2⟩ := LS_ne S _ 0 l (Nat.zero_le _) rfl h
    exact ⟨h1, by omega⟩

/-- Lex, where it is told what it comes to: no words -/
theorem lex_bad {S : List UInt8} {q : Nat} {x : Int} {w w' : World} {e : Ending} (h : LexM.lex S = .inl (q, x)) (hr : LxR w w' e (LexM.lex S)) : e = .returned (.tuple #[.slice none 0 0, .int .i64 q, .int .i64 x]) ∧ Fr [] w w' := by
  rw [h] at hr
  exact hr
/-- the words, and where they lie -/
theorem lex_good {S : List UInt8} {l : List Tok} {w w' : World} {e : Ending} (h : LexM.lex S = .inr l) (hr : LxR w w' e (LexM.lex S)) : ∃ g off cap, e = .returned (.tuple #[.slice (some ⟨g, off, none⟩) l.length cap, .int .i64 0, .int .i64 0]) ∧ l.length ≤ cap ∧ w.heap.size < g ∧ g < w'.heap.size ∧
    Row w' 67 4 (.slice (some ⟨g, off, none⟩) l.length cap) l.length (toksC l) ∧ (∀ j u, (toksC l)[j]? = some u → w'.cell? ⟨g, off + j, none⟩ = some u) ∧ Fr [] w w' := by
  have hne := (lex_ne h).1
  rw [h] at hr
  obtain ⟨v, rfl, hrow, hown, hf⟩ := hr
  obtain ⟨g, off, cap, rfl, hc, hcell⟩ := toks_at hrow hne
  refine ⟨g, off, cap, rfl, hc, ?_, hrow.block_lt rfl, hrow, hcell, hf⟩
  rcases hown with h1 | ⟨k, hk, h1⟩ <;> simp [Value.ownBlock] at h1
  omega
theorem byte_eq {a c : UInt8} (h : c = a) : ((c.toNat : Int) == (a.toNat : Int)) = true := by rw [h]; exact beq_self_eq_true _
theorem byte_ne {a c : UInt8} (h : ¬ c = a) : ((c.toNat : Int) == (a.toNat : Int)) = false := by
  rw [beq_eq_false_iff_ne]
  intro e
  exact h (UInt8.toNat_inj.1 (by exact_mod_cast e))

theorem byte_beq (a c : UInt8) : (a == c) = ((a.toNat : Int) == (c.toNat : Int)) := by
  by_cases h : a = c
  · rw [byte_eq h, h]; exact beq_self_eq_true _
  · rw [byte_ne h]; exact beq_eq_false_iff_ne.2 h
theorem size_of_cell {w : World} {v : Value} (h : w.cell? ⟨0, 0, none⟩ = some v) : 0 < w.heap.size := by
  rcases Nat.eq_zero_or_pos w.heap.size with h0 | h0
  · simp [World.cell?, h0] at h
  · exact h0
end Lx
end Go.Proofs.YtpmgecnkcllneaaDoor
