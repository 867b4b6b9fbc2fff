/- lex: the law LexJoins. -/
import Derived.Test.YtfpkcddnikgabaaDoorLexW2
import Derived.Test.YtfpkcddnikgabaaDoorLexX
namespace Go.Proofs.YtfpkcddnikgabaaDoor
open Go.RowKit

namespace Lx
open LexM (Tok)

theorem drewN_two (w : World) (n m : Nat) : (w.drewN n).drewN m = w.drewN (n + m) := by
  simp [World.drewN, Nat.add_assoc]
theorem drewN_zero (w : World) : w = w.drewN 0 := by simp [World.drewN]

set_option maxHeartbeats 2000000 in
theorem same_q (g1 o1 c1 g2 o2 c2 : Nat) (l : List Tok) (w : World) (h1 : Row w 30 4 (.slice (some ⟨g1, o1, none⟩) l.length c1) l.length (toksC l)) (h2 : Row w 30 4 (.slice (some ⟨g2, o2, none⟩) l.length c2) l.length (toksC l)) (hl : l.length ≤ 1000000) :
    Calls Tryd.prog 12 #[.slice (some ⟨g1, o1, none⟩) l.length c1, .slice (some ⟨g2, o2, none⟩) l.length c2] w fun e w' => e = .returned (.bool true) ∧ ∃ n, w' = w.drewN n := by
  have H1 := Lib.hid h1
  have H2 := Lib.hid h2
  have hli : (l.length : Int) ≤ 1000000 := by omega
  clear h1 h2 hl
  go_enter Tryd.func12, Tryd.ntmps12
  go_wp2_with fail
  go_loopw [5] (fun u wr => ∃ k : Nat, u = .int .i64 k ∧ k ≤ l.length ∧ Hid (∃ n, wr = w.drewN n)) (fun u _ => l.length - (intOf u).toNat)
  case atStart => exact ⟨0, rfl, Nat.zero_le _, 0, drewN_zero w⟩
  case round =>
    obtain ⟨k, rfl, hk, HF⟩ := hrel
    have HFR : Hid (Fr [] w wr) := by
      obtain ⟨n, rfl⟩ := HF.out
      exact Fr.drewN (Fr.refl [] w) n
    by_cases hlt : k < l.length
    · have hki : (k : Int) < (l.length : Int) := by omega
      obtain ⟨t, ht⟩ : ∃ t, l[k] = t := ⟨_, rfl⟩
      have K1 := H1.out.keep HFR.out (by simp)
      have K2 := H2.out.keep HFR.out (by simp)
      have a0 := row_cells K1 hlt 0 (by omega) (by rw [ht]; rfl)
      have a1 := row_cells K1 hlt 1 (by omega) (by rw [ht]; rfl)
      have a2 := row_cells K1 hlt 2 (by omega) (by rw [ht]; rfl)
      have a3 := row_cells K1 hlt 3 (by omega) (by rw [ht]; rfl)
      have b0 := row_cells K2 hlt 0 (by omega) (by rw [ht]; rfl)
      have b1 := row_cells K2 hlt 1 (by omega) (by rw [ht]; rfl)
      have b2 := row_cells K2 hlt 2 (by omega) (by rw [ht]; rfl)
      have b3 := row_cells K2 hlt 3 (by omega) (by rw [ht]; rfl)
      simp only [Nat.add_zero] at a0 b0
      clear K1 K2 ht
      go_wp2_with fail
      go_quiet (fail)
      go_wp2_with fail
      go_roundw
      case rel =>
        refine ⟨k + 1, by go_num, hlt, ?_⟩
        obtain ⟨n, hn⟩ := HF.out
        exact ⟨_, (congrArg (fun x : World => x.drewN nq) hn).trans (drewN_two _ _ _)⟩
      case measure => simp [intOf]; omega
    · have hki : (l.length : Int) ≤ (k : Int) := by omega
      go_wp2_with fail
      go_ret
      exact ⟨rfl, HF.out⟩

theorem toksC_take (l : List Tok) (k : Nat) : (toksC l).take (k * 4) = toksC (l.take k) := by
  induction l generalizing k with
  | nil => simp [toksC]
  | cons t r ih =>
    cases k with
    | zero => simp [toksC]
    | succ k =>
      have e : toksC (t :: r) = tokC t ++ toksC r := rfl
      have e4 : (tokC t).length = 4 := rfl
      rw [e, List.take_succ_cons, show toksC (t :: r.take k) = tokC t ++ toksC (r.take k) from rfl, List.take_append, e4, show (k + 1) * 4 - 4 = k * 4 by omega, ih, List.take_of_length_le (by omega)]
/-- the first words of a row -/
theorem row_first {w : World} {g off cap n : Nat} {l : List Tok} (h : Row w 30 4 (.slice (some ⟨g, off, none⟩) n cap) n (toksC l)) {k : Nat} (hk : k ≤ n) (hc : n ≤ cap) (hln : l.length = n) :
    Row w 30 4 (.slice (some ⟨g, off, none⟩) (l.take k).length cap) (l.take k).length (toksC (l.take k)) := by
  have := h.cut (lo := 0) (hi := k) (mx := cap) (Nat.zero_le _) hk (Nat.le_trans hk hc) (Nat.le_refl _)
  simp only [Nat.zero_mul, Nat.add_zero, Nat.sub_zero, List.drop_zero, toksC_take] at this
  rw [List.length_take, hln, Nat.min_eq_left hk]
  exact this

theorem LS_pos (S : List UInt8) : ∀ (n p : Nat) (l : List Tok), p ≤ S.length → S.length - p = n → LS S p = .inr l → ∀ t ∈ l, t.pos ≤ S.length := by
  intro n
  induction n using Nat.strongRecOn with
  | ind n ih =>
    intro p l hp hn h
    by_cases hlt : p < S.length
    · by_cases hb : at0 S p = 32
      · rw [LS_blank hlt hb] at h
        exact ih (S.length - (p + 1)) (by omega) (p + 1) l (by omega) rfl h
      · rw [LS_tok hlt hb] at h
        cases ht : LexM.tok1 p (S.drop p) with
        | inl e => rw [ht] at h; simp only [reduceCtorEq] at h
        | inr y =>
          obtain ⟨t, r⟩ := y
          obtain ⟨h1, h2, h3⟩ := tok_range hlt ht
          rw [ht] at h
          simp only [] at h
          cases hr : LS S r with
          | inl e => rw [hr] at h; simp only [reduceCtorEq] at h
          | inr l' =>
            rw [hr] at h
            simp only [Sum.inr.injEq] at h
            subst h
            intro u hu
            rcases List.mem_cons.1 hu with rfl | hu
            · omega
            · exact ih (S.length - r) (by omega) r l' h2 rfl hr u hu
    · obtain rfl : p = S.length := by omega
      rw [LS_end] at h
      simp only [Sum.inr.injEq] at h
      subst h
      intro u hu
      rw [List.mem_singleton] at hu
      subst hu
      exact Nat.le_refl _
theorem lex_pos {S : List UInt8} {l : List Tok} (h : LexM.lex S = .inr l) (k : Nat) (hk : k < l.length) : l[k].pos ≤ 400 := by
  unfold LexM.lex at h
  split at h
  · simp only [reduceCtorEq] at h
  · have := LS_pos S _ 0 l (Nat.zero_le _) rfl h l[k] (List.getElem_mem _)
    omega
theorem joined_at {la lb : List Tok} {A k : Nat} {n : Nat} (hA : la.length = A + 1) (hk : k < lb.length) (h : A + k < (la.dropLast ++ lb.map (shT n)).length) : (la.dropLast ++ lb.map (shT n))[A + k] = shT n lb[k] := by
  have hd : la.dropLast.length = A := by rw [List.length_dropLast, hA]; rfl
  rw [List.getElem_append_right (by omega)]
  simp [hd]
theorem joined_len {la lb : List Tok} {A : Nat} {n : Nat} (hA : la.length = A + 1) : (la.dropLast ++ lb.map (shT n)).length = A + lb.length := by
  simp [hA]
theorem joined_take {la lb : List Tok} {A : Nat} {n : Nat} (hA : la.length = A + 1) : (la.dropLast ++ lb.map (shT n)).take A = la.take A := by
  have hd : la.dropLast.length = A := by rw [List.length_dropLast, hA]; rfl
  rw [List.take_append_of_le_length (by omega), List.dropLast_eq_take, hA]
  simp [List.take_take]
end Lx
end Go.Proofs.YtfpkcddnikgabaaDoor
