/- lex: Same, and the law LexAll. -/
import Derived.Test.YtfpkcddnikgabaaDoorLexV
namespace Go.Proofs.YtfpkcddnikgabaaDoor
open Go.RowKit

namespace Lx
open LexM (Tok)

theorem toksC_at {l : List Tok} {k : Nat} (hk : k < l.length) (i : Nat) (hi : i < 4) : (toksC l)[4 * k + i]? = (tokC l[k])[i]? := by
  induction l generalizing k with
  | nil => simp at hk
  | cons t r ih =>
    have e : toksC (t :: r) = tokC t ++ toksC r := rfl
    have e4 : (tokC t).length = 4 := rfl
    rw [e]
    cases k with
    | zero => rw [List.getElem?_append_left (by omega)]; simp
    | succ k =>
      rw [List.getElem?_append_right (by omega), e4, show 4 * (k + 1) + i - 4 = 4 * k + i by omega, ih (by simpa using hk)]
      rfl
/-- the k-th word's cells -/
theorem row_cells {w : World} {g off cap : Nat} {l : List Tok} (h : Row w 30 4 (.slice (some ⟨g, off, none⟩) l.length cap) l.length (toksC l)) {k : Nat} (hk : k < l.length) (i : Nat) (hi : i < 4) {u : Value} (hu : (tokC l[k])[i]? = some u) : w.cell? ⟨g, off + k * 4 + i, none⟩ = some u := by
  rw [show off + k * 4 + i = off + (4 * k + i) by omega]
  have hj : (toksC l)[4 * k + i]? = some u := (toksC_at hk i hi).trans hu
  rw [h.cells _ (List.getElem?_eq_some_iff.1 hj).1, List.getD_eq_getElem?_getD, hj]
  rfl

set_option maxHeartbeats 2000000 in
theorem same_any (g1 o1 c1 g2 o2 c2 : Nat) (l : List Tok) (w : World) (h1 : Row w 30 4 (.slice (some ⟨g1, o1, none⟩) l.length c1) l.length (toksC l)) (h2 : Row w 30 4 (.slice (some ⟨g2, o2, none⟩) l.length c2) l.length (toksC l)) (hl : l.length ≤ 1000000) :
    Calls Tryd.prog 12 #[.slice (some ⟨g1, o1, none⟩) l.length c1, .slice (some ⟨g2, o2, none⟩) l.length c2] w fun e w' => e = .returned (.bool true) ∧ Fr [] w w' := by
  have H1 := Lib.hid h1
  have H2 := Lib.hid h2
  have hli : (l.length : Int) ≤ 1000000 := by omega
  clear h1 h2 hl
  go_enter Tryd.func12, Tryd.ntmps12
  go_wp2_with fail
  go_loopw [5] (fun u wr => ∃ k : Nat, u = .int .i64 k ∧ k ≤ l.length ∧ Hid (Fr [] w wr)) (fun u _ => l.length - (intOf u).toNat)
  case atStart => exact ⟨0, rfl, Nat.zero_le _, Fr.refl _ _⟩
  case round =>
    obtain ⟨k, rfl, hk, HF⟩ := hrel
    by_cases hlt : k < l.length
    · have hki : (k : Int) < (l.length : Int) := by omega
      obtain ⟨t, ht⟩ : ∃ t, l[k] = t := ⟨_, rfl⟩
      have K1 := H1.out.keep HF.out (by simp)
      have K2 := H2.out.keep HF.out (by simp)
      have a0 := row_cells K1 hlt 0 (by omega) (by rw [ht]; rfl)
      have a1 := row_cells K1 hlt 1 (by omega) (by rw [ht]; rfl)
      have a2 := row_cells K1 hlt 2 (by omega) (by rw [ht]; rfl)
      have a3 := row_cells K1 hlt 3 (by omega) (by rw [ht]; rfl)
      have b0 := row_cells K2 hlt 0 (by omega) (by rw [ht]; rfl)
      have b1 := row_cells K2 hlt 1 (by omega) (by rw [ht]; rfl)
      have b2 := row_cells K2 hlt 2 (by omega) (by rw [ht]; rfl)
      have b3 := row_cells K2 hlt 3 (by omega) (by rw [ht]; rfl)
      simp only [Nat.add_zero] at a0 b0
      clear K1 K2 ht
      go_wp2_with fail
      go_quiet (fail)
      go_wp2_with fail
      go_roundw
      case rel => exact ⟨k + 1, by go_num, hlt, HF.out.drewN _⟩
      case measure => simp [intOf]; omega
    · have hki : (l.length : Int) ≤ (k : Int) := by omega
      go_wp2_with fail
      go_ret
      exact ⟨rfl, HF.out⟩
theorem same_nil (w : World) : Calls Tryd.prog 12 #[.slice none 0 0, .slice none 0 0] w fun e w' => e = .returned (.bool true) ∧ Fr [] w w' := by
  go_enter Tryd.func12, Tryd.ntmps12
  go_wp2_with fail
  go_loop [5] (fun u => u = .int .i64 0) (fun _ => 0)
  case atStart => rfl
  case round =>
    subst hrel
    go_wp2_with fail
    go_ret
    exact ⟨rfl, Fr.refl _ _⟩

set_option maxHeartbeats 2000000 in
theorem all_law (S : List UInt8) (w : World) (m : Int) (hm : w.cell? ⟨0, 0, none⟩ = some (.int .i64 m)) (h00 : 0 < w.heap.size) (hmx : S.length ≤ maxLen) :
    Calls Tryd.prog 3 #[.string ⟨S.toArray⟩] w fun e w' => e = .returned (.bool true) ∧ Fr [] w w' := by
  have HM := Lib.hid hm
  clear hm
  have hmx' : (S.length : Int) ≤ 9223372036854775807 := by unfold maxLen at hmx; omega
  clear hmx
  go_enter Tryd.func3, Tryd.ntmps3
  go_wp2_with fail
  refine (begun_any w m HM.out h00).mono ?_
  rintro e w1 ⟨rfl, hf1⟩
  have HF1 := Lib.hid hf1
  clear hf1
  by_cases h500 : 500 < S.length
  · have h5' : (500 : Int) < (S.length : Int) := by omega
    clear h500
    go_wp2_with fail
    go_ret
    exact ⟨rfl, HF1.out⟩
  have h5' : (S.length : Int) ≤ 500 := by omega
  have hS : S.length ≤ 1000000 := by omega
  have HLX := Lib.hid (lex_any S w1 m ((HF1.out.cell h00 (by simp)).trans HM.out) (Nat.lt_of_lt_of_le h00 HF1.out.size) hS)
  have HS := Lib.hid hS
  clear hS h500
  go_wp2_with fail
  refine HLX.out.mono ?_
  intro e w2 hr
  rcases hL : LexM.lex S with ⟨q, x⟩ | l
  · obtain ⟨rfl, hf2⟩ := lex_bad hL hr
    have HF2 : Hid (Fr [] w w2) := HF1.out.trans hf2
    have HL := Lib.hid hL
    clear hr hf2 HLX hL
    go_wp2_with fail
    refine (doclex_any S w2 HS.out).mono ?_
    intro e w3 hr
    rw [HL.out] at hr
    obtain ⟨rfl, hf3⟩ := hr
    have HF3 : Hid (Fr [] w w3) := HF2.out.trans hf3
    clear hf3
    go_wp2_with fail
    refine (same_nil w3).mono ?_
    rintro e w4 ⟨rfl, hf4⟩
    have HF4 : Hid (Fr [] w w4) := HF3.out.trans hf4
    clear hf4
    go_wp2_with fail
    go_ret
    exact ⟨rfl, HF4.out⟩
  · obtain ⟨g, off, cap, rfl, hcap, -, -, hrow, -, hf2⟩ := lex_good hL hr
    have HF2 : Hid (Fr [] w w2) := HF1.out.trans hf2
    have HL := Lib.hid hL
    have HROW := Lib.hid hrow
    have HNE := Lib.hid (lex_ne hL)
    clear hr hf2 HLX hL hrow hcap
    go_wp2_with fail
    refine (doclex_any S w2 HS.out).mono ?_
    intro e w3 hr
    rw [HL.out] at hr
    obtain ⟨v, rfl, hrow2, hf3⟩ := hr
    obtain ⟨g2, off2, cap2, rfl, -, -⟩ := toks_at hrow2 HNE.out.1
    have HF3 : Hid (Fr [] w w3) := HF2.out.trans hf3
    have HSAME := Lib.hid (same_any g off cap g2 off2 cap2 l w3 (HROW.out.keep hf3 (by simp)) hrow2 (by have := HNE.out.2; omega))
    clear hf3 hrow2
    go_wp2_with fail
    refine HSAME.out.mono ?_
    rintro e w4 ⟨rfl, hf4⟩
    have HF4 : Hid (Fr [] w w4) := HF3.out.trans hf4
    clear hf4
    go_wp2_with fail
    go_ret
    exact ⟨rfl, HF4.out⟩
end Lx
end Go.Proofs.YtfpkcddnikgabaaDoor
