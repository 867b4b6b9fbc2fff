/- lex: begun. -/
import Derived.Test.YtfpkcddnikgabaaDoorLexH
namespace Go.Proofs.YtfpkcddnikgabaaDoor
open Go.RowKit

namespace Lx
open LexM (Tok)

/-- words that are there: where they lie -/
theorem toks_at {w : World} {v : Value} {l : List Tok} (h : Row w 30 4 v l.length (toksC l)) (hne : l ≠ []) :
    ∃ g off cap, v = .slice (some ⟨g, off, none⟩) l.length cap ∧ l.length ≤ cap ∧ ∀ j u, (toksC l)[j]? = some u → w.cell? ⟨g, off + j, none⟩ = some u := by
  rcases h.form with ⟨_, h0, _⟩ | ⟨g, off, cap, rfl, hc, _⟩
  · exact absurd (List.eq_nil_of_length_eq_zero h0) hne
  · refine ⟨g, off, cap, rfl, hc, fun j u hj => ?_⟩
    rw [h.cells j (List.getElem?_eq_some_iff.1 hj).1, List.getD_eq_getElem?_getD, hj]
    rfl

theorem lex_a : LexM.lex [97, 60, 61, 49] = .inr [⟨1, [97], 0, 0⟩, ⟨5, [60, 61], 0, 1⟩, ⟨3, [], 1, 3⟩, ⟨6, [], 0, 4⟩] := by rfl
theorem lex_b : LexM.lex [49, 97] = .inl (1, 4) := by rfl

set_option maxHeartbeats 2000000 in
theorem begun_any (w : World) (m : Int) (hm : w.cell? ⟨0, 0, none⟩ = some (.int .i64 m)) (h00 : 0 < w.heap.size) :
    Calls Tryd.prog 9 #[] w fun e w' => e = .returned (.bool true) ∧ Fr [] w w' := by
  have HA := Lib.hid (lex_any [97, 60, 61, 49] w m hm h00 (by decide))
  have HM := Lib.hid hm
  clear hm
  go_enter Tryd.func9, Tryd.ntmps9
  go_wp2_with fail
  refine HA.out.mono ?_
  intro e w1 hA
  rw [lex_a] at hA
  obtain ⟨v, rfl, hrow, -, hf1⟩ := hA
  have HB := Lib.hid (lex_any [49, 97] w1 m ((hf1.cell h00 (by simp)).trans HM.out) (Nat.lt_of_lt_of_le h00 hf1.size) (by decide))
  have HROW := Lib.hid hrow
  have HF1 := Lib.hid hf1
  clear hrow hf1 HA
  go_wp2_with fail
  refine HB.out.mono ?_
  intro e w2 hB
  rw [lex_b] at hB
  obtain ⟨rfl, hf2⟩ := hB
  have hrow := HROW.out.keep hf2 (by simp)
  have HF2 : Hid (Fr [] w w2) := HF1.out.trans hf2
  obtain ⟨g, off, cap, rfl, hcap, hc⟩ := toks_at hrow (by simp)
  have d1 := hc 5 _ rfl
  have d2 := hc 10 _ rfl
  have d3 := hc 12 _ rfl
  clear hf2 hrow hc HB
  go_wp2_with fail
  go_ret
  exact ⟨rfl, HF2.out⟩
end Lx
end Go.Proofs.YtfpkcddnikgabaaDoor
