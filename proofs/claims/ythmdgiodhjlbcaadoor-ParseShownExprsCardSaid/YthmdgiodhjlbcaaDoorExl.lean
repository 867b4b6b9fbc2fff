/- Three statements that an expression stands in: how they are shown and parsed. -/
import Derived.Test.YthmdgiodhjlbcaaDoorGaD
import Derived.Test.YthmdgiodhjlbcaaDoorLin
namespace Go.Proofs.YthmdgiodhjlbcaaDoor
open Go.RowKit
set_option linter.unusedVariables false
namespace Gn
open PM (Ex B)
open CM (Pr Qs Wr)
def preD : B := [100, 101, 108, 101, 116, 101, 32, 102, 114, 111, 109, 32, 116, 32, 119, 104, 101, 114, 101, 32]
def preI : B := [105, 110, 115, 101, 114, 116, 32, 105, 110, 116, 111, 32, 116, 32, 118, 97, 108, 117, 101, 115, 40]
def preU : B := [117, 112, 100, 97, 116, 101, 32, 116, 32, 115, 101, 116, 32, 118, 32, 61, 32]
theorem del_text (p : Pr) : Pc.render (Qs.line (.write (.delete [116] (some p)))) = preD ++ sh p := by
  simp only [Qs.line, Wr.line, CM.whereL, Pc.render, sh_one]
  rfl
theorem ins_text (p : Pr) : Pc.render (Qs.line (.write (.insert [116] p [p]))) = preI ++ sh p ++ [44, 32] ++ sh p ++ [41] := by
  simp only [Qs.line, Wr.line, CM.lines, Pc.render, render_app, List.append_nil, sh_one]
  show _ = preI ++ sh p ++ [44, 32] ++ sh p ++ [41]
  simp [preI, sh, Pc.blanks, Pc.Pc.bytes]
theorem upd_text (p : Pr) : Pc.render (Qs.line (.write (.update [116] [118] p (some p)))) = preU ++ sh p ++ [32, 119, 104, 101, 114, 101, 32] ++ sh p := by
  simp only [Qs.line, Wr.line, CM.whereL, Pc.render, render_app, sh_one]
  simp [preU, Pc.blanks, Pc.Pc.bytes]
theorem Sz.okPr {k : Nat} {p : Pr} (h : Sz k p) (hk : k ≤ 32) : CM.okPr 64 p = true := by
  have := h.nest
  simp only [CM.okPr, Bool.and_eq_true, decide_eq_true_eq]
  exact ⟨h.ok, by omega⟩
theorem del_parse {p : Pr} (h : CM.okPr 64 p = true) (hl : (sh p).length ≤ 150) : PM.parse (preD ++ sh p) = .inr (.mk 8 [116] [] [] [] [] [] [] [] [p.ex] [] false []) := by
  rw [← del_text]
  exact CM.parse_shown (q := .write (.delete [116] (some p))) (by show (Pc.okName [116] && CM.okPr 64 p) = true; rw [h]; decide) (by rw [del_text, List.length_append]; have : preD.length = 20 := rfl; omega)
theorem ins_parse {p : Pr} (h : CM.okPr 64 p = true) (hl : (sh p).length ≤ 150) : PM.parse (preI ++ sh p ++ [44, 32] ++ sh p ++ [41]) = .inr (.mk 5 [116] [] [] [] [p.ex, p.ex] [] [] [] [] [] false []) := by
  rw [← ins_text]
  exact CM.parse_shown (q := .write (.insert [116] p [p])) (by show (Pc.okName [116] && CM.okPr 64 p && [p].all (CM.okPr 64)) = true; simp only [List.all_cons, List.all_nil, h]; decide) (by rw [ins_text]; simp only [List.length_append]; have : preI.length = 21 := rfl; simp; omega)
theorem upd_parse {p : Pr} (h : CM.okPr 64 p = true) (hl : (sh p).length ≤ 150) : PM.parse (preU ++ sh p ++ [32, 119, 104, 101, 114, 101, 32] ++ sh p) = .inr (.mk 7 [116] [118] [] [] [p.ex] [] [] [] [p.ex] [] false []) := by
  rw [← upd_text]
  exact CM.parse_shown (q := .write (.update [116] [118] p (some p))) (by show (Pc.okName [116] && Pc.okName [118] && CM.okPr 64 p && CM.okPr 64 p) = true; rw [h]; decide) (by rw [upd_text]; simp only [List.length_append]; have : preU.length = 17 := rfl; simp; omega)
end Gn
end Go.Proofs.YthmdgiodhjlbcaaDoor
