/- How the document shows statements. -/
import Derived.Test.YtmdnhinpaflamaaDoorShC
import Derived.Test.YtmdnhinpaflamaaDoorSrA
import Derived.Test.YtmdnhinpaflamaaDoorSeq3
import Derived.Deep.CutRange
namespace Go.Proofs.YtmdnhinpaflamaaDoor
open Go.RowKit
set_option linter.unusedVariables false
set_option linter.unusedSimpArgs false
namespace Sh
open PM (Ex B)
open CM (Pr Qs Wr Sel Im Co Cl)
open Gn (sh)
open Px (SR SS ItS TagS ColS)
/-- an expression that is a column -/
def clPr (c : Cl) : Pr := if c.table.isEmpty then .col c.name else .tcol c.table c.name
theorem clPr_ex (c : Cl) : (clPr c).ex = c.ex := by
  obtain ⟨t, n⟩ := c
  unfold clPr Cl.ex
  cases t <;> rfl
theorem clPr_ok {c : Cl} (h : c.ok = true) : (clPr c).ok = true := by
  obtain ⟨t, n⟩ := c
  simp only [Cl.ok, Bool.and_eq_true, Bool.or_eq_true] at h
  unfold clPr
  cases t with
  | nil => exact h.2
  | cons a r =>
    have h1 : Pc.okName (a :: r) = true := by rcases h.1 with h1 | h1; cases h1; exact h1
    show (Pc.okName (a :: r) && Pc.okName n) = true
    rw [h1, h.2]; rfl
theorem clPr_sh (c : Cl) : sh (clPr c) = clT c := by
  obtain ⟨t, n⟩ := c
  unfold clPr clT Cl.line sh
  cases t <;> rfl
theorem clT_le {c : Cl} (h : c.ok = true) : (clT c).length ≤ 40 := by
  simp only [Cl.ok, Bool.and_eq_true, Bool.or_eq_true] at h
  have h2 := okName_len h.2
  unfold clT
  rcases h.1 with h1 | h1
  · unfold Cl.line
    rw [if_pos h1]
    simp [Pc.render, Pc.blanks, Pc.Pc.bytes]
    omega
  · have := okName_len h1
    unfold Cl.line
    split <;> simp [Pc.render, Pc.blanks, Pc.Pc.bytes] <;> omega
theorem bt_empty (l : B) : (bt l).toList.isEmpty = l.isEmpty := by
  cases l with
  | nil => kernel_rfl
  | cons c r =>
    have h1 : ((bt (c :: r)).toList == (⟨#[]⟩ : ByteArray).toList) = false := by
      rw [Lib.bytes_beq_false_iff]
      exact fun h => by have := congrArg (fun z => z.data.toList) h; simp at this
    rw [(by kernel_rfl : (⟨#[]⟩ : ByteArray).toList = [])] at h1
    cases h2 : (bt (c :: r)).toList with
    | nil => rw [h2] at h1; cases h1
    | cons => rfl
theorem P0_ok (l : List Im) : ([115, 101, 108, 101, 99, 116, 32] ++ (if l.isEmpty then [42] else []) : B) ++ jn imT l = [115, 101, 108, 101, 99, 116, 32] ++ itemsT l := by
  unfold itemsT
  cases l with
  | nil => rfl
  | cons x r => simp
theorem sel_le {s : Sel} (h : (selT s).length ≤ 60000) : ([115, 101, 108, 101, 99, 116, 32] ++ itemsT s.items ++ [32, 102, 114, 111, 109, 32] ++ s.table : B).length ≤ 60000 ∧ ([115, 101, 108, 101, 99, 116, 32] ++ itemsT s.items ++ [32, 102, 114, 111, 109, 32] ++ s.table ++ joinT s.join : B).length ≤ 60000 ∧ ([115, 101, 108, 101, 99, 116, 32] ++ itemsT s.items ++ [32, 102, 114, 111, 109, 32] ++ s.table ++ joinT s.join ++ whereT s.wher : B).length ≤ 60000 ∧ (whereT s.wher).length ≤ 60000 ∧ ([115, 101, 108, 101, 99, 116, 32] ++ itemsT s.items : B).length ≤ 60000 := by
  unfold selT at h
  simp only [List.length_append] at h ⊢
  omega
end Sh
end Go.Proofs.YtmdnhinpaflamaaDoor
