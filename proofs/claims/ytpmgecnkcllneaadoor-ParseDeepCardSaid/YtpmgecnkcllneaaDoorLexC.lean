/- lex: a number. -/
import Derived.Test.YtpmgecnkcllneaaDoorLexB
namespace Go.Proofs.YtpmgecnkcllneaaDoor
open Go.RowKit

namespace Lx
open LexM (Tok)
open Parse (parseV parseE)

/-- the number at place p -/
def numM (p : Nat) (S : List UInt8) : (Nat × Int) ⊕ (Tok × Nat) :=
  let t := (S.drop p).takeWhile LexM.dig
  if LexM.letter (at0 S (p + t.length)) then .inl (p + t.length, 4)
  else if parseE t = 0 then .inr (⟨3, [], parseV t, p⟩, p + t.length)
  else .inl (p, parseE t)

structure Cells (w : World) (T : Nat) : Prop where
  c0 : w.cell? ⟨T, 0, none⟩ = some (.int .i64 0)
  c1 : w.cell? ⟨T, 1, none⟩ = some (.string ⟨#[]⟩)
  c2 : w.cell? ⟨T, 2, none⟩ = some (.int .i64 0)
  c3 : w.cell? ⟨T, 3, none⟩ = some (.int .i64 0)
  f0 : w.frozen? ⟨T, 0, none⟩ = false
  f1 : w.frozen? ⟨T, 1, none⟩ = false
  f2 : w.frozen? ⟨T, 2, none⟩ = false
  f3 : w.frozen? ⟨T, 3, none⟩ = false
theorem cells_of {w : World} {T : Nat} (h : Blk w T 67 zcells) : Cells w T :=
  ⟨h.cell 0, h.cell 1, h.cell 2, h.cell 3, h.free 0, h.free 1, h.free 2, h.free 3⟩

set_option maxRecDepth 100000 in
set_option maxHeartbeats 1000000 in
theorem number_any (R : Nat) (S : List UInt8) (p : Nat) (w : World) (hr : Rd w R S p) (hS : S.length ≤ 1000000) (hp : p ≤ S.length) :
    Calls Tryd.prog 47 #[.pointer (some ⟨R, 0, none⟩)] w fun e w' => e = .returned (tokR (numM p S)) ∧ After w' R S (numM p S) ∧ Fr [some R] w w' := by
  have h1 := hr.c1
  have hlt := hr.lt
  have HR := Lib.hid hr
  have HS := Lib.hid hS
  clear hr hS
  go_enter Tryd.func47, Tryd.ntmps47
  go_wp2_with fail
  refine (while_any 46 LexM.dig (fun v w => by kernel_rfl) digit_any R S p _ ((HR.out.alloc _)) HS.out hp).mono ?_
  rintro e w1 ⟨rfl, hr1, hf1⟩
  obtain ⟨t, ht⟩ : ∃ t, (S.drop p).takeWhile LexM.dig = t := ⟨_, rfl⟩
  have htl := (LexM.takeWhile_len LexM.dig (S.drop p))
  rw [ht] at hr1 htl ⊢
  rw [List.length_drop] at htl
  have hT : Blk w1 w.heap.size 67 zcells := (Blk.new w 67 zcells).keep hf1 (by simp; omega)
  have hfr1 : Fr [some R] w w1 := ((Fr.refl _ _).alloc _).trans' hf1 (by simp)
  clear hf1 h1
  have HT := Lib.hid ht
  clear ht
  go_wp2_with fail
  refine (next_any R S (p + t.length) w1 hr1).mono ?_
  rintro e w2 ⟨rfl, hr2, hf2⟩
  obtain ⟨d, hd⟩ : ∃ d, at0 S (p + t.length) = d := ⟨_, rfl⟩
  rw [hd]
  have HD := Lib.hid hd
  clear hd
  go_wp2_with fail
  refine (letter_any d w2).mono ?_
  rintro e w3 ⟨rfl, rfl⟩
  have hT3 := hT.keep hf2 (by simp)
  have hfr3 := Lib.hid (hfr1.trans' hf2 (by simp))
  have HR3 := Lib.hid hr2
  clear hf2 hr2 hr1 hT hfr1
  cases hl : LexM.letter d
  · have HL := Lib.hid hl
    have HT3 := Lib.hid hT3
    clear hl hT3
    go_wp2_with fail
    refine (Parse.parse_any t w3 (by have := HS.out; omega)).mono ?_
    rintro e w4 ⟨rfl, hf4⟩
    have hT4 := HT3.out.keep hf4 (by simp)
    have hTl := hT4.lt
    obtain ⟨c0, c1, c2, c3, f0, f1, f2, f3⟩ := cells_of hT4
    have HT4 := Lib.hid hT4
    have hfr4 := Lib.hid (hfr3.out.trans' hf4 (by simp))
    have HR4 := Lib.hid (HR3.out.keep hf4 (by simp))
    clear hf4 hT4
    obtain ⟨v, hv⟩ : ∃ v, parseV t = v := ⟨_, rfl⟩
    obtain ⟨x, hx⟩ : ∃ x, parseE t = x := ⟨_, rfl⟩
    rw [hv, hx]
    have HV := Lib.hid hv
    have HX := Lib.hid hx
    clear hv hx
    by_cases h0 : x = 0
    · subst h0
      go_wp2_with fail
      refine bodyPost_ret (ret_tok rfl _ w.heap.size rfl _ _ _ _ _ (blkPut4 HT4.out rfl _ _ _ _)) rfl ⟨?_, ?_, frPut4 hfr4.out (.inr (by omega)) _ _ _ _⟩
      all_goals simp only [numM, HT.out, HL.out, HD.out, HX.out, HV.out, Bool.false_eq_true, if_false, if_true]
      · rfl
      · exact Rd.keep HR4.out (frPut4 (Fr.refl [some w.heap.size] _) (.inl (by simp)) _ _ _ _) (by simp; omega)
    · have hx0 : (x == 0) = false := by simp [h0]
      have H0 := Lib.hid h0
      clear h0
      go_wp2_with fail
      refine bodyPost_ret (ret_tok rfl _ w.heap.size rfl _ _ _ _ _ (blkPut4 HT4.out rfl _ _ _ _)) rfl ⟨?_, ?_, frPut4 hfr4.out (.inr (by omega)) _ _ _ _⟩
      all_goals simp only [numM, HT.out, HL.out, HD.out, HX.out, HV.out, Bool.false_eq_true, if_false, if_neg H0.out]
      · rfl
      · trivial
  · have hTl := hT3.lt
    obtain ⟨c0, c1, c2, c3, f0, f1, f2, f3⟩ := cells_of hT3
    have HT3 := Lib.hid hT3
    have h1 := HR3.out.c1
    have HL := Lib.hid hl
    have hne : ¬ R = w.heap.size := by omega
    clear hl hT3
    go_wp2_with fail
    go_region
    all_goals
      go_wp2_with fail
      refine bodyPost_ret (ret_tok rfl _ w.heap.size rfl _ _ _ _ _ (blkPut4 HT3.out rfl _ _ _ _).drew) rfl ⟨?_, ?_, (frPut4 hfr3.out (.inr (by omega)) _ _ _ _).drew⟩
      all_goals simp only [numM, HT.out, HL.out, HD.out, if_true]
      · rfl
      · trivial
end Lx
end Go.Proofs.YtpmgecnkcllneaaDoor
