/- lex: the word at hand. -/
import Derived.Test.YtpmgecnkcllneaaDoorLexD
import Derived.Test.YtpmgecnkcllneaaDoorLexE
namespace Go.Proofs.YtpmgecnkcllneaaDoor
open Go.RowKit

namespace Lx
open LexM (Tok)
open Parse (parseV parseE)

theorem at0_drop (S : List UInt8) (p n : Nat) : ((S.drop p).drop n).headD 0 = at0 S (p + n) := by
  unfold at0; rw [List.drop_drop]

theorem tok_name {S : List UInt8} {p : Nat} (hp : p < S.length) (h : LexM.letter (at0 S p) = true) : LexM.tok1 p (S.drop p) = nameM p S := by
  rw [at0_lt hp] at h
  unfold nameM
  rw [List.drop_eq_getElem_cons hp]
  simp only [LexM.tok1, h, if_true]
theorem dig_eq : LexM.dig = Parse.dig := rfl
theorem all_takeWhile (f : UInt8 → Bool) (l : List UInt8) : (l.takeWhile f).all f = true := by
  induction l with
  | nil => rfl
  | cons c r ih =>
    rw [List.takeWhile_cons]
    split
    · rename_i h; simp only [List.all_cons, h, ih, Bool.and_self]
    · rfl
theorem tok_num {S : List UInt8} {p : Nat} (hp : p < S.length) (h : LexM.letter (at0 S p) = false) (h2 : LexM.dig (at0 S p) = true) : LexM.tok1 p (S.drop p) = numM p S := by
  have hb : Parse.bad ((S.drop p).takeWhile LexM.dig) = false := by
    have h3 := all_takeWhile LexM.dig (S.drop p)
    have h4 : 0 < ((S.drop p).takeWhile LexM.dig).length := by
      rw [List.drop_eq_getElem_cons hp]
      rw [at0_lt hp] at h2
      exact LexM.takeWhile_pos h2
    have h5 : ((S.drop p).takeWhile LexM.dig).isEmpty = false := by
      cases hc : (S.drop p).takeWhile LexM.dig with
      | nil => rw [hc] at h4; simp at h4
      | cons => rfl
    unfold Parse.bad
    rw [h5, ← dig_eq, h3]
    rfl
  have e1 : LexM.tok1 p (S.drop p) = (let t := (S.drop p).takeWhile LexM.dig
      if ((S.drop p).drop t.length).headD 0 |> LexM.letter then .inl (p + t.length, 4)
      else if 9223372036854775807 < LexM.val t then .inl (p, 8)
      else .inr (⟨3, [], LexM.val t, p⟩, p + t.length)) := by
    rw [at0_lt hp] at h h2
    rw [List.drop_eq_getElem_cons hp]
    simp only [LexM.tok1, h, h2, if_true, Bool.false_eq_true, if_false]
  rw [e1]
  unfold numM
  obtain ⟨t, ht⟩ : ∃ t, (S.drop p).takeWhile LexM.dig = t := ⟨_, rfl⟩
  simp only [ht, at0_drop]
  rw [ht] at hb
  split
  · rfl
  · have hv : LexM.val t = Parse.val t := rfl
    have hE : parseE t = err (Parse.val t) := by simp [parseE, hb]
    have hV : parseV t = res (Parse.val t) := by simp [parseV, hb]
    rw [hE, hV, hv]
    by_cases hl : 9223372036854775807 < Parse.val t
    · have ho : ok64 (Parse.val t : Int) = false := no_iff.2 (by omega)
      rw [err_no ho, if_pos hl, if_neg (by decide)]
    · have ho : ok64 (Parse.val t : Int) = true := ok_iff.2 (by omega)
      rw [err_ok ho, res_ok ho, if_neg hl, if_pos rfl]
theorem tok_text {S : List UInt8} {p : Nat} (hp : p < S.length) (h : at0 S p = 39) : LexM.tok1 p (S.drop p) = textM p S := by
  rw [at0_lt hp] at h
  unfold textM
  rw [List.drop_eq_getElem_cons hp, h]
  rfl
theorem tok_sign {S : List UInt8} {p : Nat} (hp : p < S.length) (h1 : LexM.letter (at0 S p) = false) (h2 : LexM.dig (at0 S p) = false) (h : at0 S p ≠ 39) : LexM.tok1 p (S.drop p) = signM p S := by
  unfold signM
  rw [at0_lt hp] at h h1 h2 ⊢
  rw [List.drop_eq_getElem_cons hp]
  have : (S.drop (p + 1)).headD 0 = at0 S (p + 1) := rfl
  simp only [LexM.tok1, h, h1, h2, Bool.false_eq_true, if_false, this]

theorem tok_err {S : List UInt8} {p q : Nat} {e : Int} (hp : p < S.length) (h : LexM.tok1 p (S.drop p) = .inl (q, e)) : e ≠ 0 := by
  rw [List.drop_eq_getElem_cons hp] at h
  simp only [LexM.tok1] at h
  repeat' split at h
  all_goals first
    | (simp only [reduceCtorEq] at h; done)
    | (simp only [Sum.inl.injEq, Prod.mk.injEq] at h; obtain ⟨_, rfl⟩ := h; decide)

set_option maxRecDepth 100000 in
set_option maxHeartbeats 1000000 in
theorem token_any (R : Nat) (S : List UInt8) (p : Nat) (w : World) (m : Int) (hm : w.cell? ⟨0, 0, none⟩ = some (.int .i64 m)) (h00 : 0 < w.heap.size) (hR : R ≠ 0) (hr : Rd w R S p) (hS : S.length ≤ 1000000) (hp : p < S.length) :
    Calls Tryd.prog 29 #[.pointer (some ⟨R, 0, none⟩)] w fun e w' => e = .returned (tokR (LexM.tok1 p (S.drop p))) ∧ After w' R S (LexM.tok1 p (S.drop p)) ∧ Fr [some R] w w' := by
  obtain ⟨X, hX⟩ : ∃ X, LexM.tok1 p (S.drop p) = X := ⟨_, rfl⟩
  rw [hX]
  have HX := Lib.hid hX
  have HR := Lib.hid hr
  have HS := Lib.hid hS
  have HM := Lib.hid hm
  have hlt := hr.lt
  clear hr hS hm hX
  go_enter Tryd.func29, Tryd.ntmps29
  go_wp2_with fail
  refine (next_any R S p _ (HR.out.alloc _)).mono ?_
  rintro e w1 ⟨rfl, hr1, hf1⟩
  obtain ⟨c, hc⟩ : ∃ c, at0 S p = c := ⟨_, rfl⟩
  rw [hc]
  have HC := Lib.hid hc
  have HT : Hid (Blk w1 w.heap.size 67 zcells) := (Blk.new w 67 zcells).keep hf1 (by simp)
  have HF : Hid (Fr [some R] w w1) := (((Fr.refl [] w).alloc _).trans' hf1 (by simp)).mono (S' := [some R]) (by simp)
  have HM1 : Hid (w1.cell? ⟨0, 0, none⟩ = some (.int .i64 m)) := (hf1.cell (by simp) (by simp)).trans ((((Fr.refl [] w).alloc _).cell h00 (by simp)).trans HM.out)
  have h01 : 0 < w1.heap.size := Nat.lt_of_lt_of_le h00 HF.out.size
  have HR1 := Lib.hid hr1
  clear hc hf1 hr1
  go_wp2_with fail
  refine (letter_any c w1).mono ?_
  rintro e w2 ⟨rfl, rfl⟩
  cases hl : LexM.letter c
  · have HL := Lib.hid hl
    clear hl
    go_wp2_with fail
    refine (digit_any c w2).mono ?_
    rintro e w3 ⟨rfl, rfl⟩
    cases hd : LexM.dig c
    · have HD := Lib.hid hd
      clear hd
      by_cases h39 : c = 39
      · have hcl := text_any R S p w3 HR1.out HS.out hp
        rw [← tok_text hp (HC.out.trans h39), HX.out] at hcl
        have HCL := Lib.hid hcl
        have h39i : ((c.toNat : Int) == 39) = true := by rw [h39]; decide
        clear hcl h39
        go_wp2_with fail
        clear h39i
        refine HCL.out.mono ?_
        rintro e w3 ⟨rfl, ha, hf⟩
        have HA := Lib.hid ha
        have HT3 := Lib.hid (HT.out.keep hf (by simp; omega))
        have HF3 := Lib.hid (HF.out.trans hf)
        have hTl := HT3.out.lt
        obtain ⟨c0, c1, c2, c3, f0, f1, f2, f3⟩ := cells_of HT3.out
        clear ha hf
        rcases X with ⟨q, x⟩ | ⟨t, q⟩
        · simp only [tokR, tokA]
          go_wp2_with fail
          refine bodyPost_ret (ret_tok rfl _ w.heap.size rfl _ _ _ _ _ (blkPut4 HT3.out rfl _ _ _ _)) rfl ⟨rfl, trivial, frPut4 HF3.out (.inr (by omega)) _ _ _ _⟩
        · simp only [tokR, tokV, tokA]
          go_wp2_with fail
          refine bodyPost_ret (ret_tok rfl _ w.heap.size rfl _ _ _ _ _ (blkPut4 HT3.out rfl _ _ _ _)) rfl ⟨rfl, ?_, frPut4 HF3.out (.inr (by omega)) _ _ _ _⟩
          exact Rd.keep (p := q) HA.out (frPut4 (Fr.refl [some w.heap.size] _) (.inl (by simp)) _ _ _ _) (by simp; omega)
      · have hcl := sign_any R S p w3 HR1.out HS.out (Nat.le_of_lt hp)
        rw [← tok_sign hp (by rw [HC.out]; exact HL.out) (by rw [HC.out]; exact HD.out) (by rw [HC.out]; exact h39), HX.out] at hcl
        have HCL := Lib.hid hcl
        have h39i : ((c.toNat : Int) == 39) = false := by
          rw [beq_eq_false_iff_ne]
          intro h
          exact h39 (UInt8.toNat_inj.1 (by simpa using (by omega : c.toNat = 39)))
        clear hcl h39
        go_wp2_with fail
        clear h39i
        refine HCL.out.mono ?_
        rintro e w3 ⟨rfl, ha, hf⟩
        have HA := Lib.hid ha
        have HT3 := Lib.hid (HT.out.keep hf (by simp; omega))
        have HF3 := Lib.hid (HF.out.trans hf)
        have hTl := HT3.out.lt
        obtain ⟨c0, c1, c2, c3, f0, f1, f2, f3⟩ := cells_of HT3.out
        clear ha hf
        rcases X with ⟨q, x⟩ | ⟨t, q⟩
        · simp only [tokR, tokA]
          go_wp2_with fail
          refine bodyPost_ret (ret_tok rfl _ w.heap.size rfl _ _ _ _ _ (blkPut4 HT3.out rfl _ _ _ _)) rfl ⟨rfl, trivial, frPut4 HF3.out (.inr (by omega)) _ _ _ _⟩
        · simp only [tokR, tokV, tokA]
          go_wp2_with fail
          refine bodyPost_ret (ret_tok rfl _ w.heap.size rfl _ _ _ _ _ (blkPut4 HT3.out rfl _ _ _ _)) rfl ⟨rfl, ?_, frPut4 HF3.out (.inr (by omega)) _ _ _ _⟩
          exact Rd.keep (p := q) HA.out (frPut4 (Fr.refl [some w.heap.size] _) (.inl (by simp)) _ _ _ _) (by simp; omega)
    · have hcl := number_any R S p w3 HR1.out HS.out (Nat.le_of_lt hp)
      rw [← tok_num hp (by rw [HC.out]; exact HL.out) (by rw [HC.out]; exact hd), HX.out] at hcl
      have HCL := Lib.hid hcl
      clear hcl hd
      go_wp2_with fail
      refine HCL.out.mono ?_
      rintro e w3 ⟨rfl, ha, hf⟩
      have HA := Lib.hid ha
      have HT3 := Lib.hid (HT.out.keep hf (by simp; omega))
      have HF3 := Lib.hid (HF.out.trans hf)
      have hTl := HT3.out.lt
      obtain ⟨c0, c1, c2, c3, f0, f1, f2, f3⟩ := cells_of HT3.out
      clear ha hf
      rcases X with ⟨q, x⟩ | ⟨t, q⟩
      · simp only [tokR, tokA]
        go_wp2_with fail
        refine bodyPost_ret (ret_tok rfl _ w.heap.size rfl _ _ _ _ _ (blkPut4 HT3.out rfl _ _ _ _)) rfl ⟨rfl, trivial, frPut4 HF3.out (.inr (by omega)) _ _ _ _⟩
      · simp only [tokR, tokV, tokA]
        go_wp2_with fail
        refine bodyPost_ret (ret_tok rfl _ w.heap.size rfl _ _ _ _ _ (blkPut4 HT3.out rfl _ _ _ _)) rfl ⟨rfl, ?_, frPut4 HF3.out (.inr (by omega)) _ _ _ _⟩
        exact Rd.keep (p := q) HA.out (frPut4 (Fr.refl [some w.heap.size] _) (.inl (by simp)) _ _ _ _) (by simp; omega)
  · have hcl := name_any R S p w2 m HM1.out h01 hR HR1.out HS.out (Nat.le_of_lt hp)
    rw [← tok_name hp (by rw [HC.out]; exact hl), HX.out] at hcl
    have HCL := Lib.hid hcl
    clear hcl hl
    go_wp2_with fail
    refine HCL.out.mono ?_
    rintro e w3 ⟨rfl, ha, hf⟩
    have HA := Lib.hid ha
    have HT3 := Lib.hid (HT.out.keep hf (by simp; omega))
    have HF3 := Lib.hid (HF.out.trans hf)
    have hTl := HT3.out.lt
    obtain ⟨c0, c1, c2, c3, f0, f1, f2, f3⟩ := cells_of HT3.out
    clear ha hf
    rcases X with ⟨q, x⟩ | ⟨t, q⟩
    · simp only [tokR, tokA]
      go_wp2_with fail
      refine bodyPost_ret (ret_tok rfl _ w.heap.size rfl _ _ _ _ _ (blkPut4 HT3.out rfl _ _ _ _)) rfl ⟨rfl, trivial, frPut4 HF3.out (.inr (by omega)) _ _ _ _⟩
    · simp only [tokR, tokV, tokA]
      go_wp2_with fail
      refine bodyPost_ret (ret_tok rfl _ w.heap.size rfl _ _ _ _ _ (blkPut4 HT3.out rfl _ _ _ _)) rfl ⟨rfl, ?_, frPut4 HF3.out (.inr (by omega)) _ _ _ _⟩
      exact Rd.keep (p := q) HA.out (frPut4 (Fr.refl [some w.heap.size] _) (.inl (by simp)) _ _ _ _) (by simp; omega)
end Lx
end Go.Proofs.YtpmgecnkcllneaaDoor
