/- lex: the law LexNames. -/
import Derived.Test.YtfpkcddnikgabaaDoorLexK
namespace Go.Proofs.YtfpkcddnikgabaaDoor
open Go.RowKit

namespace Lx
open LexM (Tok)

def alpha : List UInt8 := [97, 98, 99, 100, 101, 102, 103, 104, 105, 106, 107, 108, 109, 110, 111, 112, 113, 114, 115, 116, 117, 118, 119, 120, 121, 122, 95, 48, 49, 50, 51, 52, 53, 54, 55, 56, 57]
theorem alpha_name : ∀ k : Fin 37, LexM.nameByte (alpha.getD k.val 0) = true := by decide
theorem alpha_first : ∀ k : Fin 27, LexM.letter (alpha.getD k.val 0) = true := by decide

/-- a letter, then letters and digits -/
def Nm (s : List UInt8) : Prop := s.all LexM.nameByte = true ∧ (s ≠ [] → LexM.letter (s.headD 0) = true)
theorem Nm.snoc {s : List UInt8} {c : UInt8} (h : Nm s) (hc : LexM.nameByte c = true) (h0 : s = [] → LexM.letter c = true) : Nm (s ++ [c]) := by
  refine ⟨by rw [List.all_append, h.1]; simp [hc], fun _ => ?_⟩
  cases s with
  | nil => exact h0 rfl
  | cons d r => exact h.2 (by simp)
theorem name_takeWhile {f : UInt8 → Bool} {l : List UInt8} (h : l.all f = true) : l.takeWhile f = l := by
  induction l with
  | nil => rfl
  | cons c r ih =>
    simp only [List.all_cons, Bool.and_eq_true] at h
    rw [List.takeWhile_cons, if_pos h.1, ih h.2]
theorem lex_name {s : List UInt8} (h : Nm s) (hne : s ≠ []) (hl : s.length ≤ 30) : LexM.lex s = (if LexM.words.contains s then .inr [⟨2, s, 0, 0⟩, ⟨6, [], 0, s.length⟩] else if 16 < s.length then .inl (0, 7) else .inr [⟨1, s, 0, 0⟩, ⟨6, [], 0, s.length⟩]) := by
  obtain ⟨c, r, rfl⟩ : ∃ c r, s = c :: r := by
    cases s with
    | nil => exact absurd rfl hne
    | cons c r => exact ⟨c, r, rfl⟩
  have hc : LexM.letter c = true := h.2 (by simp)
  have e0 : LexM.lex (c :: r) = LS (c :: r) 0 := if_neg (by omega)
  have hb : at0 (c :: r) 0 ≠ 32 := by
    show c ≠ 32
    rintro rfl
    revert hc
    decide
  have ht : LexM.tok1 0 (c :: r) = (if LexM.words.contains (c :: r) then .inr (⟨2, c :: r, 0, 0⟩, (c :: r).length) else if 16 < (c :: r).length then .inl (0, 7) else .inr (⟨1, c :: r, 0, 0⟩, (c :: r).length)) := by
    have htw : (c :: r).takeWhile LexM.nameByte = c :: r := name_takeWhile h.1
    simp only [LexM.tok1, hc, if_true, htw, Nat.zero_add]
  rw [e0, LS_tok (by simp) hb, List.drop_zero, ht]
  by_cases hw : LexM.words.contains (c :: r) = true
  · rw [if_pos hw, if_pos hw]
    simp only []
    rw [LS_end]
  · rw [if_neg hw, if_neg hw]
    by_cases h16 : 16 < (c :: r).length
    · rw [if_pos h16, if_pos h16]
    · rw [if_neg h16, if_neg h16]
      simp only []
      rw [LS_end]

/-- what the loop keeps -/
def NmI (w : World) (v : Value) (k : Nat) (wr : World) : Prop :=
  ∃ s : List UInt8, s.length = k ∧ Nm s ∧ Row wr 5 1 v k (s.map enc) ∧ (v.ownBlock = none ∨ ∃ j, w.heap.size ≤ j ∧ v.ownBlock = some j) ∧ Fr [] w wr
theorem NmI.step {w w1 w' : World} {k : Nat} {s : List UInt8} {c : UInt8} {v v' : Value} {o : Obj} (hs : s.length = k) (hn : Nm s) (hc : LexM.nameByte c = true) (h0 : k = 0 → LexM.letter c = true)
    (hown : v.ownBlock = none ∨ ∃ j, w.heap.size ≤ j ∧ v.ownBlock = some j) (hF : Fr [] w w1)
    (hr' : Row w' 5 1 v' (k + 1) (s.map enc ++ [enc c])) (hf' : Fr [v.ownBlock] (w1.alloc o) w') (hb' : v'.ownBlock = v.ownBlock ∨ ∃ j, w1.heap.size + 1 ≤ j ∧ v'.ownBlock = some j) : NmI w v' (k + 1) w' := by
  refine ⟨s ++ [c], by rw [List.length_append, hs]; rfl, hn.snoc hc (fun h => h0 (by rw [← hs, h]; rfl)), by rw [List.map_append]; exact hr', ?_, ?_⟩
  · rcases hb' with h | ⟨j, hj, h⟩
    · rw [h]; exact hown
    · exact .inr ⟨j, by have := hF.size; omega, h⟩
  · exact (hF.alloc _).trans' hf' (by
      intro i hi
      rcases hown with h | ⟨j, hj, h⟩ <;> rw [h] at hi <;> simp at hi
      exact .inr (by omega))
theorem limU {k : Nat} (h : k ≤ 30) : k + 1 ≤ maxLen ∧ (k + 1) * 1 ≤ 140737488355328 := by unfold maxLen; omega

set_option maxRecDepth 100000 in
set_option maxHeartbeats 8000000 in
theorem names_law (a : Option Addr) (len cap : Nat) (w : World) (m : Int) (hm : w.cell? ⟨0, 0, none⟩ = some (.int .i64 m)) (h00 : 0 < w.heap.size) (hlc : len ≤ cap) (hmx : cap ≤ maxLen)
    (hc : ∀ j, j < len → ∃ g off, a = some ⟨g, off, none⟩ ∧ g < w.heap.size ∧ ∃ c : UInt8, w.cell? ⟨g, off + j, none⟩ = some (.int .u8 (c.toNat : Int))) :
    Calls Tryd.prog 7 #[.slice a len cap] w fun e w' => e = .returned (.bool true) ∧ Fr [] w w' := by
  obtain ⟨i0, hi, hz0, hz1, hz2⟩ := info_parts info8
  have HM := Lib.hid hm
  have HC := Lib.hid hc
  have hmxi : (cap : Int) ≤ 9223372036854775807 := by unfold maxLen at hmx; omega
  have hlci : (len : Int) ≤ (cap : Int) := by omega
  clear hm hc hmx
  go_enter Tryd.func7, Tryd.ntmps7
  go_wp2_with fail
  refine (begun_any w m HM.out h00).mono ?_
  rintro e w1 ⟨rfl, hf1⟩
  have HF1 := Lib.hid hf1
  clear hf1
  by_cases hl0 : len = 0
  · have e0 : ((len : Int) == 0) = true := by rw [hl0]; rfl
    clear hl0
    go_wp2_with fail
    go_ret
    exact ⟨rfl, HF1.out⟩
  have e0 : ((len : Int) == 0) = false := by rw [beq_eq_false_iff_ne]; omega
  by_cases hl30 : 30 < len
  · have e1 : (30 : Int) < (len : Int) := by omega
    clear hl0 hl30
    go_wp2_with fail
    go_ret
    exact ⟨rfl, HF1.out⟩
  have e1 : (len : Int) ≤ 30 := by omega
  have hln : len ≤ 30 := by omega
  clear hl30
  go_wp2_with fail
  clear e0
  go_loopw [3, 4] (fun v u wr => ∃ k : Nat, u = .int .i64 k ∧ k ≤ len ∧ Hid (NmI w v k wr)) (fun _ u _ => len - (intOf u).toNat)
  case atStart => exact ⟨0, rfl, Nat.zero_le _, [], rfl, ⟨rfl, fun h => absurd rfl h⟩, Row.nil _ _ _, .inl rfl, HF1.out⟩
  case round =>
    obtain ⟨k, rfl, hk, HI⟩ := hrel
    by_cases hlt : k < len
    · obtain ⟨g, off, rfl, hg, c, hcell0⟩ := HC.out k hlt
      obtain ⟨s, hs, hn, hrow, hown, hF⟩ := HI.out
      have hcell : wr.cell? ⟨g, off + k, none⟩ = some (.int .u8 (c.toNat : Int)) := (hF.cell hg (by simp)).trans hcell0
      have hki : (k : Int) < (len : Int) := by omega
      have hlim := limU (Nat.le_trans hk hln)
      obtain ⟨hmx, hby⟩ := hlim
      have HS := Lib.hid hs
      have HN := Lib.hid hn
      have HROW := Lib.hid hrow
      have HOWN := Lib.hid hown
      have HF := Lib.hid hF
      clear hs hn hrow hown hF hcell0 hlt
      have hcb : (c.toNat : Int) ≤ 255 := by have := c.toNat_lt; omega
      obtain ⟨j, hj⟩ : ∃ j, c.toNat % 37 = j := ⟨_, rfl⟩
      have hj37 : j < 37 := by omega
      have hjI : (c.toNat : Int) % 37 = (j : Int) := by omega
      by_cases hk0 : k = 0
      · obtain ⟨i, hi27⟩ : ∃ i, c.toNat % 27 = i := ⟨_, rfl⟩
        have hi28 : i < 27 := by omega
        have hiI : (c.toNat : Int) % 27 = (i : Int) := by omega
        have hii : (i : Int) < 27 := by omega
        obtain ⟨d, hd⟩ : ∃ d, alpha.getD i 0 = d := ⟨_, rfl⟩
        have hix : (ByteArray.mk #[97, 98, 99, 100, 101, 102, 103, 104, 105, 106, 107, 108, 109, 110, 111, 112, 113, 114, 115, 116, 117, 118, 119, 120, 121, 122, 95, 48, 49, 50, 51, 52, 53, 54, 55, 56, 57])[i]'(show i < 37 from Nat.lt_trans hi28 (by decide)) = d := by
          rw [← hd, List.getD_eq_getElem?_getD, List.getElem?_eq_getElem (show i < alpha.length from Nat.lt_trans hi28 (by decide))]; rfl
        have HL : Hid (LexM.letter d = true) := by have := alpha_first ⟨i, hi28⟩; rw [← hd]; exact this
        have HNB : Hid (LexM.nameByte d = true) := by show LexM.nameByte d = true; unfold LexM.nameByte; rw [HL.out]; rfl
        have hk0i : ((k : Int) == 0) = true := by rw [hk0]; rfl
        clear hj hjI hi27 hd hk0
        go_wp2_with (at_builtin; refine wpList_append_row rfl _ _ 33 rfl 5 i0 (enc 0) 1 1 Tryd.underlying33 hi hz0 hz1 hz2 rfl (by decide) u3 k (s.map enc) rfl (HROW.out.keep ((Fr.refl [] _).alloc _) (by simp)) ⟨wr.heap.size, 0, none⟩ 1 1 [.int .u8 (d.toNat : Int)] rfl rfl (cell_one_new _ _ _) (by simp [Value.oneCell']) hmx hby ?_)
        intro v' w' hr' hf' hb'
        have HST := Lib.hid (NmI.step HS.out HN.out HNB.out (fun _ => HL.out) HOWN.out HF.out hr' hf' hb')
        clear hr' hf' hb' hk0i
        go_wp2_with fail
        go_roundw
        case rel => exact ⟨k + 1, by go_num, by omega, HST⟩
        case measure => simp [intOf]; omega
      · have hji : (j : Int) < 37 := by omega
        obtain ⟨d, hd⟩ : ∃ d, alpha.getD j 0 = d := ⟨_, rfl⟩
        have hix : (ByteArray.mk #[97, 98, 99, 100, 101, 102, 103, 104, 105, 106, 107, 108, 109, 110, 111, 112, 113, 114, 115, 116, 117, 118, 119, 120, 121, 122, 95, 48, 49, 50, 51, 52, 53, 54, 55, 56, 57])[j]'(show j < 37 from hj37) = d := by
          rw [← hd, List.getD_eq_getElem?_getD, List.getElem?_eq_getElem (show j < alpha.length from hj37)]; rfl
        have HNB : Hid (LexM.nameByte d = true) := by have := alpha_name ⟨j, hj37⟩; rw [← hd]; exact this
        have hk0i : ((k : Int) == 0) = false := by rw [beq_eq_false_iff_ne]; omega
        have HK0 := Lib.hid hk0
        clear hj hd hk0
        go_wp2_with (at_builtin; refine wpList_append_row rfl _ _ 33 rfl 5 i0 (enc 0) 1 1 Tryd.underlying33 hi hz0 hz1 hz2 rfl (by decide) u3 k (s.map enc) rfl (HROW.out.keep ((Fr.refl [] _).alloc _) (by simp)) ⟨wr.heap.size, 0, none⟩ 1 1 [.int .u8 (d.toNat : Int)] rfl rfl (cell_one_new _ _ _) (by simp [Value.oneCell']) hmx hby ?_)
        intro v' w' hr' hf' hb'
        have HST := Lib.hid (NmI.step HS.out HN.out HNB.out (fun h => absurd h HK0.out) HOWN.out HF.out hr' hf' hb')
        clear hr' hf' hb' hk0i
        go_wp2_with fail
        go_roundw
        case rel => exact ⟨k + 1, by go_num, by omega, HST⟩
        case measure => simp [intOf]; omega
    · obtain rfl : k = len := by omega
      obtain ⟨s, hs, hn, hrow, -, hF⟩ := HI.out
      subst hs
      have hne : s ≠ [] := fun h => hl0 (by rw [h]; rfl)
      have HROW := Lib.hid hrow
      have HF := Lib.hid hF
      have HLX := Lib.hid (lex_any s wr m ((hF.cell h00 (by simp)).trans HM.out) (Nat.lt_of_lt_of_le h00 hF.size) (by omega))
      have HLN := Lib.hid (lex_name hn hne hln)
      clear hn hrow hF hne HI HC
      obtain ⟨ba, bc, rfl⟩ : ∃ ba bc, u3 = Value.slice ba s.length bc := by
        rcases HROW.out.form with ⟨rfl, h0, _⟩ | ⟨g, off, cap', rfl, _, _⟩
        · exact ⟨none, 0, by rw [h0]⟩
        · exact ⟨_, _, rfl⟩
      have hcv := str_of_row wr _ s HROW.out
      go_wp2_with fail
      refine HLX.out.mono ?_
      intro e w3 hr
      clear hcv
      by_cases hw : LexM.words.contains s = true
      · have hL := HLN.out
        rw [if_pos hw] at hL
        obtain ⟨g3, off3, cap3, rfl, hcap3, -, hg3, -, hcell3, hf3⟩ := lex_good hL hr
        have HF3 : Hid (Fr [] w w3) := HF.out.trans hf3
        have HROW3 := Lib.hid (HROW.out.keep hf3 (by simp))
        have D0 : Hid (w3.cell? ⟨g3, off3, none⟩ = some (.int .i64 2)) := hcell3 0 _ rfl
        have D1 : Hid (w3.cell? ⟨g3, off3 + 1, none⟩ = some (.string ⟨s.toArray⟩)) := hcell3 1 _ rfl
        have hcv := str_of_row w3 _ s HROW3.out
        have HWD := Lib.hid hw
        clear hr hf3 HLX HLN hL hcell3 hw
        go_wp2_with fail
        refine (word_any s w3).mono ?_
        rintro e w4 ⟨rfl, hf4⟩
        rw [HWD.out]
        have HF4 : Hid (Fr [] w w4) := HF3.out.trans hf4
        have HROW4 := Lib.hid (HROW3.out.keep hf4 (by simp))
        have d0 : w4.cell? ⟨g3, off3, none⟩ = some (.int .i64 2) := (hf4.cell hg3 (by simp)).trans D0.out
        have d1 : w4.cell? ⟨g3, off3 + 1, none⟩ = some (.string ⟨s.toArray⟩) := (hf4.cell hg3 (by simp)).trans D1.out
        have hcvq : ∀ n, (convert 33 9 (.slice ba s.length bc)).run Tryd.prog (w4.drewN n) = .ok (.string ⟨s.toArray⟩) (w4.drewN n) := fun n => str_of_row (w4.drewN n) _ s (HROW4.out.keep (Fr.drewN (Fr.refl [] w4) n) (by simp))
        clear hf4 hcv
        go_wp2_with fail
        go_quiet (fail)
        go_wp2_with fail
        go_ret
        exact ⟨rfl, HF4.out.drewN _⟩
      · have hL := HLN.out
        rw [if_neg hw] at hL
        have hwf : LexM.words.contains s = false := by simpa using hw
        by_cases h16 : 16 < s.length
        · rw [if_pos h16] at hL
          obtain ⟨rfl, hf3⟩ := lex_bad hL hr
          have HF3 : Hid (Fr [] w w3) := HF.out.trans hf3
          have hcv := str_of_row w3 _ s (HROW.out.keep hf3 (by simp))
          have h16i : (16 : Int) < (s.length : Int) := by omega
          clear hr hf3 HLX HLN hL hw h16
          go_wp2_with fail
          refine (word_any s w3).mono ?_
          rintro e w4 ⟨rfl, hf4⟩
          rw [hwf]
          have HF4 : Hid (Fr [] w w4) := HF3.out.trans hf4
          clear hf4 hcv hwf
          go_wp2_with fail
          go_ret
          exact ⟨rfl, HF4.out⟩
        · rw [if_neg h16] at hL
          have h16i : (s.length : Int) ≤ 16 := by omega
          clear h16
          obtain ⟨g3, off3, cap3, rfl, hcap3, -, hg3, -, hcell3, hf3⟩ := lex_good hL hr
          have HF3 : Hid (Fr [] w w3) := HF.out.trans hf3
          have HROW3 := Lib.hid (HROW.out.keep hf3 (by simp))
          have D0 : Hid (w3.cell? ⟨g3, off3, none⟩ = some (.int .i64 1)) := hcell3 0 _ rfl
          have D1 : Hid (w3.cell? ⟨g3, off3 + 1, none⟩ = some (.string ⟨s.toArray⟩)) := hcell3 1 _ rfl
          have hcv := str_of_row w3 _ s HROW3.out
          have HWD := Lib.hid hw
          clear hr hf3 HLX HLN hL hcell3 hw
          go_wp2_with fail
          refine (word_any s w3).mono ?_
          rintro e w4 ⟨rfl, hf4⟩
          rw [hwf]
          clear hwf
          have HF4 : Hid (Fr [] w w4) := HF3.out.trans hf4
          have HROW4 := Lib.hid (HROW3.out.keep hf4 (by simp))
          have d0 : w4.cell? ⟨g3, off3, none⟩ = some (.int .i64 1) := (hf4.cell hg3 (by simp)).trans D0.out
          have d1 : w4.cell? ⟨g3, off3 + 1, none⟩ = some (.string ⟨s.toArray⟩) := (hf4.cell hg3 (by simp)).trans D1.out
          have hcvq : ∀ n, (convert 33 9 (.slice ba s.length bc)).run Tryd.prog (w4.drewN n) = .ok (.string ⟨s.toArray⟩) (w4.drewN n) := fun n => str_of_row (w4.drewN n) _ s (HROW4.out.keep (Fr.drewN (Fr.refl [] w4) n) (by simp))
          clear hf4 hcv
          go_wp2_with fail
          go_quiet (fail)
          go_wp2_with fail
          go_ret
          exact ⟨rfl, HF4.out.drewN _⟩
end Lx
end Go.Proofs.YtfpkcddnikgabaaDoor
