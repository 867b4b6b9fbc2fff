/- lex: the law LexNumbers. -/
import Derived.Test.YtfpkcddnikgabaaDoorLexJ
import Derived.Test.YtfpkcddnikgabaaDoorShow
namespace Go.Proofs.YtfpkcddnikgabaaDoor
open Go.RowKit

namespace Lx
open LexM (Tok)

theorem dec_all (u : Nat) : (Lib.decDigits u).all Parse.dig = true := by
  induction u using Nat.strongRecOn with
  | _ u ih =>
    rw [dec_step, List.all_append]
    have h1 : (digs (u / 10)).all Parse.dig = true := by
      unfold digs
      split
      · rfl
      · exact ih _ (by omega)
    have h2 : (UInt8.ofNat (48 + u % 10)).toNat = 48 + u % 10 := by rw [UInt8.toNat_ofNat']; omega
    rw [h1]
    simp only [List.all_cons, List.all_nil, Parse.dig, h2, Bool.true_and, Bool.and_true, decide_eq_true_eq]
    omega
theorem dec_val (u : Nat) : Parse.val (Lib.decDigits u) = u := by
  induction u using Nat.strongRecOn with
  | _ u ih =>
    have h2 : (UInt8.ofNat (48 + u % 10)).toNat = 48 + u % 10 := by rw [UInt8.toNat_ofNat']; omega
    rw [dec_step, Parse.val_snoc, h2]
    unfold digs
    split
    · rename_i h; simp [Parse.val]; omega
    · rw [ih _ (by omega)]; omega
theorem dec_ne (u : Nat) : (Lib.decDigits u).isEmpty = false := by rw [dec_step]; simp

theorem val_app (l r : List UInt8) : LexM.val (l ++ r) = r.foldl (fun v c => v * 10 + (c.toNat - 48)) (LexM.val l) := by simp [LexM.val]
theorem val_from (l : List UInt8) : ∀ v : Nat, LexM.val l ≤ l.foldl (fun v c => v * 10 + (c.toNat - 48)) v := by
  have h : ∀ (l : List UInt8) (u v : Nat), u ≤ v → l.foldl (fun v c => v * 10 + (c.toNat - 48)) u ≤ l.foldl (fun v c => v * 10 + (c.toNat - 48)) v := by
    intro l
    induction l with
    | nil => intro u v h; exact h
    | cons c r ih =>
      intro u v h
      refine ih _ _ ?_
      show u * 10 + (c.toNat - 48) ≤ v * 10 + (c.toNat - 48)
      omega
  exact fun v => h l 0 v (Nat.zero_le _)
theorem val_noughts (k : Nat) (l : List UInt8) : LexM.val (List.replicate k 48 ++ l) = LexM.val l := by
  induction k with
  | zero => rfl
  | succ k ih => rw [List.replicate_succ, List.cons_append, ← ih]; rfl
theorem dig_noletter {c : UInt8} (h : LexM.dig c = true) : LexM.letter c = false := by
  simp [LexM.dig] at h
  simp [LexM.letter]
  constructor
  · omega
  · rintro rfl; revert h; decide
theorem dig_noblank {c : UInt8} (h : LexM.dig c = true) : c ≠ 32 := by rintro rfl; revert h; decide
theorem letter_nodig {c : UInt8} (h : LexM.letter c = true) : LexM.dig c = false := by
  cases hd : LexM.dig c
  · rfl
  · rw [dig_noletter hd] at h; cases h
theorem takeWhile_all {f : UInt8 → Bool} {l : List UInt8} (h : l.all f = true) : l.takeWhile f = l := by
  induction l with
  | nil => rfl
  | cons c r ih =>
    simp only [List.all_cons, Bool.and_eq_true] at h
    rw [List.takeWhile_cons, if_pos h.1, ih h.2]
theorem takeWhile_stop {f : UInt8 → Bool} {l r : List UInt8} {c : UInt8} (h : l.all f = true) (hc : f c = false) : (l ++ c :: r).takeWhile f = l := by
  induction l with
  | nil => rw [List.nil_append, List.takeWhile_cons, if_neg (by simp [hc])]
  | cons d l ih =>
    simp only [List.all_cons, Bool.and_eq_true] at h
    rw [List.cons_append, List.takeWhile_cons, if_pos h.1, ih h.2]

theorem tok_digits (c : UInt8) (r : List UInt8) (h : LexM.dig c = true) : LexM.tok1 0 (c :: r) = (if LexM.letter (((c :: r).drop ((c :: r).takeWhile LexM.dig).length).headD 0) then .inl (0 + ((c :: r).takeWhile LexM.dig).length, 4)
      else if 9223372036854775807 < LexM.val ((c :: r).takeWhile LexM.dig) then .inl (0, 8) else .inr (⟨3, [], LexM.val ((c :: r).takeWhile LexM.dig), 0⟩, 0 + ((c :: r).takeWhile LexM.dig).length)) := by
  simp only [LexM.tok1, dig_noletter h, h, if_true, Bool.false_eq_true, if_false]
/-- digits alone -/
theorem lex_digits {l : List UInt8} (hne : l.isEmpty = false) (hl : l.length ≤ 400) (h : l.all LexM.dig = true) :
    LexM.lex l = (if 9223372036854775807 < LexM.val l then .inl (0, 8) else .inr [⟨3, [], LexM.val l, 0⟩, ⟨6, [], 0, l.length⟩]) := by
  obtain ⟨c, r, rfl⟩ : ∃ c r, l = c :: r := by
    cases l with
    | nil => cases hne
    | cons c r => exact ⟨c, r, rfl⟩
  have hc : LexM.dig c = true := by simp only [List.all_cons, Bool.and_eq_true] at h; exact h.1
  have e0 : LexM.lex (c :: r) = LS (c :: r) 0 := if_neg (by omega)
  have hb : at0 (c :: r) 0 ≠ 32 := dig_noblank hc
  rw [e0, LS_tok (by simp) hb, List.drop_zero, tok_digits c r hc, takeWhile_all h, List.drop_length]
  rw [if_neg (by decide)]
  by_cases hv : 9223372036854775807 < LexM.val (c :: r)
  · rw [if_pos hv, if_pos hv]
  · rw [if_neg hv, if_neg hv]
    simp only [Nat.zero_add]
    rw [LS_end]
/-- a letter right behind -/
theorem lex_digits_letter {l : List UInt8} {c : UInt8} (hne : l.isEmpty = false) (hl : (l ++ [c]).length ≤ 400) (h : l.all LexM.dig = true) (hc : LexM.letter c = true) : LexM.lex (l ++ [c]) = .inl (l.length, 4) := by
  obtain ⟨d, r, rfl⟩ : ∃ c r, l = c :: r := by
    cases l with
    | nil => cases hne
    | cons c r => exact ⟨c, r, rfl⟩
  have hd : LexM.dig d = true := by simp only [List.all_cons, Bool.and_eq_true] at h; exact h.1
  have e0 : LexM.lex (d :: r ++ [c]) = LS (d :: r ++ [c]) 0 := if_neg (by omega)
  have hb : at0 (d :: r ++ [c]) 0 ≠ 32 := dig_noblank hd
  have ht := takeWhile_stop (r := []) h (letter_nodig hc)
  rw [e0, LS_tok (by simp) hb, List.drop_zero]
  rw [List.cons_append] at ht ⊢
  rw [tok_digits d _ hd, ht]
  have hdr : (d :: (r ++ [c])).drop (d :: r).length = [c] := by
    rw [← List.cons_append, List.drop_left]
  rw [hdr]
  rw [if_pos (show LexM.letter ([c].headD 0) = true from hc), Nat.zero_add]

theorem app_list2 {tb X : ByteArray} {A B : List UInt8} (h : tb.data.toList = A) (h2 : X.data.toList = B) : (tb ++ X).data.toList = A ++ B := by
  rw [ByteArray.data_append, Array.toList_append, h, h2]
theorem size_list2 {tb : ByteArray} {A : List UInt8} (h : tb.data.toList = A) : (tb.size : Int) = (A.length : Int) := by
  rw [← h]; rfl

/-- the number, noughts ahead -/
def numeral (k : Nat) (A : Int) : List UInt8 := List.replicate k 48 ++ Lib.decDigits A.toNat
theorem numeral_all (k : Nat) (A : Int) : (numeral k A).all LexM.dig = true := by
  unfold numeral
  rw [List.all_append, show (Lib.decDigits A.toNat).all LexM.dig = true from dec_all _, Bool.and_true, List.all_replicate]
  simp; right; decide
theorem numeral_ne (k : Nat) (A : Int) : (numeral k A).isEmpty = false := by
  have := dec_ne A.toNat
  unfold numeral
  cases h : Lib.decDigits A.toNat with
  | nil => rw [h] at this; cases this
  | cons c r => simp
theorem numeral_len {k : Nat} {A : Int} (h0 : 0 ≤ A) (h : A ≤ 9223372036854775807) (hk : k ≤ 30) : (numeral k A).length ≤ 50 := by
  have := Lib.nDigits_le20 A.toNat (by omega)
  unfold numeral
  rw [List.length_append, List.length_replicate, Lib.decDigits_length]
  omega
theorem numeral_val (k : Nat) (A : Int) : LexM.val (numeral k A) = A.toNat := by
  unfold numeral
  rw [val_noughts]
  exact dec_val _
theorem lex_numeral {k : Nat} {A : Int} (h0 : 0 ≤ A) (h : A ≤ 9223372036854775807) (hk : k ≤ 30) : LexM.lex (numeral k A) = .inr [⟨3, [], A, 0⟩, ⟨6, [], 0, (numeral k A).length⟩] := by
  rw [lex_digits (numeral_ne k A) (by have := numeral_len h0 h hk; omega) (numeral_all k A), numeral_val, if_neg (by omega), Int.toNat_of_nonneg h0]
theorem lex_letter {k : Nat} {A : Int} {c : UInt8} (h0 : 0 ≤ A) (h : A ≤ 9223372036854775807) (hk : k ≤ 30) (hc : LexM.letter c = true) : LexM.lex (numeral k A ++ [c]) = .inl ((numeral k A).length, 4) :=
  lex_digits_letter (numeral_ne k A) (by have := numeral_len h0 h hk; rw [List.length_append, List.length_singleton]; omega) (numeral_all k A) hc
theorem lex_over {B : Int} (h0 : 4611686018427387904 ≤ B) (h : B ≤ 9223372036854775807) : LexM.lex (57 :: Lib.decDigits B.toNat ++ [48, 48]) = .inl (0, 8) := by
  have hlen := Lib.nDigits_le20 B.toNat (by omega)
  have hv : LexM.val (Lib.decDigits B.toNat) = B.toNat := dec_val _
  have h1 := val_from (Lib.decDigits B.toNat) 9
  rw [hv] at h1
  have h2 : LexM.val (57 :: Lib.decDigits B.toNat ++ [48, 48]) = ((Lib.decDigits B.toNat).foldl (fun v c => v * 10 + (c.toNat - 48)) 9 * 10 + 0) * 10 + 0 := by
    rw [val_app]; rfl
  rw [lex_digits rfl (by simp only [List.length_append, List.length_cons, List.length_nil, Lib.decDigits_length]; omega) ?_, if_pos (by rw [h2]; omega)]
  rw [List.all_append, List.all_cons, show (Lib.decDigits B.toNat).all LexM.dig = true from dec_all _]
  decide

set_option maxHeartbeats 20000000 in
theorem numbers_law (a : Int) (n c : UInt8) (w : World) (m : Int) (hm : w.cell? ⟨0, 0, none⟩ = some (.int .i64 m)) (h00 : 0 < w.heap.size) (ha : ok64 a = true) :
    Calls Tryd.prog 6 #[.int .i64 a, .int .u8 (n.toNat : Int), .int .u8 (c.toNat : Int)] w fun e w' => e = .returned (.bool true) ∧ Fr [] w w' := by
  have HM := Lib.hid hm
  have hb := ok_iff.1 ha
  obtain ⟨hb1, hb2⟩ := hb
  clear hm
  go_enter Tryd.func6, Tryd.ntmps6
  go_wp2_with fail
  refine (begun_any w m HM.out h00).mono ?_
  rintro e w1 ⟨rfl, hf1⟩
  have HF1 := Lib.hid hf1
  clear hf1 ha
  rcases (by omega : a < 0 ∨ 0 ≤ a) with hneg | hneg
  · have hA : 0 ≤ -(a + 1) ∧ -(a + 1) ≤ 9223372036854775807 := by omega
    go_wp2_with fail
    obtain ⟨A, hAe⟩ : ∃ A, -(a + 1) = A := ⟨_, rfl⟩
    rw [hAe] at hA ⊢
    clear hAe
    obtain ⟨hA0, hA1⟩ := hA
    clear hb1 hb2 hneg
    refine (rshow_any A w1 (ok_iff.2 ⟨by omega, hA1⟩)).mono ?_
    rintro e w2 ⟨rfl, hf2⟩
    have HF2 : Hid (Fr [] w w2) := HF1.out.trans hf2
    rw [show Lib.itoa A = Lib.decDigits A.toNat by rw [Lib.itoa, if_neg (by omega)]]
    clear hf2
    obtain ⟨N, hN⟩ : ∃ N, n.toNat % 30 = N := ⟨_, rfl⟩
    have hN30 : N < 30 := by omega
    have hnI : (n.toNat : Int) % 30 = (N : Int) := by omega
    go_wp2_with fail
    go_loop [7, 8] (fun u7 u8 => ∃ (k : Nat) (tb : ByteArray), k ≤ N ∧ u8 = .int .i64 k ∧ u7 = .string tb ∧ Hid (tb.data.toList = numeral k A)) (fun _ i => N - (intOf i).toNat)
    case atStart => exact ⟨0, _, Nat.zero_le _, rfl, rfl, rfl⟩
    case round =>
      obtain ⟨k, tb, hk, rfl, rfl, HT⟩ := hrel
      have htb : tb.size ≤ 50 := by
        have h1 := size_list2 HT.out
        have h2 := numeral_len (k := k) hA0 hA1 (by omega)
        omega
      by_cases hlt : k < N
      · have HT2 : Hid ((⟨#[48]⟩ ++ tb : ByteArray).data.toList = numeral (k + 1) A) := by
          rw [Hid, app_list2 (show (ByteArray.mk #[48]).data.toList = [48] from rfl) HT.out]
          rfl
        go_wp2_with fail
        go_round
        case rel => exact ⟨k + 1, _, by omega, by go_num, rfl, HT2⟩
        case measure => simp [intOf]; omega
      · obtain rfl : k = N := by omega
        have e1 : tb = ⟨(numeral k A).toArray⟩ := bytes_ext HT.out
        have e2 : tb ++ ⟨#[c]⟩ = ⟨(numeral k A ++ [c]).toArray⟩ := bytes_ext (app_list2 HT.out rfl)
        have hnl := numeral_len (k := k) hA0 hA1 (by omega)
        have hsz := size_list2 HT.out
        have hl1 := lex_any (numeral k A) w2 m ((HF2.out.cell h00 (by simp)).trans HM.out) (Nat.lt_of_lt_of_le h00 HF2.out.size) (by omega)
        rw [← e1] at hl1
        have HL1 := Lib.hid hl1
        have HE2 := Lib.hid e2
        clear hl1 e1 e2
        go_wp2_with fail
        refine HL1.out.mono ?_
        intro e w3 hr
        obtain ⟨g, off, cap, rfl, hcap, -, hg, -, hcell, hf3⟩ := lex_good (lex_numeral (k := k) hA0 hA1 (by omega)) hr
        have HF3 : Hid (Fr [] w w3) := HF2.out.trans hf3
        have D0 : Hid (w3.cell? ⟨g, off, none⟩ = some (.int .i64 3)) := hcell 0 _ rfl
        have D2 : Hid (w3.cell? ⟨g, off + 2, none⟩ = some (.int .i64 A)) := hcell 2 _ rfl
        clear hr hcell hf3 HL1
        have hcv := str_of_one (P := Tryd.prog) Tryd.underlying33 Tryd.underlying9 Tryd.underlying5 w3 (c.toNat : Int) 1
        have hl2 := lex_any (numeral k A ++ [c]) (w3.alloc (.cells #[.int .u8 (c.toNat : Int)] 5)) m ((((Fr.refl [] w3).alloc _).cell (Nat.lt_of_lt_of_le h00 HF3.out.size) (by simp)).trans ((HF3.out.cell h00 (by simp)).trans HM.out)) (by simp) (by rw [List.length_append, List.length_singleton]; omega)
        rw [← HE2.out] at hl2
        have HL2 := Lib.hid hl2
        clear hl2
        go_wp2_with fail
        refine HL2.out.mono ?_
        intro e w4 hr
        obtain ⟨y, hy⟩ : ∃ y : Int, (c.toNat : Int) = y := ⟨_, rfl⟩
        cases hlt2 : LexM.letter c
        · have hyy : y < 95 ∨ (95 < y ∧ y < 97) ∨ (97 ≤ y ∧ 122 < y) := by
            simp [LexM.letter] at hlt2
            have h95 : ¬ c.toNat = 95 := fun h => hlt2.2 (UInt8.toNat_inj.1 h)
            have := hlt2.1
            omega
          rw [hy]
          clear hlt2 hy hsz
          rcases hX : LexM.lex (numeral k A ++ [c]) with ⟨q, x⟩ | l
          · obtain ⟨rfl, hf4⟩ := lex_bad hX hr
            have HF34 : Hid (Fr [] w3 w4) := ((Fr.refl [] w3).alloc _).trans hf4
            have HF4 : Hid (Fr [] w w4) := HF3.out.trans HF34.out
            have D04 : Hid (w4.cell? ⟨g, off, none⟩ = some (.int .i64 3)) := (HF34.out.cell hg (by simp)).trans D0.out
            have D24 : Hid (w4.cell? ⟨g, off + 2, none⟩ = some (.int .i64 A)) := (HF34.out.cell hg (by simp)).trans D2.out
            clear hr hf4 HL2 hcv HT HE2 hX hnl D0 D2
            cases hx4 : x == 4
            · rcases hyy with hy1 | ⟨hy1, hy2⟩ | ⟨hy1, hy2⟩
              all_goals
                go_wp2_with fail
                obtain ⟨B, hB⟩ : ∃ B, 4611686018427387904 + A / 4 = B := ⟨_, rfl⟩
                have hB0 : 4611686018427387904 ≤ B := by omega
                have hB1 : B ≤ 9223372036854775807 := by omega
                rw [hB]
                clear hB
                refine (rshow_any B w4 (ok_iff.2 ⟨by omega, hB1⟩)).mono ?_
                rintro e w5 ⟨rfl, hf5⟩
                rw [show Lib.itoa B = Lib.decDigits B.toNat by rw [Lib.itoa, if_neg (by omega)]]
                have HOV := Lib.hid (lex_over hB0 hB1)
                have hdl : (Lib.decDigits B.toNat).length ≤ 20 := by rw [Lib.decDigits_length]; exact Lib.nDigits_le20 _ (by omega)
                obtain ⟨dl, hdd⟩ : ∃ dl, Lib.decDigits B.toNat = dl := ⟨_, rfl⟩
                rw [hdd] at HOV hdl ⊢
                clear hdd hB0 hB1
                have HF5 : Hid (Fr [] w w5) := HF4.out.trans hf5
                have e3 : ⟨#[57]⟩ ++ ⟨dl.toArray⟩ ++ ⟨#[48, 48]⟩ = (⟨(57 :: dl ++ [48, 48]).toArray⟩ : ByteArray) := bytes_ext (app_list2 (app_list2 (show (ByteArray.mk #[57]).data.toList = [57] from rfl) rfl) rfl)
                have hl3 := lex_any (57 :: dl ++ [48, 48]) w5 m ((HF5.out.cell h00 (by simp)).trans HM.out) (Nat.lt_of_lt_of_le h00 HF5.out.size) (by simp only [List.length_append, List.length_cons, List.length_nil]; omega)
                rw [← e3] at hl3
                have HL3 := Lib.hid hl3
                clear hl3 e3
                go_wp2_with fail
                refine HL3.out.mono ?_
                intro e w6 hr
                obtain ⟨rfl, hf6⟩ := lex_bad HOV.out hr
                have d0 : w6.cell? ⟨g, off, none⟩ = some (.int .i64 3) := ((hf5.trans hf6).cell (Nat.lt_of_lt_of_le hg HF34.out.size) (by simp)).trans D04.out
                have d2 : w6.cell? ⟨g, off + 2, none⟩ = some (.int .i64 A) := ((hf5.trans hf6).cell (Nat.lt_of_lt_of_le hg HF34.out.size) (by simp)).trans D24.out
                have HF6 : Hid (Fr [] w w6) := HF5.out.trans hf6
                clear hr hf6 HL3 HOV hf5
                go_wp2_with fail
                go_ret
                first
                  | exact ⟨rfl, HF6.out⟩
                  | (refine ⟨?_, HF6.out⟩
                     have h95 : (y == 95) = false := by rw [beq_eq_false_iff_ne]; omega
                     simp [h95] <;> omega)
            · cases hq : ((q : Int) == (tb.size : Int))
              all_goals
                rcases hyy with hy1 | ⟨hy1, hy2⟩ | ⟨hy1, hy2⟩
                all_goals
                  go_wp2_with fail
                  obtain ⟨B, hB⟩ : ∃ B, 4611686018427387904 + A / 4 = B := ⟨_, rfl⟩
                  have hB0 : 4611686018427387904 ≤ B := by omega
                  have hB1 : B ≤ 9223372036854775807 := by omega
                  rw [hB]
                  clear hB
                  refine (rshow_any B w4 (ok_iff.2 ⟨by omega, hB1⟩)).mono ?_
                  rintro e w5 ⟨rfl, hf5⟩
                  rw [show Lib.itoa B = Lib.decDigits B.toNat by rw [Lib.itoa, if_neg (by omega)]]
                  have HOV := Lib.hid (lex_over hB0 hB1)
                  have hdl : (Lib.decDigits B.toNat).length ≤ 20 := by rw [Lib.decDigits_length]; exact Lib.nDigits_le20 _ (by omega)
                  obtain ⟨dl, hdd⟩ : ∃ dl, Lib.decDigits B.toNat = dl := ⟨_, rfl⟩
                  rw [hdd] at HOV hdl ⊢
                  clear hdd hB0 hB1
                  have HF5 : Hid (Fr [] w w5) := HF4.out.trans hf5
                  have e3 : ⟨#[57]⟩ ++ ⟨dl.toArray⟩ ++ ⟨#[48, 48]⟩ = (⟨(57 :: dl ++ [48, 48]).toArray⟩ : ByteArray) := bytes_ext (app_list2 (app_list2 (show (ByteArray.mk #[57]).data.toList = [57] from rfl) rfl) rfl)
                  have hl3 := lex_any (57 :: dl ++ [48, 48]) w5 m ((HF5.out.cell h00 (by simp)).trans HM.out) (Nat.lt_of_lt_of_le h00 HF5.out.size) (by simp only [List.length_append, List.length_cons, List.length_nil]; omega)
                  rw [← e3] at hl3
                  have HL3 := Lib.hid hl3
                  clear hl3 e3
                  go_wp2_with fail
                  refine HL3.out.mono ?_
                  intro e w6 hr
                  obtain ⟨rfl, hf6⟩ := lex_bad HOV.out hr
                  have d0 : w6.cell? ⟨g, off, none⟩ = some (.int .i64 3) := ((hf5.trans hf6).cell (Nat.lt_of_lt_of_le hg HF34.out.size) (by simp)).trans D04.out
                  have d2 : w6.cell? ⟨g, off + 2, none⟩ = some (.int .i64 A) := ((hf5.trans hf6).cell (Nat.lt_of_lt_of_le hg HF34.out.size) (by simp)).trans D24.out
                  have HF6 : Hid (Fr [] w w6) := HF5.out.trans hf6
                  clear hr hf6 HL3 HOV hf5
                  go_wp2_with fail
                  go_ret
                  first
                    | exact ⟨rfl, HF6.out⟩
                    | (refine ⟨?_, HF6.out⟩
                       have h95 : (y == 95) = false := by rw [beq_eq_false_iff_ne]; omega
                       simp [h95] <;> omega)
          · obtain ⟨g4, off4, cap4, rfl, hcap4, -, -, -, -, hf4⟩ := lex_good hX hr
            have HF34 : Hid (Fr [] w3 w4) := ((Fr.refl [] w3).alloc _).trans hf4
            have HF4 : Hid (Fr [] w w4) := HF3.out.trans HF34.out
            have D04 : Hid (w4.cell? ⟨g, off, none⟩ = some (.int .i64 3)) := (HF34.out.cell hg (by simp)).trans D0.out
            have D24 : Hid (w4.cell? ⟨g, off + 2, none⟩ = some (.int .i64 A)) := (HF34.out.cell hg (by simp)).trans D2.out
            clear hr hf4 HL2 hcv HT HE2 hX hnl D0 D2
            rcases hyy with hy1 | ⟨hy1, hy2⟩ | ⟨hy1, hy2⟩
            all_goals
              go_wp2_with fail
              obtain ⟨B, hB⟩ : ∃ B, 4611686018427387904 + A / 4 = B := ⟨_, rfl⟩
              have hB0 : 4611686018427387904 ≤ B := by omega
              have hB1 : B ≤ 9223372036854775807 := by omega
              rw [hB]
              clear hB
              refine (rshow_any B w4 (ok_iff.2 ⟨by omega, hB1⟩)).mono ?_
              rintro e w5 ⟨rfl, hf5⟩
              rw [show Lib.itoa B = Lib.decDigits B.toNat by rw [Lib.itoa, if_neg (by omega)]]
              have HOV := Lib.hid (lex_over hB0 hB1)
              have hdl : (Lib.decDigits B.toNat).length ≤ 20 := by rw [Lib.decDigits_length]; exact Lib.nDigits_le20 _ (by omega)
              obtain ⟨dl, hdd⟩ : ∃ dl, Lib.decDigits B.toNat = dl := ⟨_, rfl⟩
              rw [hdd] at HOV hdl ⊢
              clear hdd hB0 hB1
              have HF5 : Hid (Fr [] w w5) := HF4.out.trans hf5
              have e3 : ⟨#[57]⟩ ++ ⟨dl.toArray⟩ ++ ⟨#[48, 48]⟩ = (⟨(57 :: dl ++ [48, 48]).toArray⟩ : ByteArray) := bytes_ext (app_list2 (app_list2 (show (ByteArray.mk #[57]).data.toList = [57] from rfl) rfl) rfl)
              have hl3 := lex_any (57 :: dl ++ [48, 48]) w5 m ((HF5.out.cell h00 (by simp)).trans HM.out) (Nat.lt_of_lt_of_le h00 HF5.out.size) (by simp only [List.length_append, List.length_cons, List.length_nil]; omega)
              rw [← e3] at hl3
              have HL3 := Lib.hid hl3
              clear hl3 e3
              go_wp2_with fail
              refine HL3.out.mono ?_
              intro e w6 hr
              obtain ⟨rfl, hf6⟩ := lex_bad HOV.out hr
              have d0 : w6.cell? ⟨g, off, none⟩ = some (.int .i64 3) := ((hf5.trans hf6).cell (Nat.lt_of_lt_of_le hg HF34.out.size) (by simp)).trans D04.out
              have d2 : w6.cell? ⟨g, off + 2, none⟩ = some (.int .i64 A) := ((hf5.trans hf6).cell (Nat.lt_of_lt_of_le hg HF34.out.size) (by simp)).trans D24.out
              have HF6 : Hid (Fr [] w w6) := HF5.out.trans hf6
              clear hr hf6 HL3 HOV hf5
              go_wp2_with fail
              go_ret
              first
                | exact ⟨rfl, HF6.out⟩
                | (refine ⟨?_, HF6.out⟩
                   have h95 : (y == 95) = false := by rw [beq_eq_false_iff_ne]; omega
                   simp [h95] <;> omega)
        · obtain ⟨rfl, hf4⟩ := lex_bad (lex_letter (k := k) hA0 hA1 (by omega) hlt2) hr
          have HF34 : Hid (Fr [] w3 w4) := ((Fr.refl [] w3).alloc _).trans hf4
          have HF4 : Hid (Fr [] w w4) := HF3.out.trans HF34.out
          have D04 : Hid (w4.cell? ⟨g, off, none⟩ = some (.int .i64 3)) := (HF34.out.cell hg (by simp)).trans D0.out
          have D24 : Hid (w4.cell? ⟨g, off + 2, none⟩ = some (.int .i64 A)) := (HF34.out.cell hg (by simp)).trans D2.out
          obtain ⟨L, hL⟩ : ∃ L, (numeral k A).length = L := ⟨_, rfl⟩
          rw [hL] at hsz ⊢
          have hq : ((L : Int) == (tb.size : Int)) = true := by rw [hsz]; exact beq_self_eq_true _
          have hyy : (97 ≤ y ∧ y ≤ 122) ∨ y = 95 := by
            simp [LexM.letter] at hlt2
            rcases hlt2 with h | h
            · left; omega
            · right; rw [← hy, h]; rfl
          rw [hy]
          clear hr hf4 HL2 hcv hL HT HE2 hlt2 hy hsz hnl D0 D2
          rcases hyy with ⟨hy1, hy2⟩ | rfl
          all_goals
            go_wp2_with fail
            obtain ⟨B, hB⟩ : ∃ B, 4611686018427387904 + A / 4 = B := ⟨_, rfl⟩
            have hB0 : 4611686018427387904 ≤ B := by omega
            have hB1 : B ≤ 9223372036854775807 := by omega
            rw [hB]
            clear hB
            refine (rshow_any B w4 (ok_iff.2 ⟨by omega, hB1⟩)).mono ?_
            rintro e w5 ⟨rfl, hf5⟩
            rw [show Lib.itoa B = Lib.decDigits B.toNat by rw [Lib.itoa, if_neg (by omega)]]
            have HOV := Lib.hid (lex_over hB0 hB1)
            have hdl : (Lib.decDigits B.toNat).length ≤ 20 := by rw [Lib.decDigits_length]; exact Lib.nDigits_le20 _ (by omega)
            obtain ⟨dl, hdd⟩ : ∃ dl, Lib.decDigits B.toNat = dl := ⟨_, rfl⟩
            rw [hdd] at HOV hdl ⊢
            clear hdd hB0 hB1
            have HF5 : Hid (Fr [] w w5) := HF4.out.trans hf5
            have e3 : ⟨#[57]⟩ ++ ⟨dl.toArray⟩ ++ ⟨#[48, 48]⟩ = (⟨(57 :: dl ++ [48, 48]).toArray⟩ : ByteArray) := bytes_ext (app_list2 (app_list2 (show (ByteArray.mk #[57]).data.toList = [57] from rfl) rfl) rfl)
            have hl3 := lex_any (57 :: dl ++ [48, 48]) w5 m ((HF5.out.cell h00 (by simp)).trans HM.out) (Nat.lt_of_lt_of_le h00 HF5.out.size) (by simp only [List.length_append, List.length_cons, List.length_nil]; omega)
            rw [← e3] at hl3
            have HL3 := Lib.hid hl3
            clear hl3 e3
            go_wp2_with fail
            refine HL3.out.mono ?_
            intro e w6 hr
            obtain ⟨rfl, hf6⟩ := lex_bad HOV.out hr
            have d0 : w6.cell? ⟨g, off, none⟩ = some (.int .i64 3) := ((hf5.trans hf6).cell (Nat.lt_of_lt_of_le hg HF34.out.size) (by simp)).trans D04.out
            have d2 : w6.cell? ⟨g, off + 2, none⟩ = some (.int .i64 A) := ((hf5.trans hf6).cell (Nat.lt_of_lt_of_le hg HF34.out.size) (by simp)).trans D24.out
            have HF6 : Hid (Fr [] w w6) := HF5.out.trans hf6
            clear hr hf6 HL3 HOV hf5
            go_wp2_with fail
            go_ret
            first
              | exact ⟨rfl, HF6.out⟩
              | (refine ⟨?_, HF6.out⟩
                 have h95 : (y == 95) = false := by rw [beq_eq_false_iff_ne]; omega
                 simp [h95] <;> omega)
  · have hA : 0 ≤ a ∧ a ≤ 9223372036854775807 := by omega
    go_wp2_with fail
    obtain ⟨A, hAe⟩ : ∃ A, a = A := ⟨_, rfl⟩
    rw [hAe] at hA ⊢
    clear hAe
    obtain ⟨hA0, hA1⟩ := hA
    clear hb1 hb2 hneg
    refine (rshow_any A w1 (ok_iff.2 ⟨by omega, hA1⟩)).mono ?_
    rintro e w2 ⟨rfl, hf2⟩
    have HF2 : Hid (Fr [] w w2) := HF1.out.trans hf2
    rw [show Lib.itoa A = Lib.decDigits A.toNat by rw [Lib.itoa, if_neg (by omega)]]
    clear hf2
    obtain ⟨N, hN⟩ : ∃ N, n.toNat % 30 = N := ⟨_, rfl⟩
    have hN30 : N < 30 := by omega
    have hnI : (n.toNat : Int) % 30 = (N : Int) := by omega
    go_wp2_with fail
    go_loop [7, 8] (fun u7 u8 => ∃ (k : Nat) (tb : ByteArray), k ≤ N ∧ u8 = .int .i64 k ∧ u7 = .string tb ∧ Hid (tb.data.toList = numeral k A)) (fun _ i => N - (intOf i).toNat)
    case atStart => exact ⟨0, _, Nat.zero_le _, rfl, rfl, rfl⟩
    case round =>
      obtain ⟨k, tb, hk, rfl, rfl, HT⟩ := hrel
      have htb : tb.size ≤ 50 := by
        have h1 := size_list2 HT.out
        have h2 := numeral_len (k := k) hA0 hA1 (by omega)
        omega
      by_cases hlt : k < N
      · have HT2 : Hid ((⟨#[48]⟩ ++ tb : ByteArray).data.toList = numeral (k + 1) A) := by
          rw [Hid, app_list2 (show (ByteArray.mk #[48]).data.toList = [48] from rfl) HT.out]
          rfl
        go_wp2_with fail
        go_round
        case rel => exact ⟨k + 1, _, by omega, by go_num, rfl, HT2⟩
        case measure => simp [intOf]; omega
      · obtain rfl : k = N := by omega
        have e1 : tb = ⟨(numeral k A).toArray⟩ := bytes_ext HT.out
        have e2 : tb ++ ⟨#[c]⟩ = ⟨(numeral k A ++ [c]).toArray⟩ := bytes_ext (app_list2 HT.out rfl)
        have hnl := numeral_len (k := k) hA0 hA1 (by omega)
        have hsz := size_list2 HT.out
        have hl1 := lex_any (numeral k A) w2 m ((HF2.out.cell h00 (by simp)).trans HM.out) (Nat.lt_of_lt_of_le h00 HF2.out.size) (by omega)
        rw [← e1] at hl1
        have HL1 := Lib.hid hl1
        have HE2 := Lib.hid e2
        clear hl1 e1 e2
        go_wp2_with fail
        refine HL1.out.mono ?_
        intro e w3 hr
        obtain ⟨g, off, cap, rfl, hcap, -, hg, -, hcell, hf3⟩ := lex_good (lex_numeral (k := k) hA0 hA1 (by omega)) hr
        have HF3 : Hid (Fr [] w w3) := HF2.out.trans hf3
        have D0 : Hid (w3.cell? ⟨g, off, none⟩ = some (.int .i64 3)) := hcell 0 _ rfl
        have D2 : Hid (w3.cell? ⟨g, off + 2, none⟩ = some (.int .i64 A)) := hcell 2 _ rfl
        clear hr hcell hf3 HL1
        have hcv := str_of_one (P := Tryd.prog) Tryd.underlying33 Tryd.underlying9 Tryd.underlying5 w3 (c.toNat : Int) 1
        have hl2 := lex_any (numeral k A ++ [c]) (w3.alloc (.cells #[.int .u8 (c.toNat : Int)] 5)) m ((((Fr.refl [] w3).alloc _).cell (Nat.lt_of_lt_of_le h00 HF3.out.size) (by simp)).trans ((HF3.out.cell h00 (by simp)).trans HM.out)) (by simp) (by rw [List.length_append, List.length_singleton]; omega)
        rw [← HE2.out] at hl2
        have HL2 := Lib.hid hl2
        clear hl2
        go_wp2_with fail
        refine HL2.out.mono ?_
        intro e w4 hr
        obtain ⟨y, hy⟩ : ∃ y : Int, (c.toNat : Int) = y := ⟨_, rfl⟩
        cases hlt2 : LexM.letter c
        · have hyy : y < 95 ∨ (95 < y ∧ y < 97) ∨ (97 ≤ y ∧ 122 < y) := by
            simp [LexM.letter] at hlt2
            have h95 : ¬ c.toNat = 95 := fun h => hlt2.2 (UInt8.toNat_inj.1 h)
            have := hlt2.1
            omega
          rw [hy]
          clear hlt2 hy hsz
          rcases hX : LexM.lex (numeral k A ++ [c]) with ⟨q, x⟩ | l
          · obtain ⟨rfl, hf4⟩ := lex_bad hX hr
            have HF34 : Hid (Fr [] w3 w4) := ((Fr.refl [] w3).alloc _).trans hf4
            have HF4 : Hid (Fr [] w w4) := HF3.out.trans HF34.out
            have D04 : Hid (w4.cell? ⟨g, off, none⟩ = some (.int .i64 3)) := (HF34.out.cell hg (by simp)).trans D0.out
            have D24 : Hid (w4.cell? ⟨g, off + 2, none⟩ = some (.int .i64 A)) := (HF34.out.cell hg (by simp)).trans D2.out
            clear hr hf4 HL2 hcv HT HE2 hX hnl D0 D2
            cases hx4 : x == 4
            · rcases hyy with hy1 | ⟨hy1, hy2⟩ | ⟨hy1, hy2⟩
              all_goals
                go_wp2_with fail
                obtain ⟨B, hB⟩ : ∃ B, 4611686018427387904 + A / 4 = B := ⟨_, rfl⟩
                have hB0 : 4611686018427387904 ≤ B := by omega
                have hB1 : B ≤ 9223372036854775807 := by omega
                rw [hB]
                clear hB
                refine (rshow_any B w4 (ok_iff.2 ⟨by omega, hB1⟩)).mono ?_
                rintro e w5 ⟨rfl, hf5⟩
                rw [show Lib.itoa B = Lib.decDigits B.toNat by rw [Lib.itoa, if_neg (by omega)]]
                have HOV := Lib.hid (lex_over hB0 hB1)
                have hdl : (Lib.decDigits B.toNat).length ≤ 20 := by rw [Lib.decDigits_length]; exact Lib.nDigits_le20 _ (by omega)
                obtain ⟨dl, hdd⟩ : ∃ dl, Lib.decDigits B.toNat = dl := ⟨_, rfl⟩
                rw [hdd] at HOV hdl ⊢
                clear hdd hB0 hB1
                have HF5 : Hid (Fr [] w w5) := HF4.out.trans hf5
                have e3 : ⟨#[57]⟩ ++ ⟨dl.toArray⟩ ++ ⟨#[48, 48]⟩ = (⟨(57 :: dl ++ [48, 48]).toArray⟩ : ByteArray) := bytes_ext (app_list2 (app_list2 (show (ByteArray.mk #[57]).data.toList = [57] from rfl) rfl) rfl)
                have hl3 := lex_any (57 :: dl ++ [48, 48]) w5 m ((HF5.out.cell h00 (by simp)).trans HM.out) (Nat.lt_of_lt_of_le h00 HF5.out.size) (by simp only [List.length_append, List.length_cons, List.length_nil]; omega)
                rw [← e3] at hl3
                have HL3 := Lib.hid hl3
                clear hl3 e3
                go_wp2_with fail
                refine HL3.out.mono ?_
                intro e w6 hr
                obtain ⟨rfl, hf6⟩ := lex_bad HOV.out hr
                have d0 : w6.cell? ⟨g, off, none⟩ = some (.int .i64 3) := ((hf5.trans hf6).cell (Nat.lt_of_lt_of_le hg HF34.out.size) (by simp)).trans D04.out
                have d2 : w6.cell? ⟨g, off + 2, none⟩ = some (.int .i64 A) := ((hf5.trans hf6).cell (Nat.lt_of_lt_of_le hg HF34.out.size) (by simp)).trans D24.out
                have HF6 : Hid (Fr [] w w6) := HF5.out.trans hf6
                clear hr hf6 HL3 HOV hf5
                go_wp2_with fail
                go_ret
                first
                  | exact ⟨rfl, HF6.out⟩
                  | (refine ⟨?_, HF6.out⟩
                     have h95 : (y == 95) = false := by rw [beq_eq_false_iff_ne]; omega
                     simp [h95] <;> omega)
            · cases hq : ((q : Int) == (tb.size : Int))
              all_goals
                rcases hyy with hy1 | ⟨hy1, hy2⟩ | ⟨hy1, hy2⟩
                all_goals
                  go_wp2_with fail
                  obtain ⟨B, hB⟩ : ∃ B, 4611686018427387904 + A / 4 = B := ⟨_, rfl⟩
                  have hB0 : 4611686018427387904 ≤ B := by omega
                  have hB1 : B ≤ 9223372036854775807 := by omega
                  rw [hB]
                  clear hB
                  refine (rshow_any B w4 (ok_iff.2 ⟨by omega, hB1⟩)).mono ?_
                  rintro e w5 ⟨rfl, hf5⟩
                  rw [show Lib.itoa B = Lib.decDigits B.toNat by rw [Lib.itoa, if_neg (by omega)]]
                  have HOV := Lib.hid (lex_over hB0 hB1)
                  have hdl : (Lib.decDigits B.toNat).length ≤ 20 := by rw [Lib.decDigits_length]; exact Lib.nDigits_le20 _ (by omega)
                  obtain ⟨dl, hdd⟩ : ∃ dl, Lib.decDigits B.toNat = dl := ⟨_, rfl⟩
                  rw [hdd] at HOV hdl ⊢
                  clear hdd hB0 hB1
                  have HF5 : Hid (Fr [] w w5) := HF4.out.trans hf5
                  have e3 : ⟨#[57]⟩ ++ ⟨dl.toArray⟩ ++ ⟨#[48, 48]⟩ = (⟨(57 :: dl ++ [48, 48]).toArray⟩ : ByteArray) := bytes_ext (app_list2 (app_list2 (show (ByteArray.mk #[57]).data.toList = [57] from rfl) rfl) rfl)
                  have hl3 := lex_any (57 :: dl ++ [48, 48]) w5 m ((HF5.out.cell h00 (by simp)).trans HM.out) (Nat.lt_of_lt_of_le h00 HF5.out.size) (by simp only [List.length_append, List.length_cons, List.length_nil]; omega)
                  rw [← e3] at hl3
                  have HL3 := Lib.hid hl3
                  clear hl3 e3
                  go_wp2_with fail
                  refine HL3.out.mono ?_
                  intro e w6 hr
                  obtain ⟨rfl, hf6⟩ := lex_bad HOV.out hr
                  have d0 : w6.cell? ⟨g, off, none⟩ = some (.int .i64 3) := ((hf5.trans hf6).cell (Nat.lt_of_lt_of_le hg HF34.out.size) (by simp)).trans D04.out
                  have d2 : w6.cell? ⟨g, off + 2, none⟩ = some (.int .i64 A) := ((hf5.trans hf6).cell (Nat.lt_of_lt_of_le hg HF34.out.size) (by simp)).trans D24.out
                  have HF6 : Hid (Fr [] w w6) := HF5.out.trans hf6
                  clear hr hf6 HL3 HOV hf5
                  go_wp2_with fail
                  go_ret
                  first
                    | exact ⟨rfl, HF6.out⟩
                    | (refine ⟨?_, HF6.out⟩
                       have h95 : (y == 95) = false := by rw [beq_eq_false_iff_ne]; omega
                       simp [h95] <;> omega)
          · obtain ⟨g4, off4, cap4, rfl, hcap4, -, -, -, -, hf4⟩ := lex_good hX hr
            have HF34 : Hid (Fr [] w3 w4) := ((Fr.refl [] w3).alloc _).trans hf4
            have HF4 : Hid (Fr [] w w4) := HF3.out.trans HF34.out
            have D04 : Hid (w4.cell? ⟨g, off, none⟩ = some (.int .i64 3)) := (HF34.out.cell hg (by simp)).trans D0.out
            have D24 : Hid (w4.cell? ⟨g, off + 2, none⟩ = some (.int .i64 A)) := (HF34.out.cell hg (by simp)).trans D2.out
            clear hr hf4 HL2 hcv HT HE2 hX hnl D0 D2
            rcases hyy with hy1 | ⟨hy1, hy2⟩ | ⟨hy1, hy2⟩
            all_goals
              go_wp2_with fail
              obtain ⟨B, hB⟩ : ∃ B, 4611686018427387904 + A / 4 = B := ⟨_, rfl⟩
              have hB0 : 4611686018427387904 ≤ B := by omega
              have hB1 : B ≤ 9223372036854775807 := by omega
              rw [hB]
              clear hB
              refine (rshow_any B w4 (ok_iff.2 ⟨by omega, hB1⟩)).mono ?_
              rintro e w5 ⟨rfl, hf5⟩
              rw [show Lib.itoa B = Lib.decDigits B.toNat by rw [Lib.itoa, if_neg (by omega)]]
              have HOV := Lib.hid (lex_over hB0 hB1)
              have hdl : (Lib.decDigits B.toNat).length ≤ 20 := by rw [Lib.decDigits_length]; exact Lib.nDigits_le20 _ (by omega)
              obtain ⟨dl, hdd⟩ : ∃ dl, Lib.decDigits B.toNat = dl := ⟨_, rfl⟩
              rw [hdd] at HOV hdl ⊢
              clear hdd hB0 hB1
              have HF5 : Hid (Fr [] w w5) := HF4.out.trans hf5
              have e3 : ⟨#[57]⟩ ++ ⟨dl.toArray⟩ ++ ⟨#[48, 48]⟩ = (⟨(57 :: dl ++ [48, 48]).toArray⟩ : ByteArray) := bytes_ext (app_list2 (app_list2 (show (ByteArray.mk #[57]).data.toList = [57] from rfl) rfl) rfl)
              have hl3 := lex_any (57 :: dl ++ [48, 48]) w5 m ((HF5.out.cell h00 (by simp)).trans HM.out) (Nat.lt_of_lt_of_le h00 HF5.out.size) (by simp only [List.length_append, List.length_cons, List.length_nil]; omega)
              rw [← e3] at hl3
              have HL3 := Lib.hid hl3
              clear hl3 e3
              go_wp2_with fail
              refine HL3.out.mono ?_
              intro e w6 hr
              obtain ⟨rfl, hf6⟩ := lex_bad HOV.out hr
              have d0 : w6.cell? ⟨g, off, none⟩ = some (.int .i64 3) := ((hf5.trans hf6).cell (Nat.lt_of_lt_of_le hg HF34.out.size) (by simp)).trans D04.out
              have d2 : w6.cell? ⟨g, off + 2, none⟩ = some (.int .i64 A) := ((hf5.trans hf6).cell (Nat.lt_of_lt_of_le hg HF34.out.size) (by simp)).trans D24.out
              have HF6 : Hid (Fr [] w w6) := HF5.out.trans hf6
              clear hr hf6 HL3 HOV hf5
              go_wp2_with fail
              go_ret
              first
                | exact ⟨rfl, HF6.out⟩
                | (refine ⟨?_, HF6.out⟩
                   have h95 : (y == 95) = false := by rw [beq_eq_false_iff_ne]; omega
                   simp [h95] <;> omega)
        · obtain ⟨rfl, hf4⟩ := lex_bad (lex_letter (k := k) hA0 hA1 (by omega) hlt2) hr
          have HF34 : Hid (Fr [] w3 w4) := ((Fr.refl [] w3).alloc _).trans hf4
          have HF4 : Hid (Fr [] w w4) := HF3.out.trans HF34.out
          have D04 : Hid (w4.cell? ⟨g, off, none⟩ = some (.int .i64 3)) := (HF34.out.cell hg (by simp)).trans D0.out
          have D24 : Hid (w4.cell? ⟨g, off + 2, none⟩ = some (.int .i64 A)) := (HF34.out.cell hg (by simp)).trans D2.out
          obtain ⟨L, hL⟩ : ∃ L, (numeral k A).length = L := ⟨_, rfl⟩
          rw [hL] at hsz ⊢
          have hq : ((L : Int) == (tb.size : Int)) = true := by rw [hsz]; exact beq_self_eq_true _
          have hyy : (97 ≤ y ∧ y ≤ 122) ∨ y = 95 := by
            simp [LexM.letter] at hlt2
            rcases hlt2 with h | h
            · left; omega
            · right; rw [← hy, h]; rfl
          rw [hy]
          clear hr hf4 HL2 hcv hL HT HE2 hlt2 hy hsz hnl D0 D2
          rcases hyy with ⟨hy1, hy2⟩ | rfl
          all_goals
            go_wp2_with fail
            obtain ⟨B, hB⟩ : ∃ B, 4611686018427387904 + A / 4 = B := ⟨_, rfl⟩
            have hB0 : 4611686018427387904 ≤ B := by omega
            have hB1 : B ≤ 9223372036854775807 := by omega
            rw [hB]
            clear hB
            refine (rshow_any B w4 (ok_iff.2 ⟨by omega, hB1⟩)).mono ?_
            rintro e w5 ⟨rfl, hf5⟩
            rw [show Lib.itoa B = Lib.decDigits B.toNat by rw [Lib.itoa, if_neg (by omega)]]
            have HOV := Lib.hid (lex_over hB0 hB1)
            have hdl : (Lib.decDigits B.toNat).length ≤ 20 := by rw [Lib.decDigits_length]; exact Lib.nDigits_le20 _ (by omega)
            obtain ⟨dl, hdd⟩ : ∃ dl, Lib.decDigits B.toNat = dl := ⟨_, rfl⟩
            rw [hdd] at HOV hdl ⊢
            clear hdd hB0 hB1
            have HF5 : Hid (Fr [] w w5) := HF4.out.trans hf5
            have e3 : ⟨#[57]⟩ ++ ⟨dl.toArray⟩ ++ ⟨#[48, 48]⟩ = (⟨(57 :: dl ++ [48, 48]).toArray⟩ : ByteArray) := bytes_ext (app_list2 (app_list2 (show (ByteArray.mk #[57]).data.toList = [57] from rfl) rfl) rfl)
            have hl3 := lex_any (57 :: dl ++ [48, 48]) w5 m ((HF5.out.cell h00 (by simp)).trans HM.out) (Nat.lt_of_lt_of_le h00 HF5.out.size) (by simp only [List.length_append, List.length_cons, List.length_nil]; omega)
            rw [← e3] at hl3
            have HL3 := Lib.hid hl3
            clear hl3 e3
            go_wp2_with fail
            refine HL3.out.mono ?_
            intro e w6 hr
            obtain ⟨rfl, hf6⟩ := lex_bad HOV.out hr
            have d0 : w6.cell? ⟨g, off, none⟩ = some (.int .i64 3) := ((hf5.trans hf6).cell (Nat.lt_of_lt_of_le hg HF34.out.size) (by simp)).trans D04.out
            have d2 : w6.cell? ⟨g, off + 2, none⟩ = some (.int .i64 A) := ((hf5.trans hf6).cell (Nat.lt_of_lt_of_le hg HF34.out.size) (by simp)).trans D24.out
            have HF6 : Hid (Fr [] w w6) := HF5.out.trans hf6
            clear hr hf6 HL3 HOV hf5
            go_wp2_with fail
            go_ret
            first
              | exact ⟨rfl, HF6.out⟩
              | (refine ⟨?_, HF6.out⟩
                 have h95 : (y == 95) = false := by rw [beq_eq_false_iff_ne]; omega
                 simp [h95] <;> omega)
end Lx
end Go.Proofs.YtfpkcddnikgabaaDoor
