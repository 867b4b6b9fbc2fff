/- NumBack. -/
import Derived.Test.YtmlmjajhmenjmaaDoorLaws
namespace Go.Proofs.YtmlmjajhmenjmaaDoor
open Go.RowKit
open Parse (parse_any rparse_any parseV parseE)

namespace Back
theorem dec_all (u : Nat) : (Lib.decDigits u).all Parse.dig = true := by
  induction u using Nat.strongRecOn with
  | _ u ih =>
    rw [dec_step, List.all_append]
    have h1 : (digs (u / 10)).all Parse.dig = true := by
      unfold digs
      split
      · rfl
      · exact ih _ (by omega)
    have h2 : (UInt8.ofNat (48 + u % 10)).toNat = 48 + u % 10 := by rw [UInt8.toNat_ofNat']; omega
    rw [h1]
    simp only [List.all_cons, List.all_nil, Parse.dig, h2, Bool.true_and, Bool.and_true, decide_eq_true_eq]
    omega
theorem dec_val (u : Nat) : Parse.val (Lib.decDigits u) = u := by
  induction u using Nat.strongRecOn with
  | _ u ih =>
    have h2 : (UInt8.ofNat (48 + u % 10)).toNat = 48 + u % 10 := by rw [UInt8.toNat_ofNat']; omega
    rw [dec_step, Parse.val_snoc, h2]
    unfold digs
    split
    · rename_i h; simp [Parse.val]; omega
    · rw [ih _ (by omega)]; omega
theorem dec_ne (u : Nat) : (Lib.decDigits u).isEmpty = false := by rw [dec_step]; simp
theorem dec_bad (u : Nat) : Parse.bad (Lib.decDigits u) = false := by simp [Parse.bad, dec_ne, dec_all]
theorem parse_dec (u : Nat) : parseV (Lib.decDigits u) = res u ∧ parseE (Lib.decDigits u) = err u := by simp [parseV, parseE, dec_bad, dec_val]

/-- what Show gave is parsed -/
theorem back_neg (a : Int) (ha : ok64 a = true) (hn : a < 0) (hm : a ≠ -9223372036854775808) : res (a.natAbs : Int) = -a ∧ err (a.natAbs : Int) = 0 := by
  have h := ok_iff.1 ha
  have ho : ok64 (a.natAbs : Int) = true := ok_iff.2 (by omega)
  exact ⟨by rw [res_ok ho]; omega, err_ok ho⟩
theorem back_pos (a : Int) (ha : ok64 a = true) (hn : 0 ≤ a) : res (a.toNat : Int) = a ∧ err (a.toNat : Int) = 0 := by
  have ho : ok64 (a.toNat : Int) = true := by rw [Int.toNat_of_nonneg hn]; exact ha
  exact ⟨by rw [res_ok ho]; omega, err_ok ho⟩

/-- what stands behind the first half: the sums, the products -/
theorem quo_back (a b : Int) (h0 : a ≠ 0) (hb : ok64 b = true) : wrap64 ((a * b).tdiv a) = b := by
  rw [Int.mul_comm, Int.mul_tdiv_cancel b h0]
  have := ok_iff.1 hb
  unfold wrap64; omega

theorem cut_one (dl : List UInt8) : (ByteArray.mk (45 :: dl).toArray).extract 1 (dl.length + 1) = ⟨dl.toArray⟩ := by
  rw [Lib.extract_eq]
  simp

set_option maxRecDepth 100000 in
set_option maxHeartbeats 4000000 in
theorem back_true (a b : Int) (w : World) (ht : Tab w) (ha : ok64 a = true) (hb : ok64 b = true) :
    Calls Tryd.prog 6 #[.int .i64 a, .int .i64 b] w fun e w' => e = .returned (.bool true) ∧ Fr [] w w' := by
  have HA := Lib.hid ha
  have HB := Lib.hid hb
  obtain ⟨a1, a2⟩ := ok_iff.1 ha
  have hd := dec_ne a.natAbs
  have hd2 := dec_ne a.toNat
  clear ha hb
  by_cases hneg : a < 0
  · have hi : Lib.itoa a = 45 :: Lib.decDigits a.natAbs := by unfold Lib.itoa; rw [if_pos hneg]
    have HI := Lib.hid hi
    have hlen : (Lib.decDigits a.natAbs).length ≤ 20 := by rw [Lib.decDigits_length]; exact Lib.nDigits_le20 _ (by omega)
    obtain ⟨dl, hdl⟩ : ∃ dl, Lib.decDigits a.natAbs = dl := ⟨_, rfl⟩
    have hpd := parse_dec a.natAbs
    rw [hdl] at hlen hpd hd
    have HDL := Lib.hid hdl
    have HPD := Lib.hid hpd
    clear hi hdl hpd hd hd2
    have HQ := Lib.hid (quo_back a b (by omega) HB.out)
    have hz : (a == 0) = false := by simp; omega
    by_cases hm : a = -9223372036854775808
    · have hm' : (a == -9223372036854775808) = true := by simpa using hm
      have hr : res (a.natAbs : Int) = 0 ∧ err (a.natAbs : Int) = 8 := by subst hm; decide
      have HR := Lib.hid hr
      clear hr hm a1
      go_enter Tryd.func6, Tryd.ntmps6
      go_wp2_with fail
      refine (begun_true _ ht).mono ?_
      rintro e w1 ⟨rfl, hf1⟩
      go_wp2_with fail
      refine (show_any a _ HA.out (ht.keep hf1)).mono ?_
      rintro e w2 ⟨rfl, hf2⟩
      rw [HI.out, HDL.out]
      go_wp2_with fail
      rw [cut_one dl]
      refine (parse_any dl _ (by omega)).mono ?_
      rintro e w3 ⟨rfl, hf3⟩
      have hf := (hf1.trans hf2).trans hf3
      clear hf1 hf2 hf3
      rw [HPD.out.1, HPD.out.2]
      rw [HR.out.1, HR.out.2]
      cases ho : ok64 (a + b)
      all_goals
        have HO := Lib.hid ho
        clear ho
        go_wp2_with fail
        refine (add_any a b _ HA.out HB.out).mono ?_
        rintro e w' ⟨rfl, rfl⟩
        first | rw [res_no HO.out, err_no HO.out] | rw [res_ok HO.out, err_ok HO.out]
        go_wp2_with fail
        try
          refine (sub_any (a + b) b _ HO.out HB.out).mono ?_
          rintro e w' ⟨rfl, rfl⟩
          rw [Int.add_sub_cancel a b, res_ok HA.out, err_ok HA.out]
          go_wp2_with fail
        refine (mul_any a b _ HA.out HB.out).mono ?_
        rintro e w' ⟨rfl, rfl⟩
        go_wp2_with fail
        refine (mul_any b a _ HB.out HA.out).mono ?_
        rintro e w' ⟨rfl, rfl⟩
        rw [Int.mul_comm b a]
        go_wp2_with fail
        refine (add_any b a _ HB.out HA.out).mono ?_
        rintro e w' ⟨rfl, rfl⟩
        rw [Int.add_comm b a]
        first | rw [res_no HO.out, err_no HO.out] | rw [res_ok HO.out, err_ok HO.out]
        cases hp : ok64 (a * b)
        · rw [res_no hp, err_no hp]
          clear hp
          go_wp2_with fail
          go_ret
          exact ⟨rfl, hf⟩
        · rw [res_ok hp, err_ok hp]
          clear hp
          have hq := HQ.out
          go_wp2_with fail
          go_ret
          exact ⟨rfl, hf⟩
    · have hm' : (a == -9223372036854775808) = false := by simpa using hm
      have hl0 : (((dl.length : Int) + 1) == 0) = false := by simp; omega
      have HR := Lib.hid (back_neg a HA.out hneg hm)
      have hna : (-a == a) = false := by simp; omega
      have hnn : wrap64 (-a) = -a := by unfold wrap64; omega
      clear hm
      go_enter Tryd.func6, Tryd.ntmps6
      go_wp2_with fail
      refine (begun_true _ ht).mono ?_
      rintro e w1 ⟨rfl, hf1⟩
      go_wp2_with fail
      refine (show_any a _ HA.out (ht.keep hf1)).mono ?_
      rintro e w2 ⟨rfl, hf2⟩
      rw [HI.out, HDL.out]
      go_wp2_with fail
      rw [cut_one dl]
      refine (parse_any dl _ (by omega)).mono ?_
      rintro e w3 ⟨rfl, hf3⟩
      have hf := (hf1.trans hf2).trans hf3
      clear hf1 hf2 hf3
      rw [HPD.out.1, HPD.out.2]
      rw [HR.out.1, HR.out.2]
      cases ho : ok64 (a + b)
      all_goals
        have HO := Lib.hid ho
        clear ho
        go_wp2_with fail
        refine (add_any a b _ HA.out HB.out).mono ?_
        rintro e w' ⟨rfl, rfl⟩
        first | rw [res_no HO.out, err_no HO.out] | rw [res_ok HO.out, err_ok HO.out]
        go_wp2_with fail
        try
          refine (sub_any (a + b) b _ HO.out HB.out).mono ?_
          rintro e w' ⟨rfl, rfl⟩
          rw [Int.add_sub_cancel a b, res_ok HA.out, err_ok HA.out]
          go_wp2_with fail
        refine (mul_any a b _ HA.out HB.out).mono ?_
        rintro e w' ⟨rfl, rfl⟩
        go_wp2_with fail
        refine (mul_any b a _ HB.out HA.out).mono ?_
        rintro e w' ⟨rfl, rfl⟩
        rw [Int.mul_comm b a]
        go_wp2_with fail
        refine (add_any b a _ HB.out HA.out).mono ?_
        rintro e w' ⟨rfl, rfl⟩
        rw [Int.add_comm b a]
        first | rw [res_no HO.out, err_no HO.out] | rw [res_ok HO.out, err_ok HO.out]
        cases hp : ok64 (a * b)
        · rw [res_no hp, err_no hp]
          clear hp
          go_wp2_with fail
          go_ret
          exact ⟨rfl, hf⟩
        · rw [res_ok hp, err_ok hp]
          clear hp
          have hq := HQ.out
          go_wp2_with fail
          go_ret
          exact ⟨rfl, hf⟩
  · have hi : Lib.itoa a = Lib.decDigits a.toNat := by unfold Lib.itoa; rw [if_neg hneg]
    have HI := Lib.hid hi
    have hlen : (Lib.decDigits a.toNat).length ≤ 20 := by rw [Lib.decDigits_length]; exact Lib.nDigits_le20 _ (by omega)
    obtain ⟨dl, hdl⟩ : ∃ dl, Lib.decDigits a.toNat = dl := ⟨_, rfl⟩
    have hpd := parse_dec a.toNat
    rw [hdl] at hlen hpd hd2
    have HDL := Lib.hid hdl
    have HPD := Lib.hid hpd
    have HR := Lib.hid (back_pos a HA.out (by omega))
    have hl0 : ((dl.length : Int) == 0) = false := by
      cases dl with
      | nil => simp at hd2
      | cons => simp; omega
    have hm' : (a == -9223372036854775808) = false := by simp; omega
    clear hi hdl hpd hd hd2
    by_cases h0 : a = 0
    · have hz : (a == 0) = true := by simpa using h0
      have HQ : Hid (True) := trivial
      clear h0
      go_enter Tryd.func6, Tryd.ntmps6
      go_wp2_with fail
      refine (begun_true _ ht).mono ?_
      rintro e w1 ⟨rfl, hf1⟩
      go_wp2_with fail
      refine (show_any a _ HA.out (ht.keep hf1)).mono ?_
      rintro e w2 ⟨rfl, hf2⟩
      rw [HI.out, HDL.out]
      go_wp2_with fail
      refine (parse_any dl _ (by omega)).mono ?_
      rintro e w3 ⟨rfl, hf3⟩
      have hf := (hf1.trans hf2).trans hf3
      clear hf1 hf2 hf3
      rw [HPD.out.1, HPD.out.2]
      rw [HR.out.1, HR.out.2]
      cases ho : ok64 (a + b)
      all_goals
        have HO := Lib.hid ho
        clear ho
        go_wp2_with fail
        refine (add_any a b _ HA.out HB.out).mono ?_
        rintro e w' ⟨rfl, rfl⟩
        first | rw [res_no HO.out, err_no HO.out] | rw [res_ok HO.out, err_ok HO.out]
        go_wp2_with fail
        try
          refine (sub_any (a + b) b _ HO.out HB.out).mono ?_
          rintro e w' ⟨rfl, rfl⟩
          rw [Int.add_sub_cancel a b, res_ok HA.out, err_ok HA.out]
          go_wp2_with fail
        refine (mul_any a b _ HA.out HB.out).mono ?_
        rintro e w' ⟨rfl, rfl⟩
        go_wp2_with fail
        refine (mul_any b a _ HB.out HA.out).mono ?_
        rintro e w' ⟨rfl, rfl⟩
        rw [Int.mul_comm b a]
        go_wp2_with fail
        refine (add_any b a _ HB.out HA.out).mono ?_
        rintro e w' ⟨rfl, rfl⟩
        rw [Int.add_comm b a]
        first | rw [res_no HO.out, err_no HO.out] | rw [res_ok HO.out, err_ok HO.out]
        cases hp : ok64 (a * b)
        · rw [res_no hp, err_no hp]
          clear hp
          go_wp2_with fail
          go_ret
          exact ⟨rfl, hf⟩
        · rw [res_ok hp, err_ok hp]
          clear hp
          have hq := HQ.out
          go_wp2_with fail
          go_ret
          exact ⟨rfl, hf⟩
    · have hz : (a == 0) = false := by simpa using h0
      have HQ := Lib.hid (quo_back a b h0 HB.out)
      have hpos : 0 < a := by omega
      clear h0
      go_enter Tryd.func6, Tryd.ntmps6
      go_wp2_with fail
      refine (begun_true _ ht).mono ?_
      rintro e w1 ⟨rfl, hf1⟩
      go_wp2_with fail
      refine (show_any a _ HA.out (ht.keep hf1)).mono ?_
      rintro e w2 ⟨rfl, hf2⟩
      rw [HI.out, HDL.out]
      go_wp2_with fail
      refine (parse_any dl _ (by omega)).mono ?_
      rintro e w3 ⟨rfl, hf3⟩
      have hf := (hf1.trans hf2).trans hf3
      clear hf1 hf2 hf3
      rw [HPD.out.1, HPD.out.2]
      rw [HR.out.1, HR.out.2]
      cases ho : ok64 (a + b)
      all_goals
        have HO := Lib.hid ho
        clear ho
        go_wp2_with fail
        refine (add_any a b _ HA.out HB.out).mono ?_
        rintro e w' ⟨rfl, rfl⟩
        first | rw [res_no HO.out, err_no HO.out] | rw [res_ok HO.out, err_ok HO.out]
        go_wp2_with fail
        try
          refine (sub_any (a + b) b _ HO.out HB.out).mono ?_
          rintro e w' ⟨rfl, rfl⟩
          rw [Int.add_sub_cancel a b, res_ok HA.out, err_ok HA.out]
          go_wp2_with fail
        refine (mul_any a b _ HA.out HB.out).mono ?_
        rintro e w' ⟨rfl, rfl⟩
        go_wp2_with fail
        refine (mul_any b a _ HB.out HA.out).mono ?_
        rintro e w' ⟨rfl, rfl⟩
        rw [Int.mul_comm b a]
        go_wp2_with fail
        refine (add_any b a _ HB.out HA.out).mono ?_
        rintro e w' ⟨rfl, rfl⟩
        rw [Int.add_comm b a]
        first | rw [res_no HO.out, err_no HO.out] | rw [res_ok HO.out, err_ok HO.out]
        cases hp : ok64 (a * b)
        · rw [res_no hp, err_no hp]
          clear hp
          go_wp2_with fail
          go_ret
          exact ⟨rfl, hf⟩
        · rw [res_ok hp, err_ok hp]
          clear hp
          have hq := HQ.out
          have hbw : wrap64 b = b := by have := ok_iff.1 HB.out; unfold wrap64; omega
          go_wp2_with fail
          go_ret
          exact ⟨rfl, hf⟩
end Back
end Go.Proofs.YtmlmjajhmenjmaaDoor
