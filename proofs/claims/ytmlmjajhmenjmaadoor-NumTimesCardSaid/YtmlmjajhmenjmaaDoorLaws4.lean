/- NumTimes. -/
import Derived.Test.YtmlmjajhmenjmaaDoorLaws
namespace Go.Proofs.YtmlmjajhmenjmaaDoor
open Go.RowKit

namespace Times
theorem mul_between (a : Int) (i K : Nat) (h : i ≤ K) (hk : ok64 (a * K) = true) : ok64 (a * i) = true := by
  rw [ok_iff] at *
  rcases Int.le_total 0 a with ha | ha
  · have h1 : a * i ≤ a * K := Int.mul_le_mul_of_nonneg_left (by omega) ha
    have h2 : 0 ≤ a * i := Int.mul_nonneg ha (by omega)
    omega
  · have h1 : a * K ≤ a * i := Int.mul_le_mul_of_nonpos_left ha (by omega)
    have h2 : a * i ≤ 0 := Int.mul_nonpos_of_nonpos_of_nonneg ha (by omega)
    omega

set_option maxRecDepth 100000 in
set_option maxHeartbeats 4000000 in
theorem times_true (a n : Int) (w : World) (ht : Tab w) (ha : ok64 a = true) (h0 : 0 ≤ n) (h1 : n ≤ 255) :
    Calls Tryd.prog 4 #[.int .i64 a, .int .u8 n] w fun e w' => e = .returned (.bool true) ∧ Fr [] w w' := by
  have HA := Lib.hid ha
  clear ha
  obtain ⟨K, hK⟩ : ∃ K : Nat, n % 100 = (K : Int) := ⟨(n % 100).toNat, by omega⟩
  have hK9 : K < 100 := by omega
  have HKO := Lib.hid (ok_iff.2 ⟨by omega, by omega⟩ : ok64 (K : Int) = true)
  have HKN := Lib.hid (ok_iff.2 ⟨by omega, by omega⟩ : ok64 (-(K : Int)) = true)
  go_enter Tryd.func4, Tryd.ntmps4
  go_wp2_with fail
  refine (begun_true _ ht).mono ?_
  rintro e w1 ⟨rfl, hf1⟩
  go_wp2_with fail
  clear hK
  go_loop [6, 7, 8] (fun s o i => ∃ (k : Nat) (b : Bool) (m : Int), k ≤ K ∧ i = .int .i64 k ∧ o = .bool b ∧ s = .int .i64 m ∧ Hid (b = false → m = a * k ∧ ok64 (a * k) = true) ∧ Hid (b = true → m = 0 ∧ ok64 (a * K) = false)) (fun _ _ i => K - (intOf i).toNat)
  case atStart => exact ⟨0, false, 0, by omega, rfl, rfl, rfl, fun _ => ⟨by simp, by simp; rfl⟩, fun h => by cases h⟩
  case round =>
    obtain ⟨k, b, m, hk, rfl, rfl, rfl, HN, HO⟩ := hrel
    cases b
    · have hm := HN.out rfl
      have HM : Hid (m = a * k ∧ ok64 m = true) := ⟨hm.1, by rw [hm.1]; exact hm.2⟩
      clear hm
      by_cases hlt : k < K
      · have e1 : m + a = a * ((k + 1 : Nat) : Int) := by rw [HM.out.1]; rw [Int.natCast_add, Int.mul_add]; simp
        have E1 := Lib.hid e1
        clear e1
        cases ho : ok64 (m + a)
        · have hov : ok64 (a * K) = false := by
            cases hh : ok64 (a * K)
            · rfl
            · have := mul_between a (k + 1) K hlt hh
              rw [← E1.out, ho] at this
              cases this
          have HV := Lib.hid hov
          have HOK := Lib.hid ho
          clear ho hov
          go_wp2_with fail
          refine (add_any m a _ HM.out.2 HA.out).mono ?_
          rintro e w' ⟨rfl, rfl⟩
          rw [res_no HOK.out, err_no HOK.out]
          go_wp2_with fail
          go_round
          case rel => exact ⟨k + 1, true, 0, by omega, by go_num, rfl, rfl, (fun h => by cases h), fun _ => ⟨rfl, HV.out⟩⟩
          case measure => simp [intOf]; omega
        · have HOK := Lib.hid ho
          clear ho
          go_wp2_with fail
          refine (add_any m a _ HM.out.2 HA.out).mono ?_
          rintro e w' ⟨rfl, rfl⟩
          rw [res_ok HOK.out, err_ok HOK.out]
          go_wp2_with fail
          go_round
          case rel => exact ⟨k + 1, false, m + a, by omega, by go_num, rfl, rfl, fun _ => ⟨E1.out, by rw [← E1.out]; exact HOK.out⟩, fun h => by cases h⟩
          case measure => simp [intOf]; omega
      · obtain rfl : k = K := by omega
        have HM2 := Lib.hid HM.out.1
        obtain ⟨p, hp⟩ : ∃ p, a * (k : Int) = p := ⟨_, rfl⟩
        have HP := Lib.hid hp
        have hmp : m = p := by rw [HM.out.1, hp]
        subst hmp
        clear hp
        have HN2 : Hid (a * -(k : Int) = -m) := by rw [Hid, Int.mul_neg, HP.out]
        have HMO := Lib.hid HM.out.2
        go_wp2_with fail
        refine (mul_any a k _ HA.out HKO.out).mono ?_
        rintro e w' ⟨rfl, rfl⟩
        rw [HP.out, res_ok HMO.out, err_ok HMO.out]
        go_wp2_with fail
        refine (mul_any a (-(k : Int)) _ HA.out HKN.out).mono ?_
        rintro e w' ⟨rfl, rfl⟩
        rw [HN2.out]
        go_wp2_with fail
        refine (neg_any m _ HMO.out).mono ?_
        rintro e w' ⟨rfl, rfl⟩
        cases hn : ok64 (-m)
        · rw [res_no hn, err_no hn]
          clear hn
          go_wp2_with fail
          go_ret
          exact ⟨rfl, hf1⟩
        · rw [res_ok hn, err_ok hn]
          clear hn
          go_wp2_with fail
          go_ret
          exact ⟨rfl, hf1⟩
    · have hm := HO.out rfl
      obtain ⟨rfl, hv⟩ := hm
      have HV := Lib.hid hv
      clear hv
      by_cases hlt : k < K
      all_goals
        go_wp2_with fail
        refine (mul_any a K _ HA.out HKO.out).mono ?_
        rintro e w' ⟨rfl, rfl⟩
        rw [res_no HV.out, err_no HV.out]
        go_wp2_with fail
        refine (mul_any a (-(K : Int)) _ HA.out HKN.out).mono ?_
        rintro e w' ⟨rfl, rfl⟩
        go_wp2_with fail
        go_ret
        exact ⟨rfl, hf1⟩
end Times
end Go.Proofs.YtmlmjajhmenjmaaDoor
