/- The laws on numbers: begun, NumTexts, NumAll, NumEdges. -/
import Derived.Test.YtmlmjajhmenjmaaDoorShow
namespace Go.Proofs.YtmlmjajhmenjmaaDoor
open Go.RowKit
open Parse (parse_any rparse_any parseV parseE)

theorem begun_true (w : World) (ht : Tab w) : Calls Tryd.prog 8 #[] w fun e w' => e = .returned (.bool true) ∧ Fr [] w w' := by
  go_enter Tryd.func8, Tryd.ntmps8
  go_wp2_with fail
  refine (add_any 2 3 _ (by decide) (by decide)).mono ?_
  rintro e w' ⟨rfl, rfl⟩
  rw [show res (2 + 3) = 5 from rfl, show err (2 + 3) = 0 from rfl]
  go_wp2_with fail
  refine (mul_any (-4) 5 _ (by decide) (by decide)).mono ?_
  rintro e w' ⟨rfl, rfl⟩
  rw [show res (-4 * 5) = -20 from rfl, show err (-4 * 5) = 0 from rfl]
  go_wp2_with fail
  refine (parse_any [48, 48, 55] _ (by decide)).mono ?_
  rintro e w1 ⟨rfl, hf1⟩
  rw [show parseV [48, 48, 55] = 7 from by decide, show parseE [48, 48, 55] = 0 from by decide]
  go_wp2_with fail
  refine (neg_any (-9223372036854775808) _ (by decide)).mono ?_
  rintro e w' ⟨rfl, rfl⟩
  rw [show err (- -9223372036854775808) = 8 from by decide]
  go_wp2_with fail
  refine (show_any (-12) _ (by decide) (ht.keep hf1)).mono ?_
  rintro e w2 ⟨rfl, hf2⟩
  have hs : Lib.itoa (-12) = [45, 49, 50] := by decide +kernel
  rw [hs]
  go_wp2_with fail
  go_ret
  exact ⟨rfl, hf1.trans hf2⟩

theorem texts_list (l : List UInt8) (w : World) (ht : Tab w) (hl : l.length ≤ 9223372036854775807) :
    Calls Tryd.prog 3 #[.string ⟨l.toArray⟩] w fun e w' => e = .returned (.bool true) ∧ Fr [] w w' := by
  by_cases h : l.length ≤ 100
  · have h' : decide ((100 : Int) < (l.length : Int)) = false := by simp; omega
    go_enter Tryd.func3, Tryd.ntmps3
    go_wp2_with fail
    refine (begun_true _ ht).mono ?_
    rintro e w1 ⟨rfl, hf1⟩
    go_wp2_with fail
    refine (parse_any l _ (by omega)).mono ?_
    rintro e w2 ⟨rfl, hf2⟩
    go_wp2_with fail
    refine (rparse_any l _ (by omega)).mono ?_
    rintro e w3 ⟨rfl, rfl⟩
    go_wp2_with fail
    go_ret
    exact ⟨rfl, hf1.trans hf2⟩
  · have h' : decide ((100 : Int) < (l.length : Int)) = true := by simp; omega
    go_enter Tryd.func3, Tryd.ntmps3
    go_wp2_with fail
    refine (begun_true _ ht).mono ?_
    rintro e w1 ⟨rfl, hf1⟩
    go_wp2_with fail
    go_ret
    exact ⟨rfl, hf1⟩

set_option maxRecDepth 100000 in
set_option maxHeartbeats 1000000 in
theorem all_ints (a b : Int) (w : World) (ht : Tab w) (ha : ok64 a = true) (hb : ok64 b = true) :
    Calls Tryd.prog 5 #[.int .i64 a, .int .i64 b] w fun e w' => e = .returned (.bool true) ∧ Fr [] w w' := by
  have HA := Lib.hid ha
  have HB := Lib.hid hb
  clear ha hb
  go_enter Tryd.func5, Tryd.ntmps5
  go_wp2_with fail
  refine (begun_true _ ht).mono ?_
  rintro e w1 ⟨rfl, hf1⟩
  go_wp2_with fail
  refine (add_any a b _ HA.out HB.out).mono ?_
  rintro e w' ⟨rfl, rfl⟩
  go_wp2_with fail
  refine (radd_any a b _ HA.out HB.out).mono ?_
  rintro e w' ⟨rfl, rfl⟩
  go_wp2_with fail
  refine (sub_any a b _ HA.out HB.out).mono ?_
  rintro e w' ⟨rfl, rfl⟩
  go_wp2_with fail
  refine (rsub_any a b _ HA.out HB.out).mono ?_
  rintro e w' ⟨rfl, rfl⟩
  go_wp2_with fail
  refine (mul_any a b _ HA.out HB.out).mono ?_
  rintro e w' ⟨rfl, rfl⟩
  go_wp2_with fail
  refine (rmul_any a b _ HA.out HB.out).mono ?_
  rintro e w' ⟨rfl, rfl⟩
  go_wp2_with fail
  refine (neg_any a _ HA.out).mono ?_
  rintro e w' ⟨rfl, rfl⟩
  go_wp2_with fail
  refine (rneg_any a _ HA.out).mono ?_
  rintro e w' ⟨rfl, rfl⟩
  go_wp2_with fail
  refine (show_any a _ HA.out (ht.keep hf1)).mono ?_
  rintro e w2 ⟨rfl, hf2⟩
  go_wp2_with fail
  refine (rshow_any a _ HA.out).mono ?_
  rintro e w3 ⟨rfl, hf3⟩
  go_wp2_with fail
  go_ret
  exact ⟨rfl, (hf1.trans hf2).trans hf3⟩
end Go.Proofs.YtmlmjajhmenjmaaDoor
