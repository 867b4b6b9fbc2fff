/- NumEdges, NumBack. -/
import Derived.Test.YtmlmjajhmenjmaaDoorLaws
namespace Go.Proofs.YtmlmjajhmenjmaaDoor
open Go.RowKit
open Parse (parse_any rparse_any parseV parseE)

set_option maxRecDepth 100000 in
set_option maxHeartbeats 2000000 in
theorem edges_true (w : World) (ht : Tab w) : Calls Tryd.prog 7 #[] w fun e w' => e = .returned (.bool true) ∧ Fr [] w w' := by
  go_enter Tryd.func7, Tryd.ntmps7
  go_wp2_with fail
  refine (add_any 9223372036854775807 0 _ (by decide) (by decide)).mono ?_
  rintro e w' ⟨rfl, rfl⟩
  rw [show res (9223372036854775807 + 0) = 9223372036854775807 from by decide, show err (9223372036854775807 + 0) = 0 from by decide]
  go_wp2_with fail
  refine (add_any 9223372036854775807 1 _ (by decide) (by decide)).mono ?_
  rintro e w' ⟨rfl, rfl⟩
  rw [show err (9223372036854775807 + 1) = 8 from by decide]
  go_wp2_with fail
  refine (add_any (-9223372036854775808) (-1) _ (by decide) (by decide)).mono ?_
  rintro e w' ⟨rfl, rfl⟩
  rw [show err (-9223372036854775808 + -1) = 8 from by decide]
  go_wp2_with fail
  refine (add_any (-9223372036854775808) 9223372036854775807 _ (by decide) (by decide)).mono ?_
  rintro e w' ⟨rfl, rfl⟩
  rw [show res (-9223372036854775808 + 9223372036854775807) = -1 from by decide, show err (-9223372036854775808 + 9223372036854775807) = 0 from by decide]
  go_wp2_with fail
  refine (sub_any 0 (-9223372036854775808) _ (by decide) (by decide)).mono ?_
  rintro e w' ⟨rfl, rfl⟩
  rw [show err (0 - -9223372036854775808) = 8 from by decide]
  go_wp2_with fail
  refine (sub_any (-1) (-9223372036854775808) _ (by decide) (by decide)).mono ?_
  rintro e w' ⟨rfl, rfl⟩
  rw [show res (-1 - -9223372036854775808) = 9223372036854775807 from by decide, show err (-1 - -9223372036854775808) = 0 from by decide]
  go_wp2_with fail
  refine (mul_any (-9223372036854775808) (-1) _ (by decide) (by decide)).mono ?_
  rintro e w' ⟨rfl, rfl⟩
  rw [show err (-9223372036854775808 * -1) = 8 from by decide]
  go_wp2_with fail
  refine (mul_any (-9223372036854775808) 1 _ (by decide) (by decide)).mono ?_
  rintro e w' ⟨rfl, rfl⟩
  rw [show res (-9223372036854775808 * 1) = -9223372036854775808 from by decide, show err (-9223372036854775808 * 1) = 0 from by decide]
  go_wp2_with fail
  refine (mul_any 4294967296 2147483648 _ (by decide) (by decide)).mono ?_
  rintro e w' ⟨rfl, rfl⟩
  rw [show err (4294967296 * 2147483648) = 8 from by decide]
  go_wp2_with fail
  refine (mul_any 4294967296 (-2147483648) _ (by decide) (by decide)).mono ?_
  rintro e w' ⟨rfl, rfl⟩
  rw [show res (4294967296 * -2147483648) = -9223372036854775808 from by decide, show err (4294967296 * -2147483648) = 0 from by decide]
  go_wp2_with fail
  refine (parse_any [57, 50, 50, 51, 51, 55, 50, 48, 51, 54, 56, 53, 52, 55, 55, 53, 56, 48, 55] _ (by decide)).mono ?_
  rintro e w1 ⟨rfl, hf1⟩
  rw [show parseV [57, 50, 50, 51, 51, 55, 50, 48, 51, 54, 56, 53, 52, 55, 55, 53, 56, 48, 55] = 9223372036854775807 from by decide +kernel, show parseE [57, 50, 50, 51, 51, 55, 50, 48, 51, 54, 56, 53, 52, 55, 55, 53, 56, 48, 55] = 0 from by decide +kernel]
  go_wp2_with fail
  refine (parse_any [57, 50, 50, 51, 51, 55, 50, 48, 51, 54, 56, 53, 52, 55, 55, 53, 56, 48, 56] _ (by decide)).mono ?_
  rintro e w2 ⟨rfl, hf2⟩
  rw [show parseE [57, 50, 50, 51, 51, 55, 50, 48, 51, 54, 56, 53, 52, 55, 55, 53, 56, 48, 56] = 8 from by decide +kernel]
  go_wp2_with fail
  refine (parse_any [48, 48, 48, 48, 48, 48, 48, 48, 48, 48, 48, 48, 48, 48, 48, 48, 48, 48, 48, 48, 48, 48, 48, 48, 48, 49] _ (by decide)).mono ?_
  rintro e w3 ⟨rfl, hf3⟩
  rw [show parseV [48, 48, 48, 48, 48, 48, 48, 48, 48, 48, 48, 48, 48, 48, 48, 48, 48, 48, 48, 48, 48, 48, 48, 48, 48, 49] = 1 from by decide +kernel, show parseE [48, 48, 48, 48, 48, 48, 48, 48, 48, 48, 48, 48, 48, 48, 48, 48, 48, 48, 48, 48, 48, 48, 48, 48, 48, 49] = 0 from by decide +kernel]
  have hf := (hf1.trans hf2).trans hf3
  clear hf1 hf2 hf3
  go_wp2_with fail
  refine (begun_true _ (ht.keep hf)).mono ?_
  rintro e w4 ⟨rfl, hf4⟩
  go_wp2_with fail
  refine (show_any (-9223372036854775808) _ (by decide) (ht.keep (hf.trans hf4))).mono ?_
  rintro e w5 ⟨rfl, hf5⟩
  have hs : Lib.itoa (-9223372036854775808) = [45, 57, 50, 50, 51, 51, 55, 50, 48, 51, 54, 56, 53, 52, 55, 55, 53, 56, 48, 56] := by decide +kernel
  rw [hs]
  go_wp2_with fail
  go_ret
  exact ⟨rfl, (hf.trans hf4).trans hf5⟩
end Go.Proofs.YtmlmjajhmenjmaaDoor
