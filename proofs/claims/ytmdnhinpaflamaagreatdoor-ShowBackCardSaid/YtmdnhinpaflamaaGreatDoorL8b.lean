/- show: the laws' first question. -/
import Derived.Test.YtmdnhinpaflamaaGreatDoorSwD
import Derived.Test.YtmdnhinpaflamaaGreatDoorRfP
namespace Go.Proofs.YtmdnhinpaflamaaGreatDoor
open Go.RowKit
set_option linter.unusedVariables false
set_option linter.unusedSimpArgs false
namespace Rf
open PM (Ex B)
open CM (Pr Qs)
open Gn (sh)
open Sh (bt bt_cat bt_size qsT)
set_option maxRecDepth 100000 in
set_option maxHeartbeats 4000000 in
theorem begun8p_any (w : World) (hE : Sw.Env w) :
  Calls Tryz.prog 16 #[] w fun e w' => e = .returned (.bool true) /\ Fr [] w w' := by
 have HE := Hd hE
 clear hE
 go_enter Tryz.func16, Tryz.ntmps16
 go_wp2_with fail
 have hb := Blk.new w 82 [.int .i64 2, .int .i64 0, .int .i64 0, .string ⟨#[]⟩, .string ⟨#[]⟩, .string ⟨#[97]⟩, .slice none 0 0]
 have hf0 := ((Fr.refl [] w).alloc (.cells #[.int .i64 2, .int .i64 0, .int .i64 0, .string ⟨#[]⟩, .string ⟨#[]⟩, .string ⟨#[97]⟩, .slice none 0 0] 82)).alloc (.cells #[.int .i64 2, .int .i64 0, .int .i64 0, .string ⟨#[]⟩, .string ⟨#[]⟩, .string ⟨#[97]⟩, .slice none 0 0, .int .i64 2, .int .i64 0, .int .i64 0, .string ⟨#[]⟩, .string ⟨#[]⟩, .string ⟨#[97]⟩, .slice none 0 0] 82)
 have hr : Rep.E 82 (fun _ => True) ((w.alloc (.cells #[.int .i64 2, .int .i64 0, .int .i64 0, .string ⟨#[]⟩, .string ⟨#[]⟩, .string ⟨#[97]⟩, .slice none 0 0] 82)).alloc (.cells #[.int .i64 2, .int .i64 0, .int .i64 0, .string ⟨#[]⟩, .string ⟨#[]⟩, .string ⟨#[97]⟩, .slice none 0 0, .int .i64 2, .int .i64 0, .int .i64 0, .string ⟨#[]⟩, .string ⟨#[]⟩, .string ⟨#[97]⟩, .slice none 0 0] 82)) (Pr.bin 0 (.col [97]) (.col [97])).ex [.int .i64 5, .int .i64 0, .int .i64 0, .string ⟨#[]⟩, .string ⟨#[]⟩, .string ⟨#[]⟩, .slice (some ⟨w.heap.size + 1, 0, none⟩) 2 2] := by
  have h1 : ∀ W, Rep.E 82 (fun _ => True) W (Pr.ex (.col [97])) [.int .i64 2, .int .i64 0, .int .i64 0, .string ⟨#[]⟩, .string ⟨#[]⟩, .string ⟨#[97]⟩, .slice none 0 0] := fun W => .mk 2 0 0 [] [] [97] [] _ Rep.Es.nil
  have hL : Rep.L 82 (fun _ => True) (w.alloc (.cells #[.int .i64 2, .int .i64 0, .int .i64 0, .string ⟨#[]⟩, .string ⟨#[]⟩, .string ⟨#[97]⟩, .slice none 0 0] 82)) [Pr.ex (.col [97]), Pr.ex (.col [97])] _ := .cons _ _ _ _ (h1 _) (.cons _ _ _ _ (h1 _) .nil)
  have h2 := es_mk hL trivial (by simp [maxLen])
  rw [World.size_alloc] at h2
  exact .mk 5 0 0 [] [] [] _ _ h2
 have HX := Hd (Sw.shown_any (.bin 0 (.col [97]) (.col [97])) (by decide) (by decide) _ _ _ (HE.out.keep hf0) hr)
 rw [show bt (sh (.bin 0 (.col [97]) (.col [97]))) = ⟨#[40, 97, 32, 43, 32, 97, 41]⟩ from by rw [show sh (.bin 0 (.col [97]) (.col [97])) = [40, 97, 32, 43, 32, 97, 41] from by decide]] at HX
 refine HX.out.mono ?_
 rintro e w1 ⟨rfl, hf1⟩
 have HF1 := Hd (hf0.trans hf1)
 clear hb hf0 hr hf1 HX
 have HS := Hd (Sw.show_any (.plain 0) 64 (by decide) (by decide) (fun _ => True) w1 [.int .i64 9, .string ⟨#[]⟩, .string ⟨#[]⟩, .slice none 0 0, .slice none 0 0, .slice none 0 0, .slice none 0 0, .string ⟨#[]⟩, .slice none 0 0, .slice none 0 0, .slice none 0 0, .bool false, .slice none 0 0] (HE.out.keep HF1.out) (.mk 9 [] [] [] [] [] [] [] [] [] [] false [] _ _ _ _ _ _ _ _ .nil .nil Rep.Es.nil .nil Rep.Es.nil Rep.Es.nil Rep.Es.nil Px.SS.nil))
 rw [show bt (qsT (.plain 0)) = ⟨#[98, 101, 103, 105, 110]⟩ from rfl] at HS
 go_wp2_with fail
 refine HS.out.mono ?_
 rintro e w2 ⟨rfl, hf2⟩
 have HF2 := Hd (HF1.out.trans hf2)
 clear hf2 HS
 go_wp2_with fail
 go_ret
 exact ⟨rfl, HF2.out⟩
end Rf
end Go.Proofs.YtmdnhinpaflamaaGreatDoor
