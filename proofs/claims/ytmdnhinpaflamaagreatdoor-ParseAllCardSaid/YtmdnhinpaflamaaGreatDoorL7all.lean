/- parse: the law ParseAll: the program's parser and the document's are one. -/
import Derived.Test.YtmdnhinpaflamaaGreatDoorPaF
import Derived.Test.YtmdnhinpaflamaaGreatDoorRfJ
import Derived.Test.YtmdnhinpaflamaaGreatDoorSq
namespace Go.Proofs.YtmdnhinpaflamaaGreatDoor
open Go.RowKit
set_option linter.unusedVariables false
set_option linter.unusedSimpArgs false
namespace Rf
open PM (Ex B)
open Px (SR)
/-- a text's bytes -/
def bt (b : B) : ByteArray := ⟨b.toArray⟩
theorem bt_size (b : B) : (bt b).size = b.length := by simp [bt, ByteArray.size]
/-- what a text says: a statement, a place, an error -/
def said (S : B) : PM.St × Int × Int := match CM.parse S with | .inl (p, k) => (.ofKind 0, p, k) | .inr st => (st, 0, 0)
/-- what both parsers return -/
def Told (S : B) (w : World) (e : Ending) (w' : World) : Prop :=
  ∃ c : Px.Cells13, e = .returned (.tuple #[.agg c.list.toArray, .int .i64 (said S).2.1, .int .i64 (said S).2.2]) ∧ SR (fun b => w.heap.size ≤ b) w' (said S).1 c.list ∧ Fr [] w w'
theorem told_code (S : B) (w : World) (m : Int) (hm : w.cell? ⟨1, 0, none⟩ = some (.int .i64 m)) (h00 : 1 < w.heap.size) (hS : S.length ≤ 1000000) :
    Calls Tryz.prog 9 #[.string ⟨S.toArray⟩] w (Told S w) := by
  refine (Px.parse_any S w m hm h00 hS).mono ?_
  intro e w' h
  rw [CM.parse_eq] at h
  unfold Told said
  cases hp : CM.parse S with
  | inl x =>
    obtain ⟨q, x⟩ := x
    rw [hp] at h
    obtain ⟨rfl, hf⟩ := h
    exact ⟨⟨0, [], [], [], none, none, none, none, none, none, none, none, 0, 0, 0, 0, 0, 0, 0, 0, 0, 0, 0, 0, 0, 0, 0, 0, false⟩, rfl, Px.zero_st _ _, hf⟩
  | inr st =>
    rw [hp] at h
    obtain ⟨cs, rfl, hs, hf⟩ := h
    obtain ⟨y, rfl⟩ := Px.sr_cells hs
    exact ⟨y, rfl, hs, hf⟩
theorem told_doc (S : B) (w : World) (hS : S.length ≤ 1000000) : Calls Tryz.prog 10 #[.string ⟨S.toArray⟩] w (Told S w) := by
  refine (parse_any S w hS).mono ?_
  rintro e w' ⟨x, q, z, cs, rfl, hs, h, hf⟩
  obtain ⟨y, rfl⟩ := Px.sr_cells hs
  unfold Told said
  cases hp : CM.parse S with
  | inl r =>
    obtain ⟨p, k⟩ := r
    rw [hp] at h
    obtain ⟨rfl, rfl, _, rfl⟩ := h
    exact ⟨y, rfl, hs, hf⟩
  | inr st =>
    rw [hp] at h
    obtain ⟨rfl, rfl, rfl⟩ := h
    exact ⟨y, rfl, hs, hf⟩
set_option maxRecDepth 1000000 in
set_option maxHeartbeats 8000000 in
theorem parseall_law (S : B) (w : World) (m : Int) (hm : w.cell? ⟨1, 0, none⟩ = some (.int .i64 m)) (h00 : 1 < w.heap.size) (hml : S.length ≤ maxLen) :
    Calls Tryz.prog 3 #[.string (bt S)] w fun e w' => e = .returned (.bool true) ∧ Fr [] w w' := by
  have HB := Lib.hid (Px.begun_any w m hm h00)
  have HM := Lib.hid hm
  have hsz : (bt S).size = S.length := bt_size S
  obtain ⟨x0, hx0⟩ : ∃ z, bt S = z := ⟨_, rfl⟩
  rw [hx0] at hsz ⊢
  have HX0 := Lib.hid hx0
  clear hm hx0
  go_enter Tryz.func3, Tryz.ntmps3
  go_wp2_with fail
  refine HB.out.mono ?_
  rintro e w1 ⟨rfl, hf1⟩
  have HF1 := Lib.hid hf1
  clear hf1 HB
  by_cases hl : S.length > 500
  · have hl' : (500 : Int) < x0.size := by omega
    go_wp2_with fail
    go_ret
    exact ⟨rfl, HF1.out⟩
  have hl' : (x0.size : Int) ≤ 500 := by omega
  have HP := Lib.hid (told_code S w1 m ((HF1.out.cell (p := ⟨1, 0, none⟩) h00 (by simp)).trans HM.out) (Nat.lt_of_lt_of_le h00 HF1.out.size) (by omega))
  have HQ := Lib.hid (fun W => told_doc S W (by omega))
  rw [show (⟨S.toArray⟩ : ByteArray) = x0 from HX0.out] at HP HQ
  unfold Told at HP HQ
  generalize said S = r at HP HQ
  obtain ⟨st, q, z⟩ := r
  go_wp2_with fail
  refine HP.out.mono ?_
  rintro e w2 ⟨c, rfl, hs2, hf2⟩
  have HS2 := Lib.hid hs2
  have HF2 := Lib.hid (HF1.out.trans hf2)
  clear hs2 hf2 HP
  obtain ⟨kind, table, name, join, a3, a4, a5, a6, a8, a9, a10, a12, l3, l4, l5, l6, l8, l9, l10, l12, c3, c4, c5, c6, c8, c9, c10, c12, desc⟩ := c
  simp only [Px.Cells13.list] at HS2 ⊢
  have HBA := Lib.hid (Blk.new w2 29 [.int .i64 kind, .string ⟨table.toArray⟩, .string ⟨name.toArray⟩, .slice a3 l3 c3, .slice a4 l4 c4, .slice a5 l5 c5, .slice a6 l6 c6, .string ⟨join.toArray⟩, .slice a8 l8 c8, .slice a9 l9 c9, .slice a10 l10 c10, .bool desc, .slice a12 l12 c12])
  have HSA := Lib.hid (Px.SR.keep ((Fr.refl [] w2).alloc (.cells #[.int .i64 kind, .string ⟨table.toArray⟩, .string ⟨name.toArray⟩, .slice a3 l3 c3, .slice a4 l4 c4, .slice a5 l5 c5, .slice a6 l6 c6, .string ⟨join.toArray⟩, .slice a8 l8 c8, .slice a9 l9 c9, .slice a10 l10 c10, .bool desc, .slice a12 l12 c12] 29)) (by simp) HS2.out)
  have HFA := Lib.hid (HF2.out.alloc (.cells #[.int .i64 kind, .string ⟨table.toArray⟩, .string ⟨name.toArray⟩, .slice a3 l3 c3, .slice a4 l4 c4, .slice a5 l5 c5, .slice a6 l6 c6, .string ⟨join.toArray⟩, .slice a8 l8 c8, .slice a9 l9 c9, .slice a10 l10 c10, .bool desc, .slice a12 l12 c12] 29))
  go_wp2_with fail
  refine (HQ.out _).mono ?_
  rintro e w4 ⟨c, rfl, hsr, hf4⟩
  obtain ⟨kind', table', name', join', a3', a4', a5', a6', a8', a9', a10', a12', l3', l4', l5', l6', l8', l9', l10', l12', c3', c4', c5', c6', c8', c9', c10', c12', desc'⟩ := c
  simp only [Px.Cells13.list] at hsr ⊢
  have hfb := hf4.alloc (.cells #[.int .i64 kind', .string ⟨table'.toArray⟩, .string ⟨name'.toArray⟩, .slice a3' l3' c3', .slice a4' l4' c4', .slice a5' l5' c5', .slice a6' l6' c6', .string ⟨join'.toArray⟩, .slice a8' l8' c8', .slice a9' l9' c9', .slice a10' l10' c10', .bool desc', .slice a12' l12' c12'] 29)
  have HBA4 := Lib.hid (HBA.out.keep hfb (by simp))
  have HSA4 := Lib.hid (Px.SR.keep hfb (by simp) HSA.out)
  have HSB4 := Lib.hid (Px.SR.keep ((Fr.refl [] w4).alloc (.cells #[.int .i64 kind', .string ⟨table'.toArray⟩, .string ⟨name'.toArray⟩, .slice a3' l3' c3', .slice a4' l4' c4', .slice a5' l5' c5', .slice a6' l6' c6', .string ⟨join'.toArray⟩, .slice a8' l8' c8', .slice a9' l9' c9', .slice a10' l10' c10', .bool desc', .slice a12' l12' c12'] 29)) (by simp) hsr)
  have HBB4 := Lib.hid (Blk.new w4 29 [.int .i64 kind', .string ⟨table'.toArray⟩, .string ⟨name'.toArray⟩, .slice a3' l3' c3', .slice a4' l4' c4', .slice a5' l5' c5', .slice a6' l6' c6', .string ⟨join'.toArray⟩, .slice a8' l8' c8', .slice a9' l9' c9', .slice a10' l10' c10', .bool desc', .slice a12' l12' c12'])
  have HF4 := Lib.hid (HFA.out.trans hfb)
  have HSM := Lib.hid (Sx.same_q st _ _ _ _ _ HSA4.out HSB4.out)
  clear hsr hf4 hfb HQ HBA HSA HFA HS2
  go_upto_region 7 with fail
  generalize w4.alloc (.cells #[.int .i64 kind', .string ⟨table'.toArray⟩, .string ⟨name'.toArray⟩, .slice a3' l3' c3', .slice a4' l4' c4', .slice a5' l5' c5', .slice a6' l6' c6', .string ⟨join'.toArray⟩, .slice a8' l8' c8', .slice a9' l9' c9', .slice a10' l10' c10', .bool desc', .slice a12' l12' c12'] 29) = w5 at HBA4 HSA4 HSB4 HBB4 HF4 HSM ⊢
  obtain ⟨x0, x1, x2, x3, x4, x5, x6, x7, x8, x9, x10, x11, x12, f0, f1, f2, f3, f4, f5, f6, f7, f8, f9, f10, f11, f12⟩ := Px.c13_of HBA4.out
  obtain ⟨y0, y1, y2, y3, y4, y5, y6, y7, y8, y9, y10, y11, y12, k0, k1, k2, k3, k4, k5, k6, k7, k8, k9, k10, k11, k12⟩ := Px.c13_of HBB4.out
  go_wp2_with fail
  refine HSM.out.mono ?_
  rintro e w6 ⟨rfl, hf6⟩
  have HF6 := Lib.hid (HF4.out.trans hf6)
  clear hf6
  go_wp2_with fail
  go_ret
  exact ⟨rfl, HF6.out⟩
end Rf
end Go.Proofs.YtmdnhinpaflamaaGreatDoor
