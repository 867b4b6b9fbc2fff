/- show: the law ShowParsed: what is parsed is shown as a text that is parsed as it was. -/
import Derived.Test.YtmdnhinpaflamaaDoorRfJ
import Derived.Test.YtmdnhinpaflamaaDoorSwD
import Derived.Test.YtmdnhinpaflamaaDoorShK
import Derived.Test.YtmdnhinpaflamaaDoorSq
import Derived.Test.YtmdnhinpaflamaaDoorTold2
import Derived.Test.YtmdnhinpaflamaaDoorL8b
namespace Go.Proofs.YtmdnhinpaflamaaDoor
open Go.RowKit
set_option linter.unusedVariables false
set_option linter.unusedSimpArgs false
namespace Rf
open PM (Ex B)
open Px (SR)
open CM (Pr Qs)
open Sh (bt bt_cat bt_size qsT)
/-- what a text says is a statement that is shown -/
theorem told {S : B} {st : PM.St} (h : CM.parse S = .inr st) : ∃ (q : Qs) (D : Nat), q.ok D = true ∧ q.st = st ∧ (qsT q).length ≤ 60000 := by
  unfold CM.parse at h
  split at h
  · cases h
  · rename_i l hl
    obtain ⟨q, D, h1, h2, h3⟩ := CM.parseL_told (CM.lex_inv hl) h
    refine ⟨q, D, h1, h2, ?_⟩
    have := (Lx.lex_ne hl).2
    rw [← Sh.qs_text]
    omega
theorem again {q : Qs} {D : Nat} (h : q.ok D = true) : CM.parse (qsT q) = .inr q.st ∨ (∃ k, CM.parse (qsT q) = .inl (k, 6)) ∨ CM.parse (qsT q) = .inl (0, 7) := by
  have := CM.shown_again h
  rwa [CM.parse_eq, Sh.qs_text] at this
set_option maxRecDepth 1000000 in
set_option maxHeartbeats 8000000 in
theorem showparsed_law (S : B) (w : World) (hE : Sw.Env w) (hml : S.length ≤ maxLen) :
    Calls Tryd.prog 6 #[.string (bt S)] w fun e w' => e = .returned (.bool true) ∧ Fr [] w w' := by
  have HB := Lib.hid (begun8p_any w hE)
  have HEN := Lib.hid hE
  have hsz : (bt S).size = S.length := bt_size S
  obtain ⟨x0, hx0⟩ : ∃ z, bt S = z := ⟨_, rfl⟩
  rw [hx0] at hsz ⊢
  have HX0 := Lib.hid hx0
  clear hE hx0
  go_enter Tryd.func6, Tryd.ntmps6
  go_wp2_with fail
  refine HB.out.mono ?_
  rintro e w1 ⟨rfl, hf1⟩
  have HF1 := Lib.hid hf1
  clear hf1 HB
  by_cases hl : S.length > 400
  · have hl' : (400 : Int) < x0.size := by omega
    go_wp2_with fail
    go_ret
    exact ⟨rfl, HF1.out⟩
  have hl' : (x0.size : Int) ≤ 400 := by omega
  have HP := Lib.hid (parse_any S w1 (by omega))
  rw [show (⟨S.toArray⟩ : ByteArray) = x0 from HX0.out] at HP
  go_wp2_with fail
  refine HP.out.mono ?_
  rintro e w2 ⟨x, q0, z0, cs, rfl, hsr, hm, hf2⟩
  obtain ⟨y, hy⟩ := Px.sr_cells hsr
  obtain ⟨kind, table, name, join, a3, a4, a5, a6, a8, a9, a10, a12, l3, l4, l5, l6, l8, l9, l10, l12, c3, c4, c5, c6, c8, c9, c10, c12, desc⟩ := y
  simp only [Px.Cells13.list] at hy
  subst hy
  have HSR := Lib.hid hsr
  have HF2 := Lib.hid (HF1.out.trans hf2)
  clear hsr hf2 HP
  cases hp : CM.parse S with
  | inl r =>
    obtain ⟨p, k⟩ := r
    rw [hp] at hm
    obtain ⟨rfl, rfl, hk⟩ := hm
    go_wp2_with fail
    go_ret
    exact ⟨rfl, HF2.out.alloc _⟩
  | inr st =>
    rw [hp] at hm
    obtain ⟨rfl, rfl, rfl⟩ := hm
    obtain ⟨q, D, hok, rfl, hlen⟩ := told hp
    have HOK := Lib.hid hok
    have hag := again hok
    have HSA := Lib.hid (Px.SR.keep ((Fr.refl [] w2).alloc (.cells #[.int .i64 kind, .string ⟨table.toArray⟩, .string ⟨name.toArray⟩, .slice a3 l3 c3, .slice a4 l4 c4, .slice a5 l5 c5, .slice a6 l6 c6, .string ⟨join.toArray⟩, .slice a8 l8 c8, .slice a9 l9 c9, .slice a10 l10 c10, .bool desc, .slice a12 l12 c12] 64)) (by simp) HSR.out)
    have HFA := Lib.hid (HF2.out.alloc (.cells #[.int .i64 kind, .string ⟨table.toArray⟩, .string ⟨name.toArray⟩, .slice a3 l3 c3, .slice a4 l4 c4, .slice a5 l5 c5, .slice a6 l6 c6, .string ⟨join.toArray⟩, .slice a8 l8 c8, .slice a9 l9 c9, .slice a10 l10 c10, .bool desc, .slice a12 l12 c12] 64))
    have HBA := Lib.hid (Blk.new w2 64 [.int .i64 kind, .string ⟨table.toArray⟩, .string ⟨name.toArray⟩, .slice a3 l3 c3, .slice a4 l4 c4, .slice a5 l5 c5, .slice a6 l6 c6, .string ⟨join.toArray⟩, .slice a8 l8 c8, .slice a9 l9 c9, .slice a10 l10 c10, .bool desc, .slice a12 l12 c12])
    have HSH := Lib.hid (Sw.show_any q D hok hlen _ (w2.alloc (.cells #[.int .i64 kind, .string ⟨table.toArray⟩, .string ⟨name.toArray⟩, .slice a3 l3 c3, .slice a4 l4 c4, .slice a5 l5 c5, .slice a6 l6 c6, .string ⟨join.toArray⟩, .slice a8 l8 c8, .slice a9 l9 c9, .slice a10 l10 c10, .bool desc, .slice a12 l12 c12] 64)) _ (HEN.out.keep HFA.out) HSA.out)
    have HP2 := Lib.hid (fun W => parse_any (qsT q) W (by omega))
    have hts : ((bt (qsT q)).size : Int) ≤ 60000 := by rw [bt_size]; omega
    change Hid (Calls _ _ _ _ fun e w' => e = .returned (.string (bt (qsT q))) ∧ _) at HSH
    change Hid (∀ W, Calls _ _ #[.string (bt (qsT q))] W _) at HP2
    obtain ⟨t, ht⟩ : ∃ z, bt (qsT q) = z := ⟨_, rfl⟩
    rw [ht] at HSH HP2 hts
    have HT := Lib.hid ht
    have HLEN := Lib.hid hlen
    clear hok hp hlen ht HSR
    go_wp2_with fail
    refine HSH.out.mono ?_
    rintro e w3 ⟨rfl, hf3⟩
    have HBA3 := Lib.hid (HBA.out.keep hf3 (by simp))
    have HSA3 := Lib.hid (Px.SR.keep hf3 (by simp) HSA.out)
    have HF3 := Lib.hid (HFA.out.trans hf3)
    clear hf3 HSH HBA HSA HFA
    go_wp2_with fail
    refine (HP2.out _).mono ?_
    rintro e w4 ⟨x, q0, z0, cs, rfl, hsr, hm, hf4⟩
    obtain ⟨y, hy⟩ := Px.sr_cells hsr
    obtain ⟨kind', table', name', join', a3', a4', a5', a6', a8', a9', a10', a12', l3', l4', l5', l6', l8', l9', l10', l12', c3', c4', c5', c6', c8', c9', c10', c12', desc'⟩ := y
    simp only [Px.Cells13.list] at hy
    subst hy
    have hfb := hf4.alloc (.cells #[.int .i64 kind', .string ⟨table'.toArray⟩, .string ⟨name'.toArray⟩, .slice a3' l3' c3', .slice a4' l4' c4', .slice a5' l5' c5', .slice a6' l6' c6', .string ⟨join'.toArray⟩, .slice a8' l8' c8', .slice a9' l9' c9', .slice a10' l10' c10', .bool desc', .slice a12' l12' c12'] 64)
    have HBA4 := Lib.hid (HBA3.out.keep hfb (by simp))
    have HSA4 := Lib.hid (Px.SR.keep hfb (by simp) HSA3.out)
    have HSB4 := Lib.hid (Px.SR.keep ((Fr.refl [] w4).alloc (.cells #[.int .i64 kind', .string ⟨table'.toArray⟩, .string ⟨name'.toArray⟩, .slice a3' l3' c3', .slice a4' l4' c4', .slice a5' l5' c5', .slice a6' l6' c6', .string ⟨join'.toArray⟩, .slice a8' l8' c8', .slice a9' l9' c9', .slice a10' l10' c10', .bool desc', .slice a12' l12' c12'] 64)) (by simp) hsr)
    have HBB4 := Lib.hid (Blk.new w4 64 [.int .i64 kind', .string ⟨table'.toArray⟩, .string ⟨name'.toArray⟩, .slice a3' l3' c3', .slice a4' l4' c4', .slice a5' l5' c5', .slice a6' l6' c6', .string ⟨join'.toArray⟩, .slice a8' l8' c8', .slice a9' l9' c9', .slice a10' l10' c10', .bool desc', .slice a12' l12' c12'])
    have HF4 := Lib.hid (HF3.out.trans hfb)
    clear hsr hf4 hfb HP2 HBA3 HSA3 HF3
    rcases hag with h | ⟨k, h⟩ | h
    · rw [h] at hm
      obtain ⟨rfl, rfl, rfl⟩ := hm
      have HSM := Lib.hid (Sx.same_q q.st _ _ _ _ _ HSB4.out HSA4.out)
      have HS2 := Lib.hid (fun W (hf : Fr [] (w4.alloc (.cells #[.int .i64 kind', .string ⟨table'.toArray⟩, .string ⟨name'.toArray⟩, .slice a3' l3' c3', .slice a4' l4' c4', .slice a5' l5' c5', .slice a6' l6' c6', .string ⟨join'.toArray⟩, .slice a8' l8' c8', .slice a9' l9' c9', .slice a10' l10' c10', .bool desc', .slice a12' l12' c12'] 64)) W) => Sw.show_any q D HOK.out HLEN.out _ W _ (HEN.out.keep (HF4.out.trans hf)) (Px.SR.keep hf (by simp) HSB4.out))
      change Hid (∀ W, Fr [] _ W → Calls _ _ _ W fun e w' => e = .returned (.string (bt (qsT q))) ∧ _) at HS2
      rw [HT.out] at HS2
      clear h
      go_upto_region 10 with fail
      generalize w4.alloc (.cells #[.int .i64 kind', .string ⟨table'.toArray⟩, .string ⟨name'.toArray⟩, .slice a3' l3' c3', .slice a4' l4' c4', .slice a5' l5' c5', .slice a6' l6' c6', .string ⟨join'.toArray⟩, .slice a8' l8' c8', .slice a9' l9' c9', .slice a10' l10' c10', .bool desc', .slice a12' l12' c12'] 64) = w5 at HBA4 HSA4 HSB4 HBB4 HF4 HSM HS2 ⊢
      obtain ⟨x0, x1, x2, x3, x4, x5, x6, x7, x8, x9, x10, x11, x12, f0, f1, f2, f3, f4, f5, f6, f7, f8, f9, f10, f11, f12⟩ := Px.c13_of HBA4.out
      obtain ⟨y0, y1, y2, y3, y4, y5, y6, y7, y8, y9, y10, y11, y12, k0, k1, k2, k3, k4, k5, k6, k7, k8, k9, k10, k11, k12⟩ := Px.c13_of HBB4.out
      go_wp2_with fail
      refine HSM.out.mono ?_
      rintro e w6 ⟨rfl, hf6⟩
      have HBB6 := Lib.hid (HBB4.out.keep hf6 (by simp))
      have HF6 := Lib.hid hf6
      clear hf6 x0 x1 x2 x3 x4 x5 x6 x7 x8 x9 x10 x11 x12 f0 f1 f2 f3 f4 f5 f6 f7 f8 f9 f10 f11 f12 y0 y1 y2 y3 y4 y5 y6 y7 y8 y9 y10 y11 y12 k0 k1 k2 k3 k4 k5 k6 k7 k8 k9 k10 k11 k12
      obtain ⟨y0, y1, y2, y3, y4, y5, y6, y7, y8, y9, y10, y11, y12, k0, k1, k2, k3, k4, k5, k6, k7, k8, k9, k10, k11, k12⟩ := Px.c13_of HBB6.out
      go_wp2_with fail
      refine (HS2.out _ HF6.out).mono ?_
      rintro e w7 ⟨rfl, hf7⟩
      have HF7 := Lib.hid (HF4.out.trans (HF6.out.trans hf7))
      clear hf7
      go_wp2_with fail
      go_ret
      exact ⟨rfl, HF7.out⟩
    · rw [h] at hm
      obtain ⟨rfl, rfl, _⟩ := hm
      clear h
      go_wp2_with fail
      go_ret
      exact ⟨rfl, HF4.out⟩
    · rw [h] at hm
      obtain ⟨rfl, rfl, _⟩ := hm
      clear h
      go_wp2_with fail
      go_ret
      exact ⟨rfl, HF4.out⟩
end Rf
end Go.Proofs.YtmdnhinpaflamaaDoor
