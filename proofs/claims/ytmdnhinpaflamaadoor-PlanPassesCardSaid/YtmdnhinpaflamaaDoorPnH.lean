/- plan: Choose. -/
import Derived.Test.YtmdnhinpaflamaaDoorPnG
namespace Go.Proofs.YtmdnhinpaflamaaDoor
open Go.RowKit
set_option linter.unusedVariables false
set_option linter.unusedSimpArgs false
namespace Pn
open PM (Ex B Col)
open Px (ColS colC z7 put7 frPut7 blkPut7 ret_cell7 c7_of)
set_option maxRecDepth 1000000 in
set_option maxHeartbeats 4000000 in
theorem cl1_any (tn : B) (l : List Col) (ix : List B) (A A2 : Nat → Prop) (a ia : Option Addr) (c ic : Nat) (hl : l.length ≤ 100) (hil : ix.length ≤ 100) (tb : Nat) (x : Ex) (cs : List Value) (w : World)
    (h : TR A w ⟨tn, l, ix⟩ a c ia ic) (hT : Blk w tb 27 [.string ⟨tn.toArray⟩, .slice a l.length c, .slice ia ix.length ic]) (hE : Rep.E 41 A2 w x cs) :
    Calls Tryd.prog 33 #[.agg cs.toArray, .pointer (some ⟨tb, 0, none⟩)] w fun e w' => WayR (wayOf ⟨tn, l, ix⟩ x) e ∧ Fr [] w w' := by
  have htb := hT.lt
  obtain ⟨xo, xk, xi, xz, xt, xm, xg, xa, xn, xc, hx, rfl, -⟩ := Sm.e_cells hE
  have hf0 := ((Fr.refl [] w).alloc (.cells #[.int .i64 xo, .int .i64 xk, .int .i64 xi, .string ⟨xz.toArray⟩, .string ⟨xt.toArray⟩, .string ⟨xm.toArray⟩, .slice xa xn xc] 41)).alloc (.cells #[.int .i64 0, .int .i64 0, .int .i64 0, .string ⟨#[]⟩] 46)
  have hb1 := Blk.new (w.alloc (.cells #[.int .i64 xo, .int .i64 xk, .int .i64 xi, .string ⟨xz.toArray⟩, .string ⟨xt.toArray⟩, .string ⟨xm.toArray⟩, .slice xa xn xc] 41)) 46 [.int .i64 0, .int .i64 0, .int .i64 0, .string ⟨#[]⟩]
  rw [World.size_alloc] at hb1
  have HC := Lib.hid (pfirst_any x _ _ _ (Rep.E.keep hf0 (by simp) hE))
  have HTR := Lib.hid h
  have HT := Lib.hid hT
  have HB1 := Lib.hid hb1
  have HF0 := Lib.hid hf0
  have HOF : Hid (wayOf ⟨tn, l, ix⟩ x = wayX ⟨tn, l, ix⟩ (first x)) := Lib.hid rfl
  generalize wayOf ⟨tn, l, ix⟩ x = o at HOF ⊢
  generalize first x = y at HC HOF
  clear h hT hE hx hf0 hb1
  go_enter Tryd.func33, Tryd.ntmps33
  go_wp2_with fail
  refine HC.out.mono ?_
  rintro e w1 ⟨⟨ys, rfl, hy⟩, hf1⟩
  have HB2 := Lib.hid (HB1.out.keep hf1 (by simp))
  have HF1 := Lib.hid (HF0.out.trans hf1)
  clear hf1 HC HB1
  obtain ⟨yo, yk, yi, yz, yt, ym, yg, ya, yn, yc, rfl, rfl, hes⟩ := Sm.e_cells hy
  have hyn := es_len hes
  have HES := Lib.hid hes
  have hbl := HB2.out.lt
  have HFA := Lib.hid (HF1.out.alloc (.cells #[.int .i64 yo, .int .i64 yk, .int .i64 yi, .string ⟨yz.toArray⟩, .string ⟨yt.toArray⟩, .string ⟨ym.toArray⟩, .slice ya yn yc] 41))
  have HYB := Lib.hid (Blk.new w1 41 [.int .i64 yo, .int .i64 yk, .int .i64 yi, .string ⟨yz.toArray⟩, .string ⟨yt.toArray⟩, .string ⟨ym.toArray⟩, .slice ya yn yc])
  have HB3 := Lib.hid (HB2.out.alloc (.cells #[.int .i64 yo, .int .i64 yk, .int .i64 yi, .string ⟨yz.toArray⟩, .string ⟨yt.toArray⟩, .string ⟨ym.toArray⟩, .slice ya yn yc] 41))
  by_cases hok : yo = 8 ∧ yg.length = 2
  · obtain ⟨rfl, h2⟩ := hok
    obtain ⟨p, q, rfl⟩ : ∃ p q, yg = [p, q] := by
      cases yg with
      | nil => cases h2
      | cons p r =>
        cases r with
        | nil => cases h2
        | cons q r => cases r with
          | nil => exact ⟨p, q, rfl⟩
          | cons _ _ => simp at h2
    obtain rfl : yn = 2 := hyn
    clear h2 hes hy
    have HO2 : Hid (o = way2 ⟨tn, l, ix⟩ p q) := Lib.hid HOF.out
    have hfl := (HFA.out.alloc (.cells #[.int .i64 0, .int .i64 1, .int .i64 1, .int .i64 0] 87))
    have hlb := Blk.new (w1.alloc (.cells #[.int .i64 8, .int .i64 yk, .int .i64 yi, .string ⟨yz.toArray⟩, .string ⟨yt.toArray⟩, .string ⟨ym.toArray⟩, .slice ya 2 yc] 41)) 87 [.int .i64 0, .int .i64 1, .int .i64 1, .int .i64 0]
    rw [World.size_alloc] at hlb
    have HB4 := Lib.hid (HB3.out.alloc (.cells #[.int .i64 0, .int .i64 1, .int .i64 1, .int .i64 0] 87))
    have hyb := HYB.out.alloc (.cells #[.int .i64 0, .int .i64 1, .int .i64 1, .int .i64 0] 87)
    have hes := Rep.Es.keep (((Fr.refl [] w1).alloc (.cells #[.int .i64 8, .int .i64 yk, .int .i64 yi, .string ⟨yz.toArray⟩, .string ⟨yt.toArray⟩, .string ⟨ym.toArray⟩, .slice ya 2 yc] 41)).alloc (.cells #[.int .i64 0, .int .i64 1, .int .i64 1, .int .i64 0] 87)) (by simp) HES.out
    have HQ := Lib.hid (find2_any ⟨tn, l, ix⟩ p q tb w1.heap.size (w1.heap.size + 1) 2 (Nat.le_refl _) _ hlb
      (fun W hf => cl2_any tn l ix A A2 a ia c ic hl hil tb w1.heap.size 8 yk yi yz yt ym ya yc p q 0 1 (by decide) (by decide) W (HTR.out.keep (hfl.trans hf) (by simp)) (HT.out.keep (hfl.trans hf) (by simp)) (hyb.keep hf (by simp)) (Rep.Es.keep hf (by simp) hes))
      (fun W hf => cl2_any tn l ix A A2 a ia c ic hl hil tb w1.heap.size 8 yk yi yz yt ym ya yc p q 1 0 (by decide) (by decide) W (HTR.out.keep (hfl.trans hf) (by simp)) (HT.out.keep (hfl.trans hf) (by simp)) (hyb.keep hf (by simp)) (Rep.Es.keep hf (by simp) hes)))
    have HFL := Lib.hid hfl
    clear hfl hlb hyb hes
    go_wp2_with fail
    refine HQ.out.mono ?_
    rintro e w3 ⟨⟨rp, rk, ri, rt, rb, rfl, hr⟩, hf3⟩
    have HB5 := Lib.hid (HB4.out.keep hf3 (by simp))
    have HF3 := Lib.hid (HFL.out.trans hf3)
    have HR := Lib.hid hr
    have hbl5 := HB5.out.lt
    obtain ⟨p0, p1, p2, p3, q0, q1, q2, q3⟩ := c4_of HB5.out
    clear hf3 hr HQ HFL HB4
    go_wp2_with fail
    refine bodyPost_ret (ret_plan rfl _ (w.heap.size + 1) rfl _ rfl _ _ _ _ _ (blkPut4 HB5.out _ _ _ _)) rfl ⟨⟨rp, rk, ri, rt, rb, rfl, ?_⟩, frPut4 HF3.out (.inr (by omega)) _ _ _ _⟩
    rw [HO2.out]
    exact HR.out
  · have hq : (yo ≠ 8) ∨ (yo = 8 ∧ ¬ yn = 2) := by
      by_cases h : yo = 8
      · exact .inr ⟨h, fun h2 => hok ⟨h, by omega⟩⟩
      · exact .inl h
    have HNO : Hid (o = none) := Lib.hid (by
      rw [HOF.out]
      exact wayX_no hok)
    have hne : ¬ w.heap.size + 1 = w1.heap.size := by omega
    have hne2 : ¬ w1.heap.size = w.heap.size + 1 := by omega
    obtain ⟨p0, p1, p2, p3, q0, q1, q2, q3⟩ := c4_of HB2.out
    clear hok hy hes
    rcases hq with h | ⟨h, h2⟩
    · have hb : (yo == 8) = false := beq_eq_false_iff_ne.2 h
      clear h
      go_wp2_with fail
      exact bodyPost_ret (ret_plan rfl _ (w.heap.size + 1) rfl _ rfl _ _ _ _ _ (Blk.alloc (blkPut4 HB2.out _ _ _ _) _)) rfl ⟨⟨0, 0, 0, [], false, rfl, .inr ⟨rfl, HNO.out⟩⟩, (frPut4 HF1.out (.inr (by omega)) _ _ _ _).alloc _⟩
    · subst h
      have hb : ((yn : Int) == 2) = false := beq_eq_false_iff_ne.2 (by omega)
      clear h2
      go_wp2_with fail
      exact bodyPost_ret (ret_plan rfl _ (w.heap.size + 1) rfl _ rfl _ _ _ _ _ (Blk.alloc (blkPut4 HB2.out _ _ _ _) _)) rfl ⟨⟨0, 0, 0, [], false, rfl, .inr ⟨rfl, HNO.out⟩⟩, (frPut4 HF1.out (.inr (by omega)) _ _ _ _).alloc _⟩
end Pn
end Go.Proofs.YtmdnhinpaflamaaDoor
