/- The document's parser: unary, not; expressions. -/
import Derived.Test.YtmdnhinpaflamaaGreatDoorRfC
namespace Go.Proofs.YtmdnhinpaflamaaGreatDoor
open Go.RowKit
set_option linter.unusedVariables false
set_option linter.unusedSimpArgs false
namespace Rf
open LexM (Tok)
open PM (B Ex Col It PS zeroTok wordy two un colEx opOr opAnd opSum opTerm opComp)
open Px (frSet ret_cell7 blkPut7 frPut7 c7_of colCells col_rep z7 put7)
theorem St.at {α : Type} {c c' : Int -> CM.P α} {s s1 : PS} {a : α} (hc : s.e = 0 -> c s.deep s.l = c' s.deep s.l) (h : St c' s a s1) : St c s a s1 := ⟨h.1, fun e => by rw [hc e]; exact h.2 e⟩
theorem rep_mono {b b' : Nat} {w w' : World} {X : List (Option Nat)} {x : Ex} {cs : List Value} (hb : b <= b') (hf : Fr X w w') (hX : ∀ g, b' <= g -> g < w.heap.size -> some g ∉ X) (h : Rep.E 82 (fun g => b' <= g) w x cs) : Rep.E 82 (fun g => b <= g) w' x cs :=
 Rep.E.mono (fun g hg => Nat.le_trans hb hg.1) (Rep.E.keep hf (fun g hg => hX g hg.1 hg.2) h.live)
theorem rep_zero (A : Nat -> Prop) (w : World) : Rep.E 82 A w (.mk 0 0 0 [] [] [] []) z7 := .mk 0 0 0 [] [] [] [] _ Rep.Es.nil
theorem rep_lit (A : Nat -> Prop) (w : World) (k i : Int) (t : B) : Rep.E 82 A w (.mk 1 k i t [] [] []) [.int .i64 1, .int .i64 k, .int .i64 i, .string ⟨t.toArray⟩, .string ⟨([] : B).toArray⟩, .string ⟨([] : B).toArray⟩, .slice none 0 0] := .mk 1 k i t [] [] [] _ Rep.Es.nil
theorem rep_un {b : Nat} {w : World} {x : Ex} {cs : List Value} (op : Int) (hb : b <= w.heap.size) (h : Rep.E 82 (fun g => b <= g) w x cs) :
  Rep.E 82 (fun g => b <= g) (w.alloc (.cells cs.toArray 82)) (un op x) [.int .i64 op, .int .i64 0, .int .i64 0, .string ⟨([] : B).toArray⟩, .string ⟨([] : B).toArray⟩, .string ⟨([] : B).toArray⟩, .slice (some ⟨w.heap.size, 0, none⟩) 1 1] := by
 have hL : Rep.L 82 (fun g => b <= g) w [x] (cs ++ []) := .cons x [] cs [] h .nil
 rw [List.append_nil] at hL
 exact .mk op 0 0 [] [] [] [x] _ (es_mk hL hb (by simp [maxLen]))
theorem un_end {w wz : World} {x : Ex} {xs : List Value} (op : Int) (hB : Blk wz w.heap.size 82 z7) (hx : Rep.E 82 (fun g => w.heap.size + 1 <= g) wz x xs) :
  Blk ((put7 wz w.heap.size (.int .i64 op) (.int .i64 0) (.int .i64 0) (.string ⟨#[]⟩) (.string ⟨#[]⟩) (.string ⟨#[]⟩) (.slice (some ⟨wz.heap.size, 0, none⟩) 1 1)).alloc (.cells xs.toArray 82)) w.heap.size 82 [.int .i64 op, .int .i64 0, .int .i64 0, .string ⟨#[]⟩, .string ⟨#[]⟩, .string ⟨#[]⟩, .slice (some ⟨wz.heap.size, 0, none⟩) 1 1] /\
  Rep.E 82 (fun g => w.heap.size <= g) ((put7 wz w.heap.size (.int .i64 op) (.int .i64 0) (.int .i64 0) (.string ⟨#[]⟩) (.string ⟨#[]⟩) (.string ⟨#[]⟩) (.slice (some ⟨wz.heap.size, 0, none⟩) 1 1)).alloc (.cells xs.toArray 82)) (un op x) [.int .i64 op, .int .i64 0, .int .i64 0, .string ⟨#[]⟩, .string ⟨#[]⟩, .string ⟨#[]⟩, .slice (some ⟨wz.heap.size, 0, none⟩) 1 1] := by
 have hl := hB.lt
 have h1 : Fr [some w.heap.size] wz (put7 wz w.heap.size (.int .i64 op) (.int .i64 0) (.int .i64 0) (.string ⟨#[]⟩) (.string ⟨#[]⟩) (.string ⟨#[]⟩) (.slice (some ⟨wz.heap.size, 0, none⟩) 1 1)) := frPut7 (Fr.refl [some w.heap.size] wz) (.inl (by simp)) _ _ _ _ _ _ _
 have hsz : (put7 wz w.heap.size (.int .i64 op) (.int .i64 0) (.int .i64 0) (.string ⟨#[]⟩) (.string ⟨#[]⟩) (.string ⟨#[]⟩) (.slice (some ⟨wz.heap.size, 0, none⟩) 1 1)).heap.size = wz.heap.size := by simp [put7, World.setCell]
 refine ⟨Blk.alloc (blkPut7 hB rfl _ _ _ _ _ _ _) _, ?_⟩
 have h2 := rep_un op (b := w.heap.size) (by rw [hsz]; omega) (Rep.E.mono (fun g hg => by omega) (Rep.E.keep h1 (fun g hg => by simp; omega) hx))
 rw [hsz] at h2
 exact h2
theorem St.kind {k : Int} {s : PS} (h0 : s.e = 0) (hk : (now s).kind = k) : St (fun _ => CM.word k) s (now s) (skip s) := by
 have h := St.word k s (now s) (fun _ _ => rfl)
 unfold worded at h
 rwa [if_neg (by rintro (h | h); exact h h0; exact h hk)] at h
set_option maxRecDepth 1000000 in
set_option maxHeartbeats 8000000 in
theorem unary_any (n : Nat) (cu cn : Int -> CM.P Ex) (hu : RdE 183 cu n) (he : RdE 116 (fun d => CM.exprF (cn d)) n) : RdE 183 (CM.unaryF cu cn) (n + 1) := by
 intro P s w h hw hn
 have hPl := h.lt
 have HR := Hd h
 have HW := Hd hw
 have HU := Hd hu
 have HX := Hd he
 clear h hw hu he
 go_enter Tryz.func183, Tryz.ntmps183
 go_wp2_with fail
 refine (now_any P s _ (HR.out.alloc _)).mono ?_
 rintro e w1 ⟨rfl, hf1⟩
 have HB1 := Hd ((Blk.new w 82 z7).keep hf1 (by simp))
 have HR1 := Hd ((HR.out.alloc (.cells z7.toArray 82)).keepP hf1 (by simp))
 have HF1 := Hd ((((Fr.refl [] w).alloc (.cells z7.toArray 82)).trans hf1).mono (S' := [some P]) (by simp))
 have hl1 := HB1.out.lt
 clear hf1
 obtain ⟨tk, tt, ti, tp, hq⟩ : ∃ tk tt ti tp, (now s).kind = tk /\ (now s).text = tt /\ (now s).int = ti /\ (now s).pos = tp := ⟨_, _, _, _, rfl, rfl, rfl, rfl⟩
 obtain ⟨q0, q1, q2, q3⟩ := hq
 rw [q0, q1, q2, q3]
 have HQ := Hd (And.intro q0 (And.intro q1 q2))
 clear q0 q1 q2 q3
 have HT := Hd (Blk.new w1 45 [.int .i64 tk, .string ⟨tt.toArray⟩, .int .i64 ti, .int .i64 tp])
 have HB2 := Hd (Blk.alloc HB1.out (.cells #[.int .i64 tk, .string ⟨tt.toArray⟩, .int .i64 ti, .int .i64 tp] 45))
 have HR2 := Hd (HR1.out.alloc (.cells #[.int .i64 tk, .string ⟨tt.toArray⟩, .int .i64 ti, .int .i64 tp] 45))
 have HF2 := Hd (HF1.out.alloc (.cells #[.int .i64 tk, .string ⟨tt.toArray⟩, .int .i64 ti, .int .i64 tp] 45))
 obtain ⟨g, off, cap, N, nn, ha⟩ := HR1.out.at
 have c4 := ha.c4
 have hlw := ha.lt
 clear ha HB1 HR1 HF1
 have hPw1 : ¬ P = w1.heap.size := by omega
 by_cases h0 : s.e = 0
 ·rw [h0] at c4
  go_wp2_with fail
  generalize w1.alloc (.cells #[.int .i64 tk, .string ⟨tt.toArray⟩, .int .i64 ti, .int .i64 tp] 45) = wa at HT HB2 HR2 HF2 ⊢
  clear c4
  refine (is_any P [45] s _ HR2.out).mono ?_
  rintro e wb ⟨rfl, hf⟩
  have HT3 := Hd (HT.out.keep hf (by simp))
  have HB3 := Hd (HB2.out.keep hf (by simp))
  have HR3 := Hd (HR2.out.keepP hf (by simp))
  have HF3 := Hd (HF2.out.trans (hf.mono (by simp)))
  clear hf
  cases hi : CM.is [45] s.l with
  |true =>
   have HI2 : Hid (CM.unaryF cu cn s.deep s.l = CM.nests [45] (fun d => CM.bnd (cu d) fun x => CM.ret (un 3 x)) s.deep s.l) := Hd (by unfold CM.unaryF; rw [if_pos hi])
   have HI := Hd hi
   have hbl := HB3.out.lt
   have hrl := HR3.out.lt
   clear hi
   go_wp2_with fail
   refine (down_any P s _ HR3.out HW.out h0).mono ?_
   rintro e w4 ⟨rfl, h4, hf4⟩
   have HB4 := Hd (HB3.out.keep hf4 (by simp; omega))
   have HR4 := Hd h4
   have HF4 := Hd (HF3.out.trans hf4)
   have hl4 := HB4.out.lt
   have hr4 := h4.lt
   clear h4 hf4
   by_cases h64 : s.deep = 64
   ·have hdd : decide (s.deep ≠ 64) = false := by simp [h64]
    rw [hdd]
    clear hdd
    obtain ⟨y0, y1, y2, y3, y4, y5, y6, k0, k1, k2, k3, k4, k5, k6⟩ := c7_of HB4.out
    have HS : Hid (St (CM.unaryF cu cn) s (.mk 0 0 0 [] [] [] []) (downed s)) := Hd (St.at (fun _ => HI2.out) (St.deep_fail h0 h64 _))
    go_wp2_with fail
    refine bodyPost_ret (ret_cell7 rfl _ w.heap.size rfl _ _ _ _ _ _ _ _ (blkPut7 HB4.out rfl _ _ _ _ _ _ _)) rfl ⟨.mk 0 0 0 [] [] [] [], downed s, z7, rfl, ?_, HR4.out.keepP (frPut7 (Fr.refl [some w.heap.size] _) (.inl (by simp)) _ _ _ _ _ _ _) (fun g hg => by simp; omega), HS.out, downed_dp HW.out h0, frPut7 HF4.out (.inr (Nat.le_refl _)) _ _ _ _ _ _ _⟩
    exact rep_zero _ _
   ·have hdd : decide (s.deep ≠ 64) = true := by simp [h64]
    rw [hdd]
    clear hdd
    have HWd := Hd (downed_dp HW.out h0)
    have HWs := Hd (Dp.skip HWd.out.wd)
    have hls : (skip (downed s)).l.length <= n := by have h1 := RR.pos HR4.out; have h2 : (skip (downed s)).l.length = (downed s).l.length - 1 := (by simp [skip]); have h3 := HWd.out.len; omega
    have hdl0 : (downed s).l = s.l := by unfold downed; rw [if_neg h64]
    have hnd : (now (downed s)).kind ≠ 6 := by unfold now; rw [hdl0]; exact is_kind HI.out
    clear hdl0
    go_wp2_with fail
    refine (next_any P (downed s) _ HR4.out hnd).mono ?_
    rintro e w5 ⟨rfl, h5, hf5⟩
    have HB5 := Hd (HB4.out.keep hf5 (by simp; omega))
    have HR5 := Hd h5
    have HF5 := Hd (HF4.out.trans hf5)
    have hl5 := HB5.out.lt
    have hr5 := h5.lt
    clear h5 hf5 hnd
    go_wp2_with fail
    refine (HU.out P (skip (downed s)) _ HR5.out HWs.out.wd hls).mono ?_
    rintro e w6 ⟨x, s2, xs, rfl, hx, h6, hst6, hd6, hf6⟩
    obtain ⟨op, kind, int, t, tb, nm, va, vl, vc, rfl⟩ := e_form hx
    have HX6 := Hd hx
    have HB6 := Hd (HB5.out.keep hf6 (by simp; omega))
    have HR6 := Hd h6
    have HF6 := Hd (HF5.out.trans hf6)
    have HST6 := Hd hst6
    have HD6 := Hd hd6
    have hl6 := HB6.out.lt
    have hr6 := h6.lt
    have hs6 := hf6.size
    clear hx h6 hf6 hst6 hd6 hls
    obtain ⟨g, off, cap, N, nn, ha⟩ := HR6.out.at
    have c2 := ha.c2
    have f2 := ha.f0 2
    have hge := HD6.out.ge
    have h65 := HD6.out.wd.d65
    have hd0 := HWs.out.wd.d0
    have hsd : (skip (downed s)).deep = s.deep + 1 := by unfold downed; rw [if_neg h64]; rfl
    have hd1 := HW.out.d0
    have hdl : 1 <= s2.deep := by omega
    clear ha hge hd0 hsd hd1
    have hfz := ((Fr.refl [some P] w6).setCell (p := ⟨P, 2, none⟩) (.inl (by simp)) (.int .i64 (s2.deep - 1))).alloc (.cells #[.int .i64 op, .int .i64 kind, .int .i64 int, .string ⟨t.toArray⟩, .string ⟨tb.toArray⟩, .string ⟨nm.toArray⟩, .slice va vl vc] 82)
    have HRZ := Hd ((HR6.out.setD (s2.deep - 1)).alloc (.cells #[.int .i64 op, .int .i64 kind, .int .i64 int, .string ⟨t.toArray⟩, .string ⟨tb.toArray⟩, .string ⟨nm.toArray⟩, .slice va vl vc] 82))
    have HBZ := Hd (HB6.out.keep hfz (by simp; omega))
    have hsz : (w6.setCell ⟨P, 2, none⟩ (.int .i64 (s2.deep - 1))).heap.size = w6.heap.size := by simp [World.setCell]
    have hnb := Blk.new (w6.setCell ⟨P, 2, none⟩ (.int .i64 (s2.deep - 1))) 82 [.int .i64 op, .int .i64 kind, .int .i64 int, .string ⟨t.toArray⟩, .string ⟨tb.toArray⟩, .string ⟨nm.toArray⟩, .slice va vl vc]
    rw [hsz] at hnb
    have HCZ := Hd hnb
    have HFZ := Hd (HF6.out.trans hfz)
    have HXZ := Hd (rep_mono (b := w.heap.size + 1) (by omega) hfz (fun g hg _ => by simp; omega) HX6.out)
    clear hfz hsz hnb
    have hne1 : ¬ w6.heap.size = P := by omega
    have hne2 : ¬ P = w6.heap.size := by omega
    have hne3 : ¬ w6.heap.size = w.heap.size := by omega
    have hne4 : ¬ w.heap.size = w6.heap.size := by omega
    go_upto_region 10 with fail
    generalize (w6.setCell ⟨P, 2, none⟩ (.int .i64 (s2.deep - 1))).alloc (.cells #[.int .i64 op, .int .i64 kind, .int .i64 int, .string ⟨t.toArray⟩, .string ⟨tb.toArray⟩, .string ⟨nm.toArray⟩, .slice va vl vc] 82) = wz at HRZ HBZ HCZ HFZ HXZ ⊢
    obtain ⟨c0, c1, c2, c3, c4, c5, c6, f0, f1, f2, f3, f4, f5, f6⟩ := c7_of HCZ.out
    obtain ⟨y0, y1, y2, y3, y4, y5, y6, k0, k1, k2, k3, k4, k5, k6⟩ := c7_of HBZ.out
    have hbz := HBZ.out.lt
    have hrz := HRZ.out.lt
    have hcz := HCZ.out.lt
    have hnz : ¬ w.heap.size = wz.heap.size := by omega
    have hnz2 : w.heap.size < wz.heap.size + 1 := by omega
    go_wp2_with fail
    have HS : Hid (St (CM.unaryF cu cn) s (un 3 x) (undeep s2)) := Hd (St.at (fun _ => HI2.out) (St.deep_ok h0 h64 HI.out (St.map (un 3) HST6.out)))
    obtain ⟨u1, u2⟩ := un_end 3 HBZ.out HXZ.out
    exact bodyPost_ret (ret_cell7 rfl _ w.heap.size rfl _ _ _ _ _ _ _ _ u1) rfl ⟨un 3 x, undeep s2, _, rfl, u2, (HRZ.out.keepP (frPut7 (Fr.refl [some w.heap.size] _) (.inl (by simp)) _ _ _ _ _ _ _) (fun g hg => by simp; omega)).alloc _, HS.out, undeep_dp HW.out h0 h64 HD6.out, (frPut7 HFZ.out (.inr (Nat.le_refl _)) _ _ _ _ _ _ _).alloc _⟩
  |false =>
   have HI1 := Hd hi
   clear hi
   go_wp2_with fail
   refine (is_any P [40] s _ HR3.out).mono ?_
   rintro e wc ⟨rfl, hf⟩
   have HT4 := Hd (HT3.out.keep hf (by simp))
   have HB4 := Hd (HB3.out.keep hf (by simp))
   have HR4 := Hd (HR3.out.keepP hf (by simp))
   have HF4 := Hd (HF3.out.trans (hf.mono (by simp)))
   clear hf
   cases hi : CM.is [40] s.l with
   |true =>
    have HI2 : Hid (CM.unaryF cu cn s.deep s.l = CM.nests [40] (fun d => CM.bnd (CM.exprF (cn d)) fun x => CM.bnd (CM.needs [[41]]) fun _ => CM.ret x) s.deep s.l) := Hd (by unfold CM.unaryF; rw [if_neg (by rw [show ([45] : B) = [45] from rfl, HI1.out]; decide), if_pos hi])
    have HI := Hd hi
    have hbl := HB4.out.lt
    have hrl := HR4.out.lt
    clear hi
    go_wp2_with fail
    refine (down_any P s _ HR4.out HW.out h0).mono ?_
    rintro e w4 ⟨rfl, h4, hf4⟩
    have HB4 := Hd (HB4.out.keep hf4 (by simp; omega))
    have HR4 := Hd h4
    have HF4 := Hd (HF4.out.trans hf4)
    have hl4 := HB4.out.lt
    have hr4 := h4.lt
    clear h4 hf4
    by_cases h64 : s.deep = 64
    ·have hdd : decide (s.deep ≠ 64) = false := by simp [h64]
     rw [hdd]
     clear hdd
     obtain ⟨y0, y1, y2, y3, y4, y5, y6, k0, k1, k2, k3, k4, k5, k6⟩ := c7_of HB4.out
     have HS : Hid (St (CM.unaryF cu cn) s (.mk 0 0 0 [] [] [] []) (downed s)) := Hd (St.at (fun _ => HI2.out) (St.deep_fail h0 h64 _))
     go_wp2_with fail
     refine bodyPost_ret (ret_cell7 rfl _ w.heap.size rfl _ _ _ _ _ _ _ _ (blkPut7 HB4.out rfl _ _ _ _ _ _ _)) rfl ⟨.mk 0 0 0 [] [] [] [], downed s, z7, rfl, ?_, HR4.out.keepP (frPut7 (Fr.refl [some w.heap.size] _) (.inl (by simp)) _ _ _ _ _ _ _) (fun g hg => by simp; omega), HS.out, downed_dp HW.out h0, frPut7 HF4.out (.inr (Nat.le_refl _)) _ _ _ _ _ _ _⟩
     exact rep_zero _ _
    ·have hdd : decide (s.deep ≠ 64) = true := by simp [h64]
     rw [hdd]
     clear hdd
     have HWd := Hd (downed_dp HW.out h0)
     have HWs := Hd (Dp.skip HWd.out.wd)
     have hls : (skip (downed s)).l.length <= n := by have h1 := RR.pos HR4.out; have h2 : (skip (downed s)).l.length = (downed s).l.length - 1 := (by simp [skip]); have h3 := HWd.out.len; omega
     have hdl0 : (downed s).l = s.l := by unfold downed; rw [if_neg h64]
     have hnd : (now (downed s)).kind ≠ 6 := by unfold now; rw [hdl0]; exact is_kind HI.out
     clear hdl0
     go_wp2_with fail
     refine (next_any P (downed s) _ HR4.out hnd).mono ?_
     rintro e w5 ⟨rfl, h5, hf5⟩
     have HB5 := Hd (HB4.out.keep hf5 (by simp; omega))
     have HR5 := Hd h5
     have HF5 := Hd (HF4.out.trans hf5)
     have hl5 := HB5.out.lt
     have hr5 := h5.lt
     clear h5 hf5 hnd
     go_wp2_with fail
     refine (HX.out P (skip (downed s)) _ HR5.out HWs.out.wd hls).mono ?_
     rintro e w6 ⟨x, s2, xs, rfl, hx, h6, hst6, hd6, hf6⟩
     obtain ⟨op, kind, int, t, tb, nm, va, vl, vc, rfl⟩ := e_form hx
     have HX6 := Hd hx
     have HB6 := Hd (HB5.out.keep hf6 (by simp; omega))
     have HR6 := Hd h6
     have HF6 := Hd (HF5.out.trans hf6)
     have HST6 := Hd hst6
     have HD6 := Hd hd6
     have hl6 := HB6.out.lt
     have hr6 := h6.lt
     have hs6 := hf6.size
     clear hx h6 hf6 hst6 hd6 hls
     go_wp2_with fail
     refine (must_any P [41] s2 _ (HR6.out.alloc (.cells #[.int .i64 op, .int .i64 kind, .int .i64 int, .string ⟨t.toArray⟩, .string ⟨tb.toArray⟩, .string ⟨nm.toArray⟩, .slice va vl vc] 82))).mono ?_
     rintro e w7 ⟨rfl, h7, hf7⟩
     have hb6 := Blk.alloc HB6.out (.cells #[.int .i64 op, .int .i64 kind, .int .i64 int, .string ⟨t.toArray⟩, .string ⟨tb.toArray⟩, .string ⟨nm.toArray⟩, .slice va vl vc] 82)
     have HB7 := Hd (hb6.keep hf7 (by simp; omega))
     have HC7 := Hd ((Blk.new w6 82 [.int .i64 op, .int .i64 kind, .int .i64 int, .string ⟨t.toArray⟩, .string ⟨tb.toArray⟩, .string ⟨nm.toArray⟩, .slice va vl vc]).keep hf7 (by simp; omega))
     have HF7 := Hd ((HF6.out.alloc (.cells #[.int .i64 op, .int .i64 kind, .int .i64 int, .string ⟨t.toArray⟩, .string ⟨tb.toArray⟩, .string ⟨nm.toArray⟩, .slice va vl vc] 82)).trans hf7)
     have HX7 := Hd (rep_mono (b := w.heap.size + 1) (by omega) ((((Fr.refl [some P] w6).alloc (.cells #[.int .i64 op, .int .i64 kind, .int .i64 int, .string ⟨t.toArray⟩, .string ⟨tb.toArray⟩, .string ⟨nm.toArray⟩, .slice va vl vc] 82))).trans hf7) (fun g hg _ => by simp; omega) HX6.out)
     have HR7 := Hd h7
     have hr7 := h7.lt
     have hl7 := HB7.out.lt
     have hc7 := HC7.out.lt
     have HD7 := Hd (HD6.out.trans (Dp.musted HD6.out.wd [41]))
     have HST7 := Hd (St.bnd (d := fun x _ => CM.bnd (CM.needs [[41]]) fun _ => CM.ret x) HST6.out (St.bnd (d := fun _ _ => CM.ret x) (St.needs1 [41] s2) (St.ret x _)))
     clear h7 hf7 hb6
     obtain ⟨s3, hs3⟩ : ∃ z, musted [41] s2 = z := ⟨_, rfl⟩
     rw [hs3] at HR7 HD7 HST7
     clear hs3
     obtain ⟨g, off, cap, N, nn, ha⟩ := HR7.out.at
     have c2 := ha.c2
     have f2 := ha.f0 2
     have hge := HD7.out.ge
     have h65 := HD7.out.wd.d65
     have hd0 := HWs.out.wd.d0
     have hsd : (skip (downed s)).deep = s.deep + 1 := by unfold downed; rw [if_neg h64]; rfl
     have hd1 := HW.out.d0
     have hdl : 1 <= s3.deep := by omega
     clear ha hge hd0 hsd hd1
     have hfz := (Fr.refl [some P] w7).setCell (p := ⟨P, 2, none⟩) (.inl (by simp)) (.int .i64 (s3.deep - 1))
     have HRZ := Hd (HR7.out.setD (s3.deep - 1))
     have HBZ := Hd (HB7.out.keep hfz (by simp; omega))
     have HCZ := Hd (HC7.out.keep hfz (by simp; omega))
     have HFZ := Hd (HF7.out.trans hfz)
     have HXZ := Hd (rep_mono (b := w.heap.size + 1) (by omega) hfz (fun g hg _ => by simp; omega) HX7.out)
     clear hfz
     have hne1 : ¬ w6.heap.size = P := by omega
     have hne2 : ¬ P = w6.heap.size := by omega
     have hne3 : ¬ w6.heap.size = w.heap.size := by omega
     have hne4 : ¬ w.heap.size = w6.heap.size := by omega
     go_upto_region 18 with fail
     generalize w7.setCell ⟨P, 2, none⟩ (.int .i64 (s3.deep - 1)) = wz at HRZ HBZ HCZ HFZ HXZ ⊢
     obtain ⟨c0, c1, c2, c3, c4, c5, c6, f0, f1, f2, f3, f4, f5, f6⟩ := c7_of HCZ.out
     obtain ⟨y0, y1, y2, y3, y4, y5, y6, k0, k1, k2, k3, k4, k5, k6⟩ := c7_of HBZ.out
     go_wp2_with fail
     have HS : Hid (St (CM.unaryF cu cn) s x (undeep s3)) := Hd (St.at (fun _ => HI2.out) (St.deep_ok h0 h64 HI.out HST7.out))
     have hbz := HBZ.out.lt
     refine bodyPost_ret (ret_cell7 rfl _ w.heap.size rfl _ _ _ _ _ _ _ _ (blkPut7 HBZ.out rfl _ _ _ _ _ _ _)) rfl ⟨x, undeep s3, _, rfl, ?_, HRZ.out.keepP (frPut7 (Fr.refl [some w.heap.size] _) (.inl (by simp)) _ _ _ _ _ _ _) (fun g hg => by simp; omega), HS.out, undeep_dp HW.out h0 h64 HD7.out, frPut7 HFZ.out (.inr (Nat.le_refl _)) _ _ _ _ _ _ _⟩
     exact Rep.E.mono (fun g hg => by omega) (Rep.E.keep (frPut7 (Fr.refl [some w.heap.size] _) (.inl (by simp)) _ _ _ _ _ _ _) (fun g hg => by simp; omega) HXZ.out)
   |false =>
    have HI3 := Hd hi
    clear hi
    have hbl := HB4.out.lt
    have hrl := HR4.out.lt
    have htl := HT4.out.lt
    have t0 := HT4.out.cell 0
    have t1 := HT4.out.cell 1
    have t2 := HT4.out.cell 2
    simp only [List.getElem?_cons_zero, List.getElem?_cons_succ] at t0 t1 t2
    have HU0 : Hid (∀ d, CM.unaryF cu cn d s.l = if (now s).kind = 3 then CM.bnd (CM.word 3) (fun t => CM.ret (.mk 1 1 t.int [] [] [] [])) s.l else if (now s).kind = 4 then CM.bnd (CM.word 4) (fun t => CM.ret (.mk 1 2 0 t.text [] [] [])) s.l else CM.column s.l) := Hd (fun d => by unfold CM.unaryF; rw [if_neg (by rw [show ([45] : B) = [45] from rfl, HI1.out]; decide), if_neg (by rw [show ([40] : B) = [40] from rfl, HI3.out]; decide)]; rfl)
    by_cases hk3 : tk = 3
    ·have hkk : (now s).kind = 3 := by rw [HQ.out.1]; exact hk3
     have HS : Hid (St (CM.unaryF cu cn) s (.mk 1 1 ti [] [] [] []) (skip s)) := Hd (by
      refine St.at (c' := fun _ => CM.bnd (CM.word 3) fun t => CM.ret (.mk 1 1 t.int [] [] [] [])) (fun _ => by rw [HU0.out, if_pos hkk]) ?_
      have h := St.bnd (d := fun t _ => CM.ret (Ex.mk 1 1 t.int [] [] [] [])) (St.kind h0 hkk) (St.ret _ _)
      rw [HQ.out.2.2] at h
      exact h)
     have hn6 : (now s).kind ≠ 6 := by rw [hkk]; decide
     clear hkk
     go_wp2_with fail
     refine (next_any P s _ HR4.out hn6).mono ?_
     rintro e w5 ⟨rfl, h5, hf5⟩
     have HB5 := Hd (HB4.out.keep hf5 (by simp; omega))
     have HT5 := Hd (HT4.out.keep hf5 (by simp; omega))
     have HR5 := Hd h5
     have HF5 := Hd (HF4.out.trans hf5)
     clear h5 hf5 t0 t1 t2
     have t1 := HT5.out.cell 1
     have t2 := HT5.out.cell 2
     simp only [List.getElem?_cons_zero, List.getElem?_cons_succ] at t1 t2
     obtain ⟨y0, y1, y2, y3, y4, y5, y6, k0, k1, k2, k3, k4, k5, k6⟩ := c7_of HB5.out
     have hb5 := HB5.out.lt
     go_wp2_with fail
     refine bodyPost_ret (ret_cell7 rfl _ w.heap.size rfl _ _ _ _ _ _ _ _ (blkPut7 HB5.out rfl _ _ _ _ _ _ _)) rfl ⟨.mk 1 1 ti [] [] [] [], skip s, _, rfl, ?_, HR5.out.keepP (frPut7 (Fr.refl [some w.heap.size] _) (.inl (by simp)) _ _ _ _ _ _ _) (fun g hg => by simp; omega), HS.out, Dp.skip HW.out, frPut7 HF5.out (.inr (Nat.le_refl _)) _ _ _ _ _ _ _⟩
     exact rep_lit _ _ 1 ti []
    ·
     by_cases hk4 : tk = 4
     ·have hkk : (now s).kind = 4 := by rw [HQ.out.1]; exact hk4
      have HS : Hid (St (CM.unaryF cu cn) s (.mk 1 2 0 tt [] [] []) (skip s)) := Hd (by
       refine St.at (c' := fun _ => CM.bnd (CM.word 4) fun t => CM.ret (.mk 1 2 0 t.text [] [] [])) (fun _ => by rw [HU0.out, if_neg (by rw [hkk]; decide), if_pos hkk]) ?_
       have h := St.bnd (d := fun t _ => CM.ret (Ex.mk 1 2 0 t.text [] [] [])) (St.kind h0 hkk) (St.ret _ _)
       rw [HQ.out.2.1] at h
       exact h)
      have hn6 : (now s).kind ≠ 6 := by rw [hkk]; decide
      clear hkk
      go_wp2_with fail
      refine (next_any P s _ HR4.out hn6).mono ?_
      rintro e w5 ⟨rfl, h5, hf5⟩
      have HB5 := Hd (HB4.out.keep hf5 (by simp; omega))
      have HT5 := Hd (HT4.out.keep hf5 (by simp; omega))
      have HR5 := Hd h5
      have HF5 := Hd (HF4.out.trans hf5)
      clear h5 hf5 t0 t1 t2
      have t1 := HT5.out.cell 1
      have t2 := HT5.out.cell 2
      simp only [List.getElem?_cons_zero, List.getElem?_cons_succ] at t1 t2
      obtain ⟨y0, y1, y2, y3, y4, y5, y6, k0, k1, k2, k3, k4, k5, k6⟩ := c7_of HB5.out
      have hb5 := HB5.out.lt
      go_wp2_with fail
      refine bodyPost_ret (ret_cell7 rfl _ w.heap.size rfl _ _ _ _ _ _ _ _ (blkPut7 HB5.out rfl _ _ _ _ _ _ _)) rfl ⟨.mk 1 2 0 tt [] [] [], skip s, _, rfl, ?_, HR5.out.keepP (frPut7 (Fr.refl [some w.heap.size] _) (.inl (by simp)) _ _ _ _ _ _ _) (fun g hg => by simp; omega), HS.out, Dp.skip HW.out, frPut7 HF5.out (.inr (Nat.le_refl _)) _ _ _ _ _ _ _⟩
      exact rep_lit _ _ 2 0 tt
     ·
      have HS : Hid (∀ x s2, St (fun _ => CM.column) s x s2 -> St (CM.unaryF cu cn) s x s2) := Hd (fun x s2 h => St.at (c' := fun _ => CM.column) (fun _ => by rw [HU0.out, if_neg (by rw [HQ.out.1]; exact hk3), if_neg (by rw [HQ.out.1]; exact hk4)]) h)
      go_wp2_with fail
      refine (column_any P s _ HR4.out HW.out).mono ?_
      rintro e w5 ⟨x, s2, xs, rfl, hx, h5, hst5, hd5, hf5⟩
      obtain ⟨op, kind, int, t, tb, nm, va, vl, vc, rfl⟩ := e_form hx
      have HB5 := Hd (HB4.out.keep hf5 (by simp; omega))
      have HR5 := Hd h5
      have HF5 := Hd (HF4.out.trans hf5)
      have HX5 := Hd hx
      have HS5 := Hd (HS.out _ _ hst5)
      have HD5 := Hd hd5
      clear hx h5 hf5 hst5 hd5 HS t0 t1 t2
      obtain ⟨y0, y1, y2, y3, y4, y5, y6, k0, k1, k2, k3, k4, k5, k6⟩ := c7_of HB5.out
      have hb5 := HB5.out.lt
      go_wp2_with fail
      refine bodyPost_ret (ret_cell7 rfl _ w.heap.size rfl _ _ _ _ _ _ _ _ (blkPut7 HB5.out rfl _ _ _ _ _ _ _)) rfl ⟨x, s2, _, rfl, ?_, HR5.out.keepP (frPut7 (Fr.refl [some w.heap.size] _) (.inl (by simp)) _ _ _ _ _ _ _) (fun g hg => by simp; omega), HS5.out, HD5.out, frPut7 HF5.out (.inr (Nat.le_refl _)) _ _ _ _ _ _ _⟩
      exact Rep.E.mono (fun g hg => by omega) (Rep.E.keep (frPut7 (Fr.refl [some w.heap.size] _) (.inl (by simp)) _ _ _ _ _ _ _) (fun g hg => by simp; omega) HX5.out)
 ·have hb2 := HB2.out.lt
  go_upto_region 3 with fail
  generalize w1.alloc (.cells #[.int .i64 tk, .string ⟨tt.toArray⟩, .int .i64 ti, .int .i64 tp] 45) = wa at HT HB2 HR2 HF2 ⊢
  obtain ⟨y0, y1, y2, y3, y4, y5, y6, k0, k1, k2, k3, k4, k5, k6⟩ := c7_of HB2.out
  go_wp2_with fail
  refine bodyPost_ret (ret_cell7 rfl _ w.heap.size rfl _ _ _ _ _ _ _ _ (blkPut7 HB2.out rfl _ _ _ _ _ _ _)) rfl ⟨.mk 0 0 0 [] [] [] [], s, z7, rfl, ?_, HR2.out.keepP (frPut7 (Fr.refl [some w.heap.size] _) (.inl (by simp)) _ _ _ _ _ _ _) (fun g hg => by simp; omega), St.dead h0 _, Dp.refl HW.out, frPut7 HF2.out (.inr (Nat.le_refl _)) _ _ _ _ _ _ _⟩
  exact rep_zero _ _
def opW (k : Nat) : B := match k with | 0 => [61] | 1 => [60, 62] | 2 => [60] | 3 => [60, 61] | 4 => [62] | _ => [62, 61]
def opsL : List Value := [.string ⟨#[61]⟩, .string ⟨#[60, 62]⟩, .string ⟨#[60]⟩, .string ⟨#[60, 61]⟩, .string ⟨#[62]⟩, .string ⟨#[62, 61]⟩]
theorem opsL_get {k : Nat} (h : k < 6) : opsL[k]? = some (.string ⟨(opW k).toArray⟩) := by
 rcases (by omega : k = 0 \/ k = 1 \/ k = 2 \/ k = 3 \/ k = 4 \/ k = 5) with rfl | rfl | rfl | rfl | rfl | rfl <;> rfl
theorem opW_comp {k : Nat} (h : k < 6) : opComp (opW k) = some (8 + (k : Int)) := by
 rcases (by omega : k = 0 \/ k = 1 \/ k = 2 \/ k = 3 \/ k = 4 \/ k = 5) with rfl | rfl | rfl | rfl | rfl | rfl <;> decide
theorem opComp_none {w : B} (h : ∀ k, k < 6 -> w ≠ opW k) : opComp w = none := by
 unfold opComp
 rw [if_neg (show w ≠ [61] from h 0 (by decide)), if_neg (show w ≠ [60, 62] from h 1 (by decide)), if_neg (show w ≠ [60] from h 2 (by decide)), if_neg (show w ≠ [60, 61] from h 3 (by decide)), if_neg (show w ≠ [62] from h 4 (by decide)), if_neg (show w ≠ [62, 61] from h 5 (by decide))]
theorem opW_ne (k : Nat) : opW k ≠ [] := by unfold opW; split <;> decide
theorem St.skipc {α : Type} {c : Int -> CM.P α} {s s2 : PS} {a : α} (h0 : s.e = 0) (h : St c (skip s) a s2) : St (fun d l => c d l.tail) s a s2 := ⟨fun e => absurd h0 e, fun _ => h.2 h0⟩
def compR (u : CM.P Ex) (x : Ex) : CM.P Ex := fun l => match opComp (CM.sign l) with
 |none => .ok (x, l)
 |some op => CM.bnd (CM.sumF u) (fun y => CM.ret (two op x y)) l.tail
theorem comp_R (u : CM.P Ex) : CM.compF u = CM.bnd (CM.sumF u) (compR u) := rfl
theorem St.comp_hit {cu : Int -> CM.P Ex} {s s1 s2 : PS} {x y : Ex} {k : Nat} (hk : k < 6) (h : St (fun d => CM.sumF (cu d)) s x s1) (ht : taken (opW k) s1 = true) (h2 : St (fun d => CM.sumF (cu d)) (skip s1) y s2) : St (fun d => CM.compF (cu d)) s (two (8 + (k : Int)) x y) s2 := by
 obtain ⟨e0, hi⟩ := taken_pos ht
 have h3 : St (fun d => compR (cu d) x) s1 (two (8 + (k : Int)) x y) s2 := St.at (c' := fun d l => CM.bnd (CM.sumF (cu d)) (fun y => CM.ret (two (8 + (k : Int)) x y)) l.tail) (fun _ => by unfold compR; rw [sign_is hi, opW_comp hk]) (St.skipc e0 (St.map (two (8 + (k : Int)) x) h2))
 exact St.bnd (d := fun x d => compR (cu d) x) h h3
theorem St.comp_none {cu : Int -> CM.P Ex} {s s1 : PS} {x : Ex} (h : St (fun d => CM.sumF (cu d)) s x s1) (hn : ∀ j, j < 6 -> taken (opW j) s1 = false) : St (fun d => CM.compF (cu d)) s x s1 := by
 have h3 : St (fun d => compR (cu d) x) s1 x s1 := St.at (c' := fun _ => CM.ret x) (fun e0 => by unfold compR; rw [opComp_none (fun k hk => sign_not (opW_ne k) (taken_not (hn k hk) e0))]; rfl) (St.ret _ _)
 exact St.bnd (d := fun x d => compR (cu d) x) h h3
set_option maxRecDepth 1000000 in
set_option maxHeartbeats 8000000 in
theorem not_any (n : Nat) (cu cn : Int -> CM.P Ex) (hs : RdE 165 (fun d => CM.sumF (cu d)) (n + 1)) (hc : RdE 150 cn n) : RdE 150 (CM.notF cu cn) (n + 1) := by
  intro P s w h hw hn
  have hPl := h.lt
  have HR2 := Hd (h.alloc (.cells z7.toArray 82))
  have HW := Hd hw
  have HSUM := Hd hs
  have HN := Hd hc
  have HB2 := Hd (Blk.new w 82 z7)
  have HF2 := Hd ((Fr.refl [some P] w).alloc (.cells z7.toArray 82))
  obtain ⟨g, off, cap, N, nn, ha⟩ := h.at
  have c4 := ha.c4
  clear ha h hw hs hc
  go_enter Tryz.func150, Tryz.ntmps150
  by_cases h0 : s.e = 0
  · rw [h0] at c4
    go_wp2_with fail
    clear c4
    refine (is_any P [110, 111, 116] s _ HR2.out).mono ?_
    rintro e wb ⟨rfl, hf⟩
    have HB3 := Hd (HB2.out.keep hf (by simp))
    have HR3 := Hd (HR2.out.keepP hf (by simp))
    have HF3 := Hd (HF2.out.trans (hf.mono (by simp)))
    clear hf
    cases hi : CM.is [110, 111, 116] s.l with
    | true =>
      have HI2 : Hid (CM.notF cu cn s.deep s.l = CM.nests [110, 111, 116] (fun d => CM.bnd (cn d) fun x => CM.ret (un 4 x)) s.deep s.l) := Hd (by unfold CM.notF; rw [if_pos hi])
      have HI := Hd hi
      have hbl := HB3.out.lt
      have hrl := HR3.out.lt
      clear hi
      go_wp2_with fail
      refine (down_any P s _ HR3.out HW.out h0).mono ?_
      rintro e w4 ⟨rfl, h4, hf4⟩
      have HB4 := Hd (HB3.out.keep hf4 (by simp; omega))
      have HR4 := Hd h4
      have HF4 := Hd (HF3.out.trans hf4)
      have hl4 := HB4.out.lt
      have hr4 := h4.lt
      clear h4 hf4
      by_cases h64 : s.deep = 64
      · have hdd : decide (s.deep ≠ 64) = false := by simp [h64]
        rw [hdd]
        clear hdd
        obtain ⟨y0, y1, y2, y3, y4, y5, y6, k0, k1, k2, k3, k4, k5, k6⟩ := c7_of HB4.out
        have HS : Hid (St (CM.notF cu cn) s (.mk 0 0 0 [] [] [] []) (downed s)) := Hd (St.at (fun _ => HI2.out) (St.deep_fail h0 h64 _))
        go_wp2_with fail
        refine bodyPost_ret (ret_cell7 rfl _ w.heap.size rfl _ _ _ _ _ _ _ _ (blkPut7 HB4.out rfl _ _ _ _ _ _ _)) rfl ⟨.mk 0 0 0 [] [] [] [], downed s, z7, rfl, ?_, HR4.out.keepP (frPut7 (Fr.refl [some w.heap.size] _) (.inl (by simp)) _ _ _ _ _ _ _) (fun g hg => by simp; omega), HS.out, downed_dp HW.out h0, frPut7 HF4.out (.inr (Nat.le_refl _)) _ _ _ _ _ _ _⟩
        exact rep_zero _ _
      · have hdd : decide (s.deep ≠ 64) = true := by simp [h64]
        rw [hdd]
        clear hdd
        have HWd := Hd (downed_dp HW.out h0)
        have HWs := Hd (Dp.skip HWd.out.wd)
        have hls : (skip (downed s)).l.length <= n := by have h1 := RR.pos HR4.out; have h2 : (skip (downed s)).l.length = (downed s).l.length - 1 := (by simp [skip]); have h3 := HWd.out.len; omega
        have hdl0 : (downed s).l = s.l := by unfold downed; rw [if_neg h64]
        have hnd : (now (downed s)).kind ≠ 6 := by unfold now; rw [hdl0]; exact is_kind HI.out
        clear hdl0
        go_wp2_with fail
        refine (next_any P (downed s) _ HR4.out hnd).mono ?_
        rintro e w5 ⟨rfl, h5, hf5⟩
        have HB5 := Hd (HB4.out.keep hf5 (by simp; omega))
        have HR5 := Hd h5
        have HF5 := Hd (HF4.out.trans hf5)
        have hl5 := HB5.out.lt
        have hr5 := h5.lt
        clear h5 hf5 hnd
        go_wp2_with fail
        refine (HN.out P (skip (downed s)) _ HR5.out HWs.out.wd hls).mono ?_
        rintro e w6 ⟨x, s2, xs, rfl, hx, h6, hst6, hd6, hf6⟩
        obtain ⟨op, kind, int, t, tb, nm, va, vl, vc, rfl⟩ := e_form hx
        have HX6 := Hd hx
        have HB6 := Hd (HB5.out.keep hf6 (by simp; omega))
        have HR6 := Hd h6
        have HF6 := Hd (HF5.out.trans hf6)
        have HST6 := Hd hst6
        have HD6 := Hd hd6
        have hl6 := HB6.out.lt
        have hr6 := h6.lt
        have hs6 := hf6.size
        clear hx h6 hf6 hst6 hd6 hls
        obtain ⟨g, off, cap, N, nn, ha⟩ := HR6.out.at
        have c2 := ha.c2
        have f2 := ha.f0 2
        have hge := HD6.out.ge
        have h65 := HD6.out.wd.d65
        have hd0 := HWs.out.wd.d0
        have hsd : (skip (downed s)).deep = s.deep + 1 := by unfold downed; rw [if_neg h64]; rfl
        have hd1 := HW.out.d0
        have hdl : 1 <= s2.deep := by omega
        clear ha hge hd0 hsd hd1
        have hfz := ((Fr.refl [some P] w6).setCell (p := ⟨P, 2, none⟩) (.inl (by simp)) (.int .i64 (s2.deep - 1))).alloc (.cells #[.int .i64 op, .int .i64 kind, .int .i64 int, .string ⟨t.toArray⟩, .string ⟨tb.toArray⟩, .string ⟨nm.toArray⟩, .slice va vl vc] 82)
        have HRZ := Hd ((HR6.out.setD (s2.deep - 1)).alloc (.cells #[.int .i64 op, .int .i64 kind, .int .i64 int, .string ⟨t.toArray⟩, .string ⟨tb.toArray⟩, .string ⟨nm.toArray⟩, .slice va vl vc] 82))
        have HBZ := Hd (HB6.out.keep hfz (by simp; omega))
        have hsz : (w6.setCell ⟨P, 2, none⟩ (.int .i64 (s2.deep - 1))).heap.size = w6.heap.size := by simp [World.setCell]
        have hnb := Blk.new (w6.setCell ⟨P, 2, none⟩ (.int .i64 (s2.deep - 1))) 82 [.int .i64 op, .int .i64 kind, .int .i64 int, .string ⟨t.toArray⟩, .string ⟨tb.toArray⟩, .string ⟨nm.toArray⟩, .slice va vl vc]
        rw [hsz] at hnb
        have HCZ := Hd hnb
        have HFZ := Hd (HF6.out.trans hfz)
        have HXZ := Hd (rep_mono (b := w.heap.size + 1) (by omega) hfz (fun g hg _ => by simp; omega) HX6.out)
        clear hfz hsz hnb
        have hne1 : ¬ w6.heap.size = P := by omega
        have hne2 : ¬ P = w6.heap.size := by omega
        have hne3 : ¬ w6.heap.size = w.heap.size := by omega
        have hne4 : ¬ w.heap.size = w6.heap.size := by omega
        go_upto_region 7 with fail
        generalize (w6.setCell ⟨P, 2, none⟩ (.int .i64 (s2.deep - 1))).alloc (.cells #[.int .i64 op, .int .i64 kind, .int .i64 int, .string ⟨t.toArray⟩, .string ⟨tb.toArray⟩, .string ⟨nm.toArray⟩, .slice va vl vc] 82) = wz at HRZ HBZ HCZ HFZ HXZ ⊢
        obtain ⟨c0, c1, c2, c3, c4, c5, c6, f0, f1, f2, f3, f4, f5, f6⟩ := c7_of HCZ.out
        obtain ⟨y0, y1, y2, y3, y4, y5, y6, k0, k1, k2, k3, k4, k5, k6⟩ := c7_of HBZ.out
        have hbz := HBZ.out.lt
        have hrz := HRZ.out.lt
        have hcz := HCZ.out.lt
        have hnz : ¬ w.heap.size = wz.heap.size := by omega
        have hnz2 : w.heap.size < wz.heap.size + 1 := by omega
        go_wp2_with fail
        have HS : Hid (St (CM.notF cu cn) s (un 4 x) (undeep s2)) := Hd (St.at (fun _ => HI2.out) (St.deep_ok h0 h64 HI.out (St.map (un 4) HST6.out)))
        obtain ⟨u1, u2⟩ := un_end 4 HBZ.out HXZ.out
        exact bodyPost_ret (ret_cell7 rfl _ w.heap.size rfl _ _ _ _ _ _ _ _ u1) rfl ⟨un 4 x, undeep s2, _, rfl, u2, (HRZ.out.keepP (frPut7 (Fr.refl [some w.heap.size] _) (.inl (by simp)) _ _ _ _ _ _ _) (fun g hg => by simp; omega)).alloc _, HS.out, undeep_dp HW.out h0 h64 HD6.out, (frPut7 HFZ.out (.inr (Nat.le_refl _)) _ _ _ _ _ _ _).alloc _⟩
    | false =>
      have HCF : Hid (s.e = 0 -> CM.notF cu cn s.deep s.l = CM.compF (cu s.deep) s.l) := Hd (fun _ => by unfold CM.notF; rw [if_neg (by rw [show ([110, 111, 116] : B) = [110, 111, 116] from rfl, hi]; decide)])
      clear hi
      go_wp2_with fail
      refine (HSUM.out P s _ HR3.out HW.out hn).mono ?_
      rintro e w2 ⟨x, s1, xs, rfl, hx, h2, hst, hd, hf⟩
      obtain ⟨op, kind, int, t, tb, nm, va, vl, vc, rfl⟩ := e_form hx
      have hbl := HB3.out.lt
      have HX2 := Hd (rep_mono (b := w.heap.size + 1) (by omega) (((Fr.refl [] w2).alloc (.cells #[.int .i64 op, .int .i64 kind, .int .i64 int, .string ⟨t.toArray⟩, .string ⟨tb.toArray⟩, .string ⟨nm.toArray⟩, .slice va vl vc] 82)).alloc (.cells #[.string ⟨#[61]⟩, .string ⟨#[60, 62]⟩, .string ⟨#[60]⟩, .string ⟨#[60, 61]⟩, .string ⟨#[62]⟩, .string ⟨#[62, 61]⟩] 9)) (fun g _ _ => by simp) hx)
      have hb2 := HB3.out.keep hf (by simp; omega)
      have HBw := Hd ((Blk.alloc hb2 (.cells #[.int .i64 op, .int .i64 kind, .int .i64 int, .string ⟨t.toArray⟩, .string ⟨tb.toArray⟩, .string ⟨nm.toArray⟩, .slice va vl vc] 82)).alloc (.cells #[.string ⟨#[61]⟩, .string ⟨#[60, 62]⟩, .string ⟨#[60]⟩, .string ⟨#[60, 61]⟩, .string ⟨#[62]⟩, .string ⟨#[62, 61]⟩] 9))
      have HCw := Hd ((Blk.new w2 82 [.int .i64 op, .int .i64 kind, .int .i64 int, .string ⟨t.toArray⟩, .string ⟨tb.toArray⟩, .string ⟨nm.toArray⟩, .slice va vl vc]).alloc (.cells #[.string ⟨#[61]⟩, .string ⟨#[60, 62]⟩, .string ⟨#[60]⟩, .string ⟨#[60, 61]⟩, .string ⟨#[62]⟩, .string ⟨#[62, 61]⟩] 9))
      have hso := Blk.new (w2.alloc (.cells #[.int .i64 op, .int .i64 kind, .int .i64 int, .string ⟨t.toArray⟩, .string ⟨tb.toArray⟩, .string ⟨nm.toArray⟩, .slice va vl vc] 82)) 9 opsL
      rw [World.size_alloc] at hso
      have HOw := Hd hso
      have HRw := Hd ((h2.alloc (.cells #[.int .i64 op, .int .i64 kind, .int .i64 int, .string ⟨t.toArray⟩, .string ⟨tb.toArray⟩, .string ⟨nm.toArray⟩, .slice va vl vc] 82)).alloc (.cells #[.string ⟨#[61]⟩, .string ⟨#[60, 62]⟩, .string ⟨#[60]⟩, .string ⟨#[60, 61]⟩, .string ⟨#[62]⟩, .string ⟨#[62, 61]⟩] 9))
      have HFw := Hd (((HF3.out.trans hf).alloc (.cells #[.int .i64 op, .int .i64 kind, .int .i64 int, .string ⟨t.toArray⟩, .string ⟨tb.toArray⟩, .string ⟨nm.toArray⟩, .slice va vl vc] 82)).alloc (.cells #[.string ⟨#[61]⟩, .string ⟨#[60, 62]⟩, .string ⟨#[60]⟩, .string ⟨#[60, 61]⟩, .string ⟨#[62]⟩, .string ⟨#[62, 61]⟩] 9))
      have HST := Hd hst
      have HD := Hd hd
      have hb2l := hb2.lt
      have hp2l := h2.lt
      clear hx h2 hst hd hf hb2 hso
      go_wp2_with fail
      go_loopw [6] (fun i wr => ∃ k : Nat, i = .int .i64 k /\ k <= 6 /\ Hid (∀ j, j < k -> taken (opW j) s1 = false) /\ Hid (RR wr P s1) /\ Hid (Blk wr w2.heap.size 82 [.int .i64 op, .int .i64 kind, .int .i64 int, .string ⟨t.toArray⟩, .string ⟨tb.toArray⟩, .string ⟨nm.toArray⟩, .slice va vl vc]) /\ Hid (Rep.E 82 (fun b => w.heap.size + 1 <= b) wr x [.int .i64 op, .int .i64 kind, .int .i64 int, .string ⟨t.toArray⟩, .string ⟨tb.toArray⟩, .string ⟨nm.toArray⟩, .slice va vl vc]) /\ Hid (Blk wr w.heap.size 82 z7) /\ Hid (Blk wr (w2.heap.size + 1) 9 opsL) /\ Hid (Fr [some P] w wr)) (fun i _ => 6 - (intOf i).toNat)
      case atStart => exact ⟨0, rfl, by decide, Hd (fun j hj => absurd hj (by omega)), HRw, HCw, HX2, HBw, HOw, HFw⟩
      case round =>
        clear HX2 HBw HCw HOw HRw HFw
        obtain ⟨k, rfl, hk6, HNO, HRr, HCr, HXr, HBr, HOr, HFr⟩ := hrel
        have hl1 := HCr.out.lt
        have hl2 := HBr.out.lt
        have hl3 := HRr.out.lt
        have hl4 := HOr.out.lt
        by_cases hk : k < 6
        · have hk' : (k : Int) < 6 := by omega
          have hoc := HOr.out.cell k
          rw [opsL_get hk] at hoc
          go_wp2_with fail
          refine (take_any P (opW k) s1 _ HRr.out).mono ?_
          rintro e w3 ⟨rfl, h3, hf3⟩
          have HC3 := Hd (HCr.out.keep hf3 (by simp; omega))
          have HB3 := Hd (HBr.out.keep hf3 (by simp; omega))
          have HO3 := Hd (HOr.out.keep hf3 (by simp; omega))
          have HF3 := Hd (HFr.out.trans hf3)
          have HX3 := Hd (Rep.E.keep hf3 (fun g hg => by simp; omega) HXr.out)
          have hs3 := hf3.size
          have H3 := Hd h3
          clear h3 hf3 hoc
          cases ht : taken (opW k) s1 with
          | true =>
            have HT := Hd ht
            have H4 : Hid (RR w3 P (skip s1)) := Hd (by have := H3.out; rw [took, ht] at this; exact this)
            have hlt := skip_lt ht
            have HWk := Hd (Dp.skip HD.out.wd)
            have HCL := Hd (fun w => fun h => HSUM.out P (skip s1) w h HWk.out.wd (by have := HD.out.len; omega))
            have H4D : Hid (RR w3.drew P (skip s1)) := Hd H4.out.drew
            have HC3D : Hid (Blk w3.drew w2.heap.size 82 [.int .i64 op, .int .i64 kind, .int .i64 int, .string ⟨t.toArray⟩, .string ⟨tb.toArray⟩, .string ⟨nm.toArray⟩, .slice va vl vc]) := HC3.out
            have HB3D : Hid (Blk w3.drew w.heap.size 82 z7) := HB3.out
            have HF3D : Hid (Fr [some P] w w3.drew) := Hd HF3.out.drew
            have HX3D : Hid (Rep.E 82 (fun b => w.heap.size + 1 <= b) w3.drew x [.int .i64 op, .int .i64 kind, .int .i64 int, .string ⟨t.toArray⟩, .string ⟨tb.toArray⟩, .string ⟨nm.toArray⟩, .slice va vl vc]) := Hd (Rep.E.keep (Fr.drew (Fr.refl [] w3)) (by simp) HX3.out)
            obtain ⟨c0, c1, c2, c3, c4, c5, c6, f0, f1, f2, f3, f4, f5, f6⟩ := c7_of HC3.out
            have hcl := HC3.out.lt
            have HLS : Hid (P < w.heap.size /\ w.heap.size < w2.heap.size /\ w2.heap.size < w3.heap.size) := Hd ⟨by omega, by omega, by omega⟩
            have hwr : IntKind.i64.wrap (8 + (k : Int)) = 8 + (k : Int) := IntWalk.i64_in _ ⟨by omega, by omega⟩
            clear ht hk6
            go_wp2_with fail
            go_region_with (first
              | (go_at_call 165
                 refine (HCL.out _ ?_).mono ?_
                 exact H4D.out
                 rintro e w4 ⟨y, s2, ys, rfl, hy, h5, hst5, hd5, hf5⟩
                 obtain ⟨op3, kind3, int3, t3, tb3, nm3, va3, vl3, vc3, rfl⟩ := e_form hy
                 have HY3 := Hd hy
                 have HR5 := Hd h5
                 have HST5 := Hd hst5
                 have HD5 := Hd hd5
                 have HF5 := Hd (HF3D.out.trans hf5)
                 have HC5 := Hd (HC3D.out.keep hf5 (by simp; have := HLS.out; omega))
                 have HB5 := Hd (HB3D.out.keep hf5 (by simp; have := HLS.out; omega))
                 have HX5 := Hd (Rep.E.keep hf5 (fun g hg => by have := HLS.out; simp; omega) HX3D.out)
                 have hs5 := hf5.size
                 obtain ⟨d0, d1, d2, d3, d4, d5, d6, g0, g1, g2, g3, g4, g5, g6⟩ := c7_of HC5.out
                 clear hy h5 hst5 hd5 hf5)
              | (go_at_call 137
                 refine (two_any (8 + (k : Int)) x y [.int .i64 op, .int .i64 kind, .int .i64 int, .string ⟨t.toArray⟩, .string ⟨tb.toArray⟩, .string ⟨nm.toArray⟩, .slice va vl vc] [.int .i64 op3, .int .i64 kind3, .int .i64 int3, .string ⟨t3.toArray⟩, .string ⟨tb3.toArray⟩, .string ⟨nm3.toArray⟩, .slice va3 vl3 vc3] _ (fun b => w.heap.size + 1 <= b) ?_ ?_).mono ?_
                 exact HX5.out
                 exact Rep.E.mono (fun g hg => by have := HLS.out; simp at hg; omega) HY3.out
                 rintro e w6 ⟨zs, rfl, hz, hf6⟩
                 obtain ⟨op4, kind4, int4, t4, tb4, nm4, va4, vl4, vc4, rfl⟩ := e_form hz
                 have HZ6 := Hd (Rep.E.mono (A' := fun b => w.heap.size + 1 <= b) (fun g hg => by have := HLS.out; simp at hg hs5; omega) hz)
                 have HR6 := Hd (HR5.out.keepP hf6 (by simp))
                 have HB6 := Hd (HB5.out.keep hf6 (by simp))
                 have HF6 := Hd (HF5.out.trans (hf6.mono (by simp)))
                 obtain ⟨y0, y1, y2, y3, y4, y5, y6, k0, k1, k2, k3, k4, k5, k6⟩ := c7_of HB6.out
                 clear hz hf6))
            all_goals
              have HS : Hid (St (CM.notF cu cn) s (two (8 + (k : Int)) x y) s2) := Hd (St.at (c' := fun d => CM.compF (cu d)) HCF.out (St.comp_hit hk HST.out HT.out HST5.out))
              have hb6 := HB6.out.lt
              go_wp2_with fail
              refine bodyPost_ret (ret_cell7 rfl _ w.heap.size rfl _ _ _ _ _ _ _ _ (blkPut7 HB6.out rfl _ _ _ _ _ _ _)) rfl ⟨two (8 + (k : Int)) x y, s2, _, rfl, ?_, HR6.out.keepP (frPut7 (Fr.refl [some w.heap.size] _) (.inl (by simp)) _ _ _ _ _ _ _) (fun g hg => by simp; omega), HS.out, HD.out.trans (HWk.out.trans HD5.out), frPut7 HF6.out (.inr (Nat.le_refl _)) _ _ _ _ _ _ _⟩
              exact Rep.E.mono (fun g hg => by omega) (Rep.E.keep (frPut7 (Fr.refl [some w.heap.size] _) (.inl (by simp)) _ _ _ _ _ _ _) (fun g hg => by simp; omega) HZ6.out)
          | false =>
            have HT := Hd ht
            have H4 : Hid (RR w3 P s1) := Hd (by have := H3.out; rw [took, ht] at this; exact this)
            clear ht
            go_wp2_with fail
            go_roundw
            case rel => exact ⟨k + 1, by go_num, by omega, Hd (fun j hj => by by_cases h : j < k; exact HNO.out j h; obtain rfl : j = k := (by omega); exact HT.out), H4, HC3, HX3, HB3, HO3, HF3⟩
            case measure => simp only [intOf]; omega
        · obtain rfl : k = 6 := by omega
          have HS : Hid (St (CM.notF cu cn) s x s1) := Hd (St.at (c' := fun d => CM.compF (cu d)) HCF.out (St.comp_none HST.out HNO.out))
          obtain ⟨c0, c1, c2, c3, c4, c5, c6, f0, f1, f2, f3, f4, f5, f6⟩ := c7_of HCr.out
          obtain ⟨y0, y1, y2, y3, y4, y5, y6, k0, k1, k2, k3, k4, k5, k6⟩ := c7_of HBr.out
          go_wp2_with fail
          refine bodyPost_ret (ret_cell7 rfl _ w.heap.size rfl _ _ _ _ _ _ _ _ (blkPut7 HBr.out rfl _ _ _ _ _ _ _)) rfl ⟨x, s1, _, rfl, ?_, HRr.out.keepP (frPut7 (Fr.refl [some w.heap.size] _) (.inl (by simp)) _ _ _ _ _ _ _) (fun g hg => by simp; omega), HS.out, HD.out, frPut7 HFr.out (.inr (Nat.le_refl _)) _ _ _ _ _ _ _⟩
          exact Rep.E.mono (fun g hg => by omega) (Rep.E.keep (frPut7 (Fr.refl [some w.heap.size] _) (.inl (by simp)) _ _ _ _ _ _ _) (fun g hg => by simp; omega) HXr.out)
  · have HCF : Hid (s.e = 0 -> CM.notF cu cn s.deep s.l = CM.compF (cu s.deep) s.l) := Hd (fun e => absurd e h0)
    go_wp2_with fail
    refine (HSUM.out P s _ HR2.out HW.out hn).mono ?_
    rintro e w2 ⟨x, s1, xs, rfl, hx, h2, hst, hd, hf⟩
    obtain ⟨op, kind, int, t, tb, nm, va, vl, vc, rfl⟩ := e_form hx
    have hbl := HB2.out.lt
    have HX2 := Hd (rep_mono (b := w.heap.size + 1) (by omega) (((Fr.refl [] w2).alloc (.cells #[.int .i64 op, .int .i64 kind, .int .i64 int, .string ⟨t.toArray⟩, .string ⟨tb.toArray⟩, .string ⟨nm.toArray⟩, .slice va vl vc] 82)).alloc (.cells #[.string ⟨#[61]⟩, .string ⟨#[60, 62]⟩, .string ⟨#[60]⟩, .string ⟨#[60, 61]⟩, .string ⟨#[62]⟩, .string ⟨#[62, 61]⟩] 9)) (fun g _ _ => by simp) hx)
    have hb2 := HB2.out.keep hf (by simp; omega)
    have HBw := Hd ((Blk.alloc hb2 (.cells #[.int .i64 op, .int .i64 kind, .int .i64 int, .string ⟨t.toArray⟩, .string ⟨tb.toArray⟩, .string ⟨nm.toArray⟩, .slice va vl vc] 82)).alloc (.cells #[.string ⟨#[61]⟩, .string ⟨#[60, 62]⟩, .string ⟨#[60]⟩, .string ⟨#[60, 61]⟩, .string ⟨#[62]⟩, .string ⟨#[62, 61]⟩] 9))
    have HCw := Hd ((Blk.new w2 82 [.int .i64 op, .int .i64 kind, .int .i64 int, .string ⟨t.toArray⟩, .string ⟨tb.toArray⟩, .string ⟨nm.toArray⟩, .slice va vl vc]).alloc (.cells #[.string ⟨#[61]⟩, .string ⟨#[60, 62]⟩, .string ⟨#[60]⟩, .string ⟨#[60, 61]⟩, .string ⟨#[62]⟩, .string ⟨#[62, 61]⟩] 9))
    have hso := Blk.new (w2.alloc (.cells #[.int .i64 op, .int .i64 kind, .int .i64 int, .string ⟨t.toArray⟩, .string ⟨tb.toArray⟩, .string ⟨nm.toArray⟩, .slice va vl vc] 82)) 9 opsL
    rw [World.size_alloc] at hso
    have HOw := Hd hso
    have HRw := Hd ((h2.alloc (.cells #[.int .i64 op, .int .i64 kind, .int .i64 int, .string ⟨t.toArray⟩, .string ⟨tb.toArray⟩, .string ⟨nm.toArray⟩, .slice va vl vc] 82)).alloc (.cells #[.string ⟨#[61]⟩, .string ⟨#[60, 62]⟩, .string ⟨#[60]⟩, .string ⟨#[60, 61]⟩, .string ⟨#[62]⟩, .string ⟨#[62, 61]⟩] 9))
    have HFw := Hd (((HF2.out.trans hf).alloc (.cells #[.int .i64 op, .int .i64 kind, .int .i64 int, .string ⟨t.toArray⟩, .string ⟨tb.toArray⟩, .string ⟨nm.toArray⟩, .slice va vl vc] 82)).alloc (.cells #[.string ⟨#[61]⟩, .string ⟨#[60, 62]⟩, .string ⟨#[60]⟩, .string ⟨#[60, 61]⟩, .string ⟨#[62]⟩, .string ⟨#[62, 61]⟩] 9))
    have HST := Hd hst
    have HD := Hd hd
    have hb2l := hb2.lt
    have hp2l := h2.lt
    clear hx h2 hst hd hf hb2 hso
    go_wp2_with fail
    go_loopw [6] (fun i wr => ∃ k : Nat, i = .int .i64 k /\ k <= 6 /\ Hid (∀ j, j < k -> taken (opW j) s1 = false) /\ Hid (RR wr P s1) /\ Hid (Blk wr w2.heap.size 82 [.int .i64 op, .int .i64 kind, .int .i64 int, .string ⟨t.toArray⟩, .string ⟨tb.toArray⟩, .string ⟨nm.toArray⟩, .slice va vl vc]) /\ Hid (Rep.E 82 (fun b => w.heap.size + 1 <= b) wr x [.int .i64 op, .int .i64 kind, .int .i64 int, .string ⟨t.toArray⟩, .string ⟨tb.toArray⟩, .string ⟨nm.toArray⟩, .slice va vl vc]) /\ Hid (Blk wr w.heap.size 82 z7) /\ Hid (Blk wr (w2.heap.size + 1) 9 opsL) /\ Hid (Fr [some P] w wr)) (fun i _ => 6 - (intOf i).toNat)
    case atStart => exact ⟨0, rfl, by decide, Hd (fun j hj => absurd hj (by omega)), HRw, HCw, HX2, HBw, HOw, HFw⟩
    case round =>
      clear HX2 HBw HCw HOw HRw HFw
      obtain ⟨k, rfl, hk6, HNO, HRr, HCr, HXr, HBr, HOr, HFr⟩ := hrel
      have hl1 := HCr.out.lt
      have hl2 := HBr.out.lt
      have hl3 := HRr.out.lt
      have hl4 := HOr.out.lt
      by_cases hk : k < 6
      · have hk' : (k : Int) < 6 := by omega
        have hoc := HOr.out.cell k
        rw [opsL_get hk] at hoc
        go_wp2_with fail
        refine (take_any P (opW k) s1 _ HRr.out).mono ?_
        rintro e w3 ⟨rfl, h3, hf3⟩
        have HC3 := Hd (HCr.out.keep hf3 (by simp; omega))
        have HB3 := Hd (HBr.out.keep hf3 (by simp; omega))
        have HO3 := Hd (HOr.out.keep hf3 (by simp; omega))
        have HF3 := Hd (HFr.out.trans hf3)
        have HX3 := Hd (Rep.E.keep hf3 (fun g hg => by simp; omega) HXr.out)
        have hs3 := hf3.size
        have H3 := Hd h3
        clear h3 hf3 hoc
        cases ht : taken (opW k) s1 with
        | true =>
          have HT := Hd ht
          have H4 : Hid (RR w3 P (skip s1)) := Hd (by have := H3.out; rw [took, ht] at this; exact this)
          have hlt := skip_lt ht
          have HWk := Hd (Dp.skip HD.out.wd)
          have HCL := Hd (fun w => fun h => HSUM.out P (skip s1) w h HWk.out.wd (by have := HD.out.len; omega))
          have H4D : Hid (RR w3.drew P (skip s1)) := Hd H4.out.drew
          have HC3D : Hid (Blk w3.drew w2.heap.size 82 [.int .i64 op, .int .i64 kind, .int .i64 int, .string ⟨t.toArray⟩, .string ⟨tb.toArray⟩, .string ⟨nm.toArray⟩, .slice va vl vc]) := HC3.out
          have HB3D : Hid (Blk w3.drew w.heap.size 82 z7) := HB3.out
          have HF3D : Hid (Fr [some P] w w3.drew) := Hd HF3.out.drew
          have HX3D : Hid (Rep.E 82 (fun b => w.heap.size + 1 <= b) w3.drew x [.int .i64 op, .int .i64 kind, .int .i64 int, .string ⟨t.toArray⟩, .string ⟨tb.toArray⟩, .string ⟨nm.toArray⟩, .slice va vl vc]) := Hd (Rep.E.keep (Fr.drew (Fr.refl [] w3)) (by simp) HX3.out)
          obtain ⟨c0, c1, c2, c3, c4, c5, c6, f0, f1, f2, f3, f4, f5, f6⟩ := c7_of HC3.out
          have hcl := HC3.out.lt
          have HLS : Hid (P < w.heap.size /\ w.heap.size < w2.heap.size /\ w2.heap.size < w3.heap.size) := Hd ⟨by omega, by omega, by omega⟩
          have hwr : IntKind.i64.wrap (8 + (k : Int)) = 8 + (k : Int) := IntWalk.i64_in _ ⟨by omega, by omega⟩
          clear ht hk6
          go_wp2_with fail
          go_region_with (first
            | (go_at_call 165
               refine (HCL.out _ ?_).mono ?_
               exact H4D.out
               rintro e w4 ⟨y, s2, ys, rfl, hy, h5, hst5, hd5, hf5⟩
               obtain ⟨op3, kind3, int3, t3, tb3, nm3, va3, vl3, vc3, rfl⟩ := e_form hy
               have HY3 := Hd hy
               have HR5 := Hd h5
               have HST5 := Hd hst5
               have HD5 := Hd hd5
               have HF5 := Hd (HF3D.out.trans hf5)
               have HC5 := Hd (HC3D.out.keep hf5 (by simp; have := HLS.out; omega))
               have HB5 := Hd (HB3D.out.keep hf5 (by simp; have := HLS.out; omega))
               have HX5 := Hd (Rep.E.keep hf5 (fun g hg => by have := HLS.out; simp; omega) HX3D.out)
               have hs5 := hf5.size
               obtain ⟨d0, d1, d2, d3, d4, d5, d6, g0, g1, g2, g3, g4, g5, g6⟩ := c7_of HC5.out
               clear hy h5 hst5 hd5 hf5)
            | (go_at_call 137
               refine (two_any (8 + (k : Int)) x y [.int .i64 op, .int .i64 kind, .int .i64 int, .string ⟨t.toArray⟩, .string ⟨tb.toArray⟩, .string ⟨nm.toArray⟩, .slice va vl vc] [.int .i64 op3, .int .i64 kind3, .int .i64 int3, .string ⟨t3.toArray⟩, .string ⟨tb3.toArray⟩, .string ⟨nm3.toArray⟩, .slice va3 vl3 vc3] _ (fun b => w.heap.size + 1 <= b) ?_ ?_).mono ?_
               exact HX5.out
               exact Rep.E.mono (fun g hg => by have := HLS.out; simp at hg; omega) HY3.out
               rintro e w6 ⟨zs, rfl, hz, hf6⟩
               obtain ⟨op4, kind4, int4, t4, tb4, nm4, va4, vl4, vc4, rfl⟩ := e_form hz
               have HZ6 := Hd (Rep.E.mono (A' := fun b => w.heap.size + 1 <= b) (fun g hg => by have := HLS.out; simp at hg hs5; omega) hz)
               have HR6 := Hd (HR5.out.keepP hf6 (by simp))
               have HB6 := Hd (HB5.out.keep hf6 (by simp))
               have HF6 := Hd (HF5.out.trans (hf6.mono (by simp)))
               obtain ⟨y0, y1, y2, y3, y4, y5, y6, k0, k1, k2, k3, k4, k5, k6⟩ := c7_of HB6.out
               clear hz hf6))
          all_goals
            have HS : Hid (St (CM.notF cu cn) s (two (8 + (k : Int)) x y) s2) := Hd (St.at (c' := fun d => CM.compF (cu d)) HCF.out (St.comp_hit hk HST.out HT.out HST5.out))
            have hb6 := HB6.out.lt
            go_wp2_with fail
            refine bodyPost_ret (ret_cell7 rfl _ w.heap.size rfl _ _ _ _ _ _ _ _ (blkPut7 HB6.out rfl _ _ _ _ _ _ _)) rfl ⟨two (8 + (k : Int)) x y, s2, _, rfl, ?_, HR6.out.keepP (frPut7 (Fr.refl [some w.heap.size] _) (.inl (by simp)) _ _ _ _ _ _ _) (fun g hg => by simp; omega), HS.out, HD.out.trans (HWk.out.trans HD5.out), frPut7 HF6.out (.inr (Nat.le_refl _)) _ _ _ _ _ _ _⟩
            exact Rep.E.mono (fun g hg => by omega) (Rep.E.keep (frPut7 (Fr.refl [some w.heap.size] _) (.inl (by simp)) _ _ _ _ _ _ _) (fun g hg => by simp; omega) HZ6.out)
        | false =>
          have HT := Hd ht
          have H4 : Hid (RR w3 P s1) := Hd (by have := H3.out; rw [took, ht] at this; exact this)
          clear ht
          go_wp2_with fail
          go_roundw
          case rel => exact ⟨k + 1, by go_num, by omega, Hd (fun j hj => by by_cases h : j < k; exact HNO.out j h; obtain rfl : j = k := (by omega); exact HT.out), H4, HC3, HX3, HB3, HO3, HF3⟩
          case measure => simp only [intOf]; omega
      · obtain rfl : k = 6 := by omega
        have HS : Hid (St (CM.notF cu cn) s x s1) := Hd (St.at (c' := fun d => CM.compF (cu d)) HCF.out (St.comp_none HST.out HNO.out))
        obtain ⟨c0, c1, c2, c3, c4, c5, c6, f0, f1, f2, f3, f4, f5, f6⟩ := c7_of HCr.out
        obtain ⟨y0, y1, y2, y3, y4, y5, y6, k0, k1, k2, k3, k4, k5, k6⟩ := c7_of HBr.out
        go_wp2_with fail
        refine bodyPost_ret (ret_cell7 rfl _ w.heap.size rfl _ _ _ _ _ _ _ _ (blkPut7 HBr.out rfl _ _ _ _ _ _ _)) rfl ⟨x, s1, _, rfl, ?_, HRr.out.keepP (frPut7 (Fr.refl [some w.heap.size] _) (.inl (by simp)) _ _ _ _ _ _ _) (fun g hg => by simp; omega), HS.out, HD.out, frPut7 HFr.out (.inr (Nat.le_refl _)) _ _ _ _ _ _ _⟩
        exact Rep.E.mono (fun g hg => by omega) (Rep.E.keep (frPut7 (Fr.refl [some w.heap.size] _) (.inl (by simp)) _ _ _ _ _ _ _) (fun g hg => by simp; omega) HXr.out)
theorem lev_any : ∀ n, RdE 183 (CM.lev n).1 n /\ RdE 150 (CM.lev n).2 n
 |0 => ⟨fun P s w h hw hn => absurd (RR.pos h) (by omega), fun P s w h hw hn => absurd (RR.pos h) (by omega)⟩
 |n + 1 => by
  obtain ⟨h1, h2⟩ := lev_any n
  have hu := unary_any n (CM.lev n).1 (CM.lev n).2 h1 (expr_any n (fun d => CM.rows ((CM.lev n).2 d) opAnd) (fun d => ng_rows ((ng_lev n).2 d) _) (and_any n _ (ng_lev n).2 h2))
  have hg := fun d => (ng_lev (n + 1)).1 d
  exact ⟨hu, not_any n _ _ (sum_any (n + 1) (fun d => CM.rows ((CM.lev (n + 1)).1 d) opTerm) (fun d => ng_rows (hg d) _) (term_any (n + 1) _ hg hu)) h2⟩
theorem exp_any (n : Nat) : RdE 116 (CM.expr n) n := expr_any n (fun d => CM.rows ((CM.lev n).2 d) opAnd) (fun d => ng_rows ((ng_lev n).2 d) _) (and_any n _ (ng_lev n).2 (lev_any n).2)
end Rf
end Go.Proofs.YtmdnhinpaflamaaGreatDoor
