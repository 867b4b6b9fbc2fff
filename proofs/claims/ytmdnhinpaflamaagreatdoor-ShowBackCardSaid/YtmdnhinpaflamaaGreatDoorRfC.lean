/- The document's parser: rows of one rank. -/
import Derived.Test.YtmdnhinpaflamaaGreatDoorRfP
import Derived.Deep.RegionWith
namespace Go.Proofs.YtmdnhinpaflamaaGreatDoor
open Go.RowKit
set_option linter.unusedVariables false
set_option linter.unusedSimpArgs false
namespace Rf
open LexM (Tok)
open PM (B Ex Col It PS zeroTok wordy two un colEx opOr opAnd opSum opTerm opComp)
open Px (frSet ret_cell7 blkPut7 frPut7 c7_of colCells col_rep z7 put7)
def meaR (P : Nat) (w : World) : Nat := match w.cell? ⟨P, 0, none⟩, w.cell? ⟨P, 1, none⟩ with | some (.slice _ N _), some (.int _ n) => N - n.toNat | _, _ => 0
theorem meaR_of {w : World} {P : Nat} {s : PS} (h : RR w P s) : meaR P w = s.l.length := by
 obtain ⟨g, off, cap, N, n, T, h1, h2, h3, h4, h5, h6, h7⟩ := h.ex
 have c0 := h1.cell 0
 have c1 := h1.cell 1
 simp only [List.getElem?_cons_zero, List.getElem?_cons_succ] at c0 c1
 rw [meaR, c0, c1, <- h5, List.length_drop, h3]
 simp
theorem RR.pos {w : World} {P : Nat} {s : PS} (h : RR w P s) : 0 < s.l.length := by
 obtain ⟨g, off, cap, N, n, T, h1, h2, h3, h4, h5, h6, h7⟩ := h.ex
 rw [<- h5, List.length_drop]
 omega
def RdE (k : Nat) (c : Int -> CM.P Ex) (n : Nat) : Prop := ∀ (P : Nat) (s : PS) (w : World), RR w P s -> Wd s -> s.l.length <= n -> Calls Tryz.prog k #[.pointer (some ⟨P, 0, none⟩)] w (ExO c P s w)
theorem e_form {A : Nat -> Prop} {w : World} {x : Ex} {cs : List Value} (h : Rep.E 82 A w x cs) : ∃ (op kind int : Int) (t tb n : B) (a : Option Addr) (len cap : Nat), cs = [.int .i64 op, .int .i64 kind, .int .i64 int, .string ⟨t.toArray⟩, .string ⟨tb.toArray⟩, .string ⟨n.toArray⟩, .slice a len cap] := by
 obtain ⟨op, kind, int, t, tb, n, l, a, m, c, rfl, rfl, h1⟩ := e_cells h
 exact ⟨_, _, _, _, _, _, _, _, _, rfl⟩
theorem sign_is {w : B} {l : List Tok} (h : CM.is w l = true) : CM.sign l = w := by
 simp only [CM.is, Bool.and_eq_true, beq_iff_eq] at h
 unfold CM.sign
 rw [if_pos h.1]
 exact h.2
theorem sign_not {w : B} {l : List Tok} (hw : w ≠ []) (h : CM.is w l = false) : CM.sign l ≠ w := by
 unfold CM.sign
 split
 ·rename_i h1
  intro e
  rw [CM.is, h1, e] at h
  simp at h
 ·exact fun e => hw e.symm
theorem taken_not {w : B} {s : PS} (h : taken w s = false) (h0 : s.e = 0) : CM.is w s.l = false := by
 unfold taken at h
 rw [h0] at h
 simpa using h
def RwR (w : World) (P X n : Nat) (s0 : PS) (one : Int -> CM.P Ex) (ops : B -> Option Int) (wr : World) : Prop :=
 ∃ (x : Ex) (s' : PS) (op kind int : Int) (t tb nm : B) (va : Option Addr) (vl vc : Nat),
  Hid (∀ b s3, St (fun d => rowsL (one d) ops x) s' b s3 -> St (fun d => CM.rows (one d) ops) s0 b s3) /\ Hid (Dp s0 s') /\ s'.l.length <= n /\ Hid (RR wr P s') /\
  Hid (Blk wr X 82 [.int .i64 op, .int .i64 kind, .int .i64 int, .string ⟨t.toArray⟩, .string ⟨tb.toArray⟩, .string ⟨nm.toArray⟩, .slice va vl vc]) /\
  Hid (Rep.E 82 (fun b => w.heap.size < b /\ b ≠ X) wr x [.int .i64 op, .int .i64 kind, .int .i64 int, .string ⟨t.toArray⟩, .string ⟨tb.toArray⟩, .string ⟨nm.toArray⟩, .slice va vl vc]) /\
  Hid (Blk wr w.heap.size 82 z7) /\ Hid (Fr [some P] w wr)
theorem RwR.step {w w4 : World} {P X n : Nat} {s0 s2 : PS} {one : Int -> CM.P Ex} {ops : B -> Option Int} {z : Ex} {op kind int : Int} {t tb nm : B} {va : Option Addr} {vl vc : Nat}
  (hK : ∀ b s3, St (fun d => rowsL (one d) ops z) s2 b s3 -> St (fun d => CM.rows (one d) ops) s0 b s3) (hD : Dp s0 s2) (hn : s2.l.length <= n) (hP : RR w4 P s2) (hX : ∃ l, Blk w4 X 82 l /\ l.length = 7)
  (hz : Rep.E 82 (fun b => w.heap.size < b /\ b ≠ X) w4 z [.int .i64 op, .int .i64 kind, .int .i64 int, .string ⟨t.toArray⟩, .string ⟨tb.toArray⟩, .string ⟨nm.toArray⟩, .slice va vl vc]) (hB : Blk w4 w.heap.size 82 z7) (hF : Fr [some P] w w4) (hPw : P < w.heap.size) (hRX : w.heap.size < X) :
  RwR w P X n s0 one ops (put7 w4 X (.int .i64 op) (.int .i64 kind) (.int .i64 int) (.string ⟨t.toArray⟩) (.string ⟨tb.toArray⟩) (.string ⟨nm.toArray⟩) (.slice va vl vc)) /\
  meaR P (put7 w4 X (.int .i64 op) (.int .i64 kind) (.int .i64 int) (.string ⟨t.toArray⟩) (.string ⟨tb.toArray⟩) (.string ⟨nm.toArray⟩) (.slice va vl vc)) = s2.l.length := by
 obtain ⟨l, hX, hl⟩ := hX
 have h1 : Fr [some X] w4 (put7 w4 X (.int .i64 op) (.int .i64 kind) (.int .i64 int) (.string ⟨t.toArray⟩) (.string ⟨tb.toArray⟩) (.string ⟨nm.toArray⟩) (.slice va vl vc)) := frPut7 (Fr.refl [some X] w4) (.inl (by simp)) _ _ _ _ _ _ _
 have hP2 := hP.keepP h1 (fun g hg => by simp; omega)
 exact ⟨⟨z, s2, op, kind, int, t, tb, nm, va, vl, vc, Hd hK, Hd hD, hn, Hd hP2, Hd (blkPut7 hX hl _ _ _ _ _ _ _), Hd (Rep.E.keep h1 (fun g hg => by have := hg.2; simp; exact this) hz), Hd (hB.keep h1 (by simp; omega)), Hd (hF.trans' h1 (fun i hi => .inr (by simp at hi; omega)))⟩, meaR_of hP2⟩
set_option maxRecDepth 100000 in
set_option maxHeartbeats 4000000 in
theorem expr_any (n : Nat) (c : Int -> CM.P Ex) (hng : ∀ d, Ng (c d)) (hc : RdE 136 c n) : RdE 116 (fun d => CM.rows (c d) opOr) n := by
  intro P s w h hw hn
  have hPl := h.lt
  have HW := Hd hw
  have HC := Hd hc
  have HNG := Hd hng
  have HR := Hd h
  have HCALL := Hd (fun o => hc P s (w.alloc o) (h.alloc o) hw hn)
  clear h hw hc hng
  go_enter Tryz.func116, Tryz.ntmps116
  go_wp2_with fail
  refine (HCALL.out _).mono ?_
  rintro e w1 ⟨x1, s1, cs, rfl, hrep, h1, hst, hdp, hf1⟩
  obtain ⟨op, kind, int, t, tb, nm, va, vl, vc, rfl⟩ := e_form hrep
  have HREP := Hd hrep
  have H1 := Hd h1
  have HST := Hd hst
  have HD1 := Hd hdp
  have HB1 := Hd ((Blk.new w 82 z7).keep hf1 (by simp; omega))
  have HF1 := Hd (((Fr.refl [some P] w).alloc (.cells z7.toArray 82)).trans hf1)
  have hRl := HB1.out.lt
  have hPl1 := h1.lt
  have hln1 : s1.l.length <= n := Nat.le_trans hdp.len hn
  clear hrep h1 hst hdp hf1 HCALL
  go_wp2_with fail
  go_loopw [] (fun wr => RwR w P w1.heap.size n s c opOr wr) (fun wr => meaR P wr)
  case atStart =>
    refine ⟨x1, s1, op, kind, int, t, tb, nm, va, vl, vc, Hd (fun b s3 h => St.congr (St.bnd HST.out h) (fun d l => (rows_L (c d) opOr l).symm)), HD1, hln1, Hd (H1.out.alloc _), Hd (Blk.new w1 82 _), Hd ?_, Hd (Blk.alloc HB1.out _), Hd (HF1.out.alloc _)⟩
    have h1 := Rep.E.keep (w := w1) ((Fr.refl [] w1).alloc (.cells #[.int .i64 op, .int .i64 kind, .int .i64 int, .string ⟨t.toArray⟩, .string ⟨tb.toArray⟩, .string ⟨nm.toArray⟩, .slice va vl vc] 82)) (fun g _ => by simp) HREP.out.live
    refine Rep.E.mono (fun g hg => ?_) h1
    obtain ⟨h2, h3⟩ := hg
    simp at h2
    exact ⟨by omega, by omega⟩
  case round =>
    clear HREP H1 HST HD1 HB1 HF1 hln1
    obtain ⟨x, s', op, kind, int, t, tb, nm, va, vl, vc, HK, HD, hnn, HR2, HX, HE, HB, HF⟩ := hrel
    have hl1 := HX.out.lt
    have hl2 := HB.out.lt
    have hl3 := HR2.out.lt
    have HMEA := Hd (meaR_of HR2.out)
    go_wp2_with fail
    refine (take_any P [111, 114] s' wr HR2.out).mono ?_
    rintro e w20 ⟨rfl, h2, hf2⟩
    have H2 := Hd h2
    have HF2 := Hd (HF.out.trans hf2)
    have HX2 := Hd (HX.out.keep hf2 (by simp; omega))
    have HB2 := Hd (HB.out.keep hf2 (by simp; omega))
    have HE2 := Hd (Rep.E.keep hf2 (fun g hg => by have := hg.1; simp; omega) HE.out)
    have hs2 := hf2.size
    clear h2 hf2
    cases ht : taken [111, 114] s' with
    | true =>
      have HT := Hd ht
      have hlt := skip_lt ht
      have H3 : Hid (RR w20 P (skip s')) := Hd (by have := H2.out; rw [took, ht] at this; exact this)
      have HCL := Hd (fun w => fun h => HC.out P (skip s') w h (Dp.skip HD.out.wd).wd (by omega))
      have H3D : Hid (RR w20.drew P (skip s')) := Hd H3.out.drew
      have HX2D : Hid (Blk w20.drew w1.heap.size 82 [.int .i64 op, .int .i64 kind, .int .i64 int, .string ⟨t.toArray⟩, .string ⟨tb.toArray⟩, .string ⟨nm.toArray⟩, .slice va vl vc]) := HX2.out
      have HB2D : Hid (Blk w20.drew w.heap.size 82 z7) := HB2.out
      have HF2D : Hid (Fr [some P] w w20.drew) := Hd HF2.out.drew
      have HE2D : Hid (Rep.E 82 (fun b => w.heap.size < b /\ b ≠ w1.heap.size) w20.drew x [.int .i64 op, .int .i64 kind, .int .i64 int, .string ⟨t.toArray⟩, .string ⟨tb.toArray⟩, .string ⟨nm.toArray⟩, .slice va vl vc]) := Hd (Rep.E.keep (Fr.drew (Fr.refl [] w20)) (by simp) HE2.out)
      obtain ⟨c0, c1, c2, c3, c4, c5, c6, f0, f1, f2, f3, f4, f5, f6⟩ := c7_of HX2.out
      have hxl := HX2.out.lt
      have HLS : Hid (P < w1.heap.size /\ P < w.heap.size /\ w.heap.size < w1.heap.size /\ w1.heap.size < w20.heap.size) := Hd ⟨by omega, by omega, by omega, by omega⟩
      clear ht
      go_wp2_with fail
      go_region_with (first
        | (go_at_call 136
           refine (HCL.out _ ?_).mono ?_
           exact H3D.out
           rintro e w3 ⟨y, s2, ys, rfl, hy, h3, hst3, hd3, hf3⟩
           obtain ⟨op3, kind3, int3, t3, tb3, nm3, va3, vl3, vc3, rfl⟩ := e_form hy
           have HY3 := Hd hy
           have HR3 := Hd h3
           have HST3 := Hd hst3
           have HD3 := Hd hd3
           have HF3 := Hd (HF2D.out.trans hf3)
           have HX3 := Hd (HX2D.out.keep hf3 (by simp; have := HLS.out; omega))
           have HB3 := Hd (HB2D.out.keep hf3 (by simp; have := HLS.out; omega))
           have HE3 := Hd (Rep.E.keep hf3 (fun g hg => by have := hg.1; have := HLS.out; simp; omega) HE2D.out)
           have hs3 := hf3.size
           obtain ⟨d0, d1, d2, d3, d4, d5, d6, g0, g1, g2, g3, g4, g5, g6⟩ := c7_of HX3.out
           clear hy h3 hst3 hd3 hf3)
        | (go_at_call 137
           refine (two_any 15 x y [.int .i64 op, .int .i64 kind, .int .i64 int, .string ⟨t.toArray⟩, .string ⟨tb.toArray⟩, .string ⟨nm.toArray⟩, .slice va vl vc] [.int .i64 op3, .int .i64 kind3, .int .i64 int3, .string ⟨t3.toArray⟩, .string ⟨tb3.toArray⟩, .string ⟨nm3.toArray⟩, .slice va3 vl3 vc3] _ (fun b => w.heap.size < b /\ b ≠ w1.heap.size) ?_ ?_).mono ?_
           exact HE3.out
           exact Rep.E.mono (fun g hg => by have := HLS.out; simp at hg; exact ⟨by omega, by omega⟩) HY3.out
           rintro e w4 ⟨zs, rfl, hz, hf4⟩
           obtain ⟨op4, kind4, int4, t4, tb4, nm4, va4, vl4, vc4, rfl⟩ := e_form hz
           have HZ4 := Hd (Rep.E.mono (A' := fun b => w.heap.size < b /\ b ≠ w1.heap.size) (fun g hg => by have := HLS.out; simp at hg hs3; rcases hg with hg | hg; exact hg; exact ⟨by omega, by omega⟩) hz)
           have HR4 := Hd (HR3.out.keepP hf4 (by simp))
           have HX4 := Hd (HX3.out.keep hf4 (by simp))
           have HB4 := Hd (HB3.out.keep hf4 (by simp))
           have HF4 := Hd (HF3.out.trans (hf4.mono (by simp)))
           have hx4l := HX4.out.lt
           obtain ⟨d0, d1, d2, d3, d4, d5, d6, g0, g1, g2, g3, g4, g5, g6⟩ := c7_of HX4.out
           clear hz hf4))
      all_goals
        have HK2 : Hid (∀ b s3, St (fun d => rowsL (c d) opOr (two 15 x y)) s2 b s3 -> St (fun d => CM.rows (c d) opOr) s b s3) := Hd (fun b s3 h => HK.out b s3 (St.rows_next HNG.out rfl (taken_pos HT.out).1 (by rw [sign_is (taken_pos HT.out).2]; decide) HST3.out h))
        obtain ⟨st1, st2⟩ := RwR.step (n := n) HK2.out (HD.out.trans ((Dp.skip HD.out.wd).trans HD3.out)) (by have := HD3.out.len; omega) HR4.out ⟨_, HX4.out, rfl⟩ HZ4.out HB4.out HF4.out (by have := HLS.out; omega) (by have := HLS.out; omega)
        have HSTEP := Hd st1
        have HME : Hid (meaR P (put7 w4 w1.heap.size (.int .i64 op4) (.int .i64 kind4) (.int .i64 int4) (.string ⟨t4.toArray⟩) (.string ⟨tb4.toArray⟩) (.string ⟨nm4.toArray⟩) (.slice va4 vl4 vc4)) < meaR P wr) := Hd (by rw [st2, HMEA.out]; have := HD3.out.len; omega)
        clear st1 st2
        go_wp2_with fail
        go_roundw
        case rel => exact HSTEP.out
        case measure => exact HME.out
    | false =>
      have HT0 := Hd ht
      have H3 : Hid (RR w20 P s') := Hd (by have := H2.out; rw [took, ht] at this; exact this)
      clear ht
      have HSF : Hid (St (fun d => CM.rows (c d) opOr) s x s') := Hd (HK.out x s' (St.rows_end (fun h0 => by unfold opOr; rw [if_neg (sign_not (by decide) (taken_not HT0.out h0))])))
      obtain ⟨c0, c1, c2, c3, c4, c5, c6, f0, f1, f2, f3, f4, f5, f6⟩ := c7_of HX2.out
      obtain ⟨y0, y1, y2, y3, y4, y5, y6, k0, k1, k2, k3, k4, k5, k6⟩ := c7_of HB2.out
      have hne1 : ¬ w1.heap.size = w.heap.size := by omega
      go_wp2_with fail
      refine bodyPost_ret (ret_cell7 rfl _ w.heap.size rfl _ _ _ _ _ _ _ _ (blkPut7 HB2.out rfl _ _ _ _ _ _ _)) rfl ⟨x, s', _, rfl, ?_, H3.out.keepP (frPut7 (Fr.refl [some w.heap.size] _) (.inl (by simp)) _ _ _ _ _ _ _) (fun g hg => by simp; omega), HSF.out, HD.out, frPut7 HF2.out (.inr (Nat.le_refl _)) _ _ _ _ _ _ _⟩
      exact Rep.E.mono (fun g hg => Nat.le_of_lt hg.1) (Rep.E.keep (frPut7 (Fr.refl [some w.heap.size] _) (.inl (by simp)) _ _ _ _ _ _ _) (fun g hg => by have := hg.1; simp; omega) HE2.out)
set_option maxRecDepth 100000 in
set_option maxHeartbeats 4000000 in
theorem and_any (n : Nat) (c : Int -> CM.P Ex) (hng : ∀ d, Ng (c d)) (hc : RdE 150 c n) : RdE 136 (fun d => CM.rows (c d) opAnd) n := by
  intro P s w h hw hn
  have hPl := h.lt
  have HW := Hd hw
  have HC := Hd hc
  have HNG := Hd hng
  have HR := Hd h
  have HCALL := Hd (fun o => hc P s (w.alloc o) (h.alloc o) hw hn)
  clear h hw hc hng
  go_enter Tryz.func136, Tryz.ntmps136
  go_wp2_with fail
  refine (HCALL.out _).mono ?_
  rintro e w1 ⟨x1, s1, cs, rfl, hrep, h1, hst, hdp, hf1⟩
  obtain ⟨op, kind, int, t, tb, nm, va, vl, vc, rfl⟩ := e_form hrep
  have HREP := Hd hrep
  have H1 := Hd h1
  have HST := Hd hst
  have HD1 := Hd hdp
  have HB1 := Hd ((Blk.new w 82 z7).keep hf1 (by simp; omega))
  have HF1 := Hd (((Fr.refl [some P] w).alloc (.cells z7.toArray 82)).trans hf1)
  have hRl := HB1.out.lt
  have hPl1 := h1.lt
  have hln1 : s1.l.length <= n := Nat.le_trans hdp.len hn
  clear hrep h1 hst hdp hf1 HCALL
  go_wp2_with fail
  go_loopw [] (fun wr => RwR w P w1.heap.size n s c opAnd wr) (fun wr => meaR P wr)
  case atStart =>
    refine ⟨x1, s1, op, kind, int, t, tb, nm, va, vl, vc, Hd (fun b s3 h => St.congr (St.bnd HST.out h) (fun d l => (rows_L (c d) opAnd l).symm)), HD1, hln1, Hd (H1.out.alloc _), Hd (Blk.new w1 82 _), Hd ?_, Hd (Blk.alloc HB1.out _), Hd (HF1.out.alloc _)⟩
    have h1 := Rep.E.keep (w := w1) ((Fr.refl [] w1).alloc (.cells #[.int .i64 op, .int .i64 kind, .int .i64 int, .string ⟨t.toArray⟩, .string ⟨tb.toArray⟩, .string ⟨nm.toArray⟩, .slice va vl vc] 82)) (fun g _ => by simp) HREP.out.live
    refine Rep.E.mono (fun g hg => ?_) h1
    obtain ⟨h2, h3⟩ := hg
    simp at h2
    exact ⟨by omega, by omega⟩
  case round =>
    clear HREP H1 HST HD1 HB1 HF1 hln1
    obtain ⟨x, s', op, kind, int, t, tb, nm, va, vl, vc, HK, HD, hnn, HR2, HX, HE, HB, HF⟩ := hrel
    have hl1 := HX.out.lt
    have hl2 := HB.out.lt
    have hl3 := HR2.out.lt
    have HMEA := Hd (meaR_of HR2.out)
    go_wp2_with fail
    refine (take_any P [97, 110, 100] s' wr HR2.out).mono ?_
    rintro e w20 ⟨rfl, h2, hf2⟩
    have H2 := Hd h2
    have HF2 := Hd (HF.out.trans hf2)
    have HX2 := Hd (HX.out.keep hf2 (by simp; omega))
    have HB2 := Hd (HB.out.keep hf2 (by simp; omega))
    have HE2 := Hd (Rep.E.keep hf2 (fun g hg => by have := hg.1; simp; omega) HE.out)
    have hs2 := hf2.size
    clear h2 hf2
    cases ht : taken [97, 110, 100] s' with
    | true =>
      have HT := Hd ht
      have hlt := skip_lt ht
      have H3 : Hid (RR w20 P (skip s')) := Hd (by have := H2.out; rw [took, ht] at this; exact this)
      have HCL := Hd (fun w => fun h => HC.out P (skip s') w h (Dp.skip HD.out.wd).wd (by omega))
      have H3D : Hid (RR w20.drew P (skip s')) := Hd H3.out.drew
      have HX2D : Hid (Blk w20.drew w1.heap.size 82 [.int .i64 op, .int .i64 kind, .int .i64 int, .string ⟨t.toArray⟩, .string ⟨tb.toArray⟩, .string ⟨nm.toArray⟩, .slice va vl vc]) := HX2.out
      have HB2D : Hid (Blk w20.drew w.heap.size 82 z7) := HB2.out
      have HF2D : Hid (Fr [some P] w w20.drew) := Hd HF2.out.drew
      have HE2D : Hid (Rep.E 82 (fun b => w.heap.size < b /\ b ≠ w1.heap.size) w20.drew x [.int .i64 op, .int .i64 kind, .int .i64 int, .string ⟨t.toArray⟩, .string ⟨tb.toArray⟩, .string ⟨nm.toArray⟩, .slice va vl vc]) := Hd (Rep.E.keep (Fr.drew (Fr.refl [] w20)) (by simp) HE2.out)
      obtain ⟨c0, c1, c2, c3, c4, c5, c6, f0, f1, f2, f3, f4, f5, f6⟩ := c7_of HX2.out
      have hxl := HX2.out.lt
      have HLS : Hid (P < w1.heap.size /\ P < w.heap.size /\ w.heap.size < w1.heap.size /\ w1.heap.size < w20.heap.size) := Hd ⟨by omega, by omega, by omega, by omega⟩
      clear ht
      go_wp2_with fail
      go_region_with (first
        | (go_at_call 150
           refine (HCL.out _ ?_).mono ?_
           exact H3D.out
           rintro e w3 ⟨y, s2, ys, rfl, hy, h3, hst3, hd3, hf3⟩
           obtain ⟨op3, kind3, int3, t3, tb3, nm3, va3, vl3, vc3, rfl⟩ := e_form hy
           have HY3 := Hd hy
           have HR3 := Hd h3
           have HST3 := Hd hst3
           have HD3 := Hd hd3
           have HF3 := Hd (HF2D.out.trans hf3)
           have HX3 := Hd (HX2D.out.keep hf3 (by simp; have := HLS.out; omega))
           have HB3 := Hd (HB2D.out.keep hf3 (by simp; have := HLS.out; omega))
           have HE3 := Hd (Rep.E.keep hf3 (fun g hg => by have := hg.1; have := HLS.out; simp; omega) HE2D.out)
           have hs3 := hf3.size
           obtain ⟨d0, d1, d2, d3, d4, d5, d6, g0, g1, g2, g3, g4, g5, g6⟩ := c7_of HX3.out
           clear hy h3 hst3 hd3 hf3)
        | (go_at_call 137
           refine (two_any 14 x y [.int .i64 op, .int .i64 kind, .int .i64 int, .string ⟨t.toArray⟩, .string ⟨tb.toArray⟩, .string ⟨nm.toArray⟩, .slice va vl vc] [.int .i64 op3, .int .i64 kind3, .int .i64 int3, .string ⟨t3.toArray⟩, .string ⟨tb3.toArray⟩, .string ⟨nm3.toArray⟩, .slice va3 vl3 vc3] _ (fun b => w.heap.size < b /\ b ≠ w1.heap.size) ?_ ?_).mono ?_
           exact HE3.out
           exact Rep.E.mono (fun g hg => by have := HLS.out; simp at hg; exact ⟨by omega, by omega⟩) HY3.out
           rintro e w4 ⟨zs, rfl, hz, hf4⟩
           obtain ⟨op4, kind4, int4, t4, tb4, nm4, va4, vl4, vc4, rfl⟩ := e_form hz
           have HZ4 := Hd (Rep.E.mono (A' := fun b => w.heap.size < b /\ b ≠ w1.heap.size) (fun g hg => by have := HLS.out; simp at hg hs3; rcases hg with hg | hg; exact hg; exact ⟨by omega, by omega⟩) hz)
           have HR4 := Hd (HR3.out.keepP hf4 (by simp))
           have HX4 := Hd (HX3.out.keep hf4 (by simp))
           have HB4 := Hd (HB3.out.keep hf4 (by simp))
           have HF4 := Hd (HF3.out.trans (hf4.mono (by simp)))
           have hx4l := HX4.out.lt
           obtain ⟨d0, d1, d2, d3, d4, d5, d6, g0, g1, g2, g3, g4, g5, g6⟩ := c7_of HX4.out
           clear hz hf4))
      all_goals
        have HK2 : Hid (∀ b s3, St (fun d => rowsL (c d) opAnd (two 14 x y)) s2 b s3 -> St (fun d => CM.rows (c d) opAnd) s b s3) := Hd (fun b s3 h => HK.out b s3 (St.rows_next HNG.out rfl (taken_pos HT.out).1 (by rw [sign_is (taken_pos HT.out).2]; decide) HST3.out h))
        obtain ⟨st1, st2⟩ := RwR.step (n := n) HK2.out (HD.out.trans ((Dp.skip HD.out.wd).trans HD3.out)) (by have := HD3.out.len; omega) HR4.out ⟨_, HX4.out, rfl⟩ HZ4.out HB4.out HF4.out (by have := HLS.out; omega) (by have := HLS.out; omega)
        have HSTEP := Hd st1
        have HME : Hid (meaR P (put7 w4 w1.heap.size (.int .i64 op4) (.int .i64 kind4) (.int .i64 int4) (.string ⟨t4.toArray⟩) (.string ⟨tb4.toArray⟩) (.string ⟨nm4.toArray⟩) (.slice va4 vl4 vc4)) < meaR P wr) := Hd (by rw [st2, HMEA.out]; have := HD3.out.len; omega)
        clear st1 st2
        go_wp2_with fail
        go_roundw
        case rel => exact HSTEP.out
        case measure => exact HME.out
    | false =>
      have HT0 := Hd ht
      have H3 : Hid (RR w20 P s') := Hd (by have := H2.out; rw [took, ht] at this; exact this)
      clear ht
      have HSF : Hid (St (fun d => CM.rows (c d) opAnd) s x s') := Hd (HK.out x s' (St.rows_end (fun h0 => by unfold opAnd; rw [if_neg (sign_not (by decide) (taken_not HT0.out h0))])))
      obtain ⟨c0, c1, c2, c3, c4, c5, c6, f0, f1, f2, f3, f4, f5, f6⟩ := c7_of HX2.out
      obtain ⟨y0, y1, y2, y3, y4, y5, y6, k0, k1, k2, k3, k4, k5, k6⟩ := c7_of HB2.out
      have hne1 : ¬ w1.heap.size = w.heap.size := by omega
      go_wp2_with fail
      refine bodyPost_ret (ret_cell7 rfl _ w.heap.size rfl _ _ _ _ _ _ _ _ (blkPut7 HB2.out rfl _ _ _ _ _ _ _)) rfl ⟨x, s', _, rfl, ?_, H3.out.keepP (frPut7 (Fr.refl [some w.heap.size] _) (.inl (by simp)) _ _ _ _ _ _ _) (fun g hg => by simp; omega), HSF.out, HD.out, frPut7 HF2.out (.inr (Nat.le_refl _)) _ _ _ _ _ _ _⟩
      exact Rep.E.mono (fun g hg => Nat.le_of_lt hg.1) (Rep.E.keep (frPut7 (Fr.refl [some w.heap.size] _) (.inl (by simp)) _ _ _ _ _ _ _) (fun g hg => by have := hg.1; simp; omega) HE2.out)
set_option maxRecDepth 100000 in
set_option maxHeartbeats 4000000 in
theorem sum_any (n : Nat) (c : Int -> CM.P Ex) (hng : ∀ d, Ng (c d)) (hc : RdE 176 c n) : RdE 165 (fun d => CM.rows (c d) opSum) n := by
  intro P s w h hw hn
  have hPl := h.lt
  have HW := Hd hw
  have HC := Hd hc
  have HNG := Hd hng
  have HR := Hd h
  have HCALL := Hd (fun o => hc P s (w.alloc o) (h.alloc o) hw hn)
  clear h hw hc hng
  go_enter Tryz.func165, Tryz.ntmps165
  go_wp2_with fail
  refine (HCALL.out _).mono ?_
  rintro e w1 ⟨x1, s1, cs, rfl, hrep, h1, hst, hdp, hf1⟩
  obtain ⟨op, kind, int, t, tb, nm, va, vl, vc, rfl⟩ := e_form hrep
  have HREP := Hd hrep
  have H1 := Hd h1
  have HST := Hd hst
  have HD1 := Hd hdp
  have HB1 := Hd ((Blk.new w 82 z7).keep hf1 (by simp; omega))
  have HF1 := Hd (((Fr.refl [some P] w).alloc (.cells z7.toArray 82)).trans hf1)
  have hRl := HB1.out.lt
  have hPl1 := h1.lt
  have hln1 : s1.l.length <= n := Nat.le_trans hdp.len hn
  clear hrep h1 hst hdp hf1 HCALL
  go_wp2_with fail
  go_loopw [] (fun wr => RwR w P w1.heap.size n s c opSum wr) (fun wr => meaR P wr)
  case atStart =>
    refine ⟨x1, s1, op, kind, int, t, tb, nm, va, vl, vc, Hd (fun b s3 h => St.congr (St.bnd HST.out h) (fun d l => (rows_L (c d) opSum l).symm)), HD1, hln1, Hd (H1.out.alloc _), Hd (Blk.new w1 82 _), Hd ?_, Hd (Blk.alloc HB1.out _), Hd (HF1.out.alloc _)⟩
    have h1 := Rep.E.keep (w := w1) ((Fr.refl [] w1).alloc (.cells #[.int .i64 op, .int .i64 kind, .int .i64 int, .string ⟨t.toArray⟩, .string ⟨tb.toArray⟩, .string ⟨nm.toArray⟩, .slice va vl vc] 82)) (fun g _ => by simp) HREP.out.live
    refine Rep.E.mono (fun g hg => ?_) h1
    obtain ⟨h2, h3⟩ := hg
    simp at h2
    exact ⟨by omega, by omega⟩
  case round =>
    clear HREP H1 HST HD1 HB1 HF1 hln1
    obtain ⟨x, s', op, kind, int, t, tb, nm, va, vl, vc, HK, HD, hnn, HR2, HX, HE, HB, HF⟩ := hrel
    have hl1 := HX.out.lt
    have hl2 := HB.out.lt
    have hl3 := HR2.out.lt
    have HMEA := Hd (meaR_of HR2.out)
    go_wp2_with fail
    refine (take_any P [43] s' wr HR2.out).mono ?_
    rintro e w20 ⟨rfl, h2, hf2⟩
    have H2 := Hd h2
    have HF2 := Hd (HF.out.trans hf2)
    have HX2 := Hd (HX.out.keep hf2 (by simp; omega))
    have HB2 := Hd (HB.out.keep hf2 (by simp; omega))
    have HE2 := Hd (Rep.E.keep hf2 (fun g hg => by have := hg.1; simp; omega) HE.out)
    have hs2 := hf2.size
    clear h2 hf2
    cases ht : taken [43] s' with
    | true =>
      have HT := Hd ht
      have hlt := skip_lt ht
      have H3 : Hid (RR w20 P (skip s')) := Hd (by have := H2.out; rw [took, ht] at this; exact this)
      have HCL := Hd (fun w => fun h => HC.out P (skip s') w h (Dp.skip HD.out.wd).wd (by omega))
      have H3D : Hid (RR w20.drew P (skip s')) := Hd H3.out.drew
      have HX2D : Hid (Blk w20.drew w1.heap.size 82 [.int .i64 op, .int .i64 kind, .int .i64 int, .string ⟨t.toArray⟩, .string ⟨tb.toArray⟩, .string ⟨nm.toArray⟩, .slice va vl vc]) := HX2.out
      have HB2D : Hid (Blk w20.drew w.heap.size 82 z7) := HB2.out
      have HF2D : Hid (Fr [some P] w w20.drew) := Hd HF2.out.drew
      have HE2D : Hid (Rep.E 82 (fun b => w.heap.size < b /\ b ≠ w1.heap.size) w20.drew x [.int .i64 op, .int .i64 kind, .int .i64 int, .string ⟨t.toArray⟩, .string ⟨tb.toArray⟩, .string ⟨nm.toArray⟩, .slice va vl vc]) := Hd (Rep.E.keep (Fr.drew (Fr.refl [] w20)) (by simp) HE2.out)
      obtain ⟨c0, c1, c2, c3, c4, c5, c6, f0, f1, f2, f3, f4, f5, f6⟩ := c7_of HX2.out
      have hxl := HX2.out.lt
      have HLS : Hid (P < w1.heap.size /\ P < w.heap.size /\ w.heap.size < w1.heap.size /\ w1.heap.size < w20.heap.size) := Hd ⟨by omega, by omega, by omega, by omega⟩
      clear ht
      go_wp2_with fail
      go_region_with (first
        | (go_at_call 176
           refine (HCL.out _ ?_).mono ?_
           exact H3D.out
           rintro e w3 ⟨y, s2, ys, rfl, hy, h3, hst3, hd3, hf3⟩
           obtain ⟨op3, kind3, int3, t3, tb3, nm3, va3, vl3, vc3, rfl⟩ := e_form hy
           have HY3 := Hd hy
           have HR3 := Hd h3
           have HST3 := Hd hst3
           have HD3 := Hd hd3
           have HF3 := Hd (HF2D.out.trans hf3)
           have HX3 := Hd (HX2D.out.keep hf3 (by simp; have := HLS.out; omega))
           have HB3 := Hd (HB2D.out.keep hf3 (by simp; have := HLS.out; omega))
           have HE3 := Hd (Rep.E.keep hf3 (fun g hg => by have := hg.1; have := HLS.out; simp; omega) HE2D.out)
           have hs3 := hf3.size
           obtain ⟨d0, d1, d2, d3, d4, d5, d6, g0, g1, g2, g3, g4, g5, g6⟩ := c7_of HX3.out
           clear hy h3 hst3 hd3 hf3)
        | (go_at_call 137
           refine (two_any 5 x y [.int .i64 op, .int .i64 kind, .int .i64 int, .string ⟨t.toArray⟩, .string ⟨tb.toArray⟩, .string ⟨nm.toArray⟩, .slice va vl vc] [.int .i64 op3, .int .i64 kind3, .int .i64 int3, .string ⟨t3.toArray⟩, .string ⟨tb3.toArray⟩, .string ⟨nm3.toArray⟩, .slice va3 vl3 vc3] _ (fun b => w.heap.size < b /\ b ≠ w1.heap.size) ?_ ?_).mono ?_
           exact HE3.out
           exact Rep.E.mono (fun g hg => by have := HLS.out; simp at hg; exact ⟨by omega, by omega⟩) HY3.out
           rintro e w4 ⟨zs, rfl, hz, hf4⟩
           obtain ⟨op4, kind4, int4, t4, tb4, nm4, va4, vl4, vc4, rfl⟩ := e_form hz
           have HZ4 := Hd (Rep.E.mono (A' := fun b => w.heap.size < b /\ b ≠ w1.heap.size) (fun g hg => by have := HLS.out; simp at hg hs3; rcases hg with hg | hg; exact hg; exact ⟨by omega, by omega⟩) hz)
           have HR4 := Hd (HR3.out.keepP hf4 (by simp))
           have HX4 := Hd (HX3.out.keep hf4 (by simp))
           have HB4 := Hd (HB3.out.keep hf4 (by simp))
           have HF4 := Hd (HF3.out.trans (hf4.mono (by simp)))
           have hx4l := HX4.out.lt
           obtain ⟨d0, d1, d2, d3, d4, d5, d6, g0, g1, g2, g3, g4, g5, g6⟩ := c7_of HX4.out
           clear hz hf4))
      all_goals
        have HK2 : Hid (∀ b s3, St (fun d => rowsL (c d) opSum (two 5 x y)) s2 b s3 -> St (fun d => CM.rows (c d) opSum) s b s3) := Hd (fun b s3 h => HK.out b s3 (St.rows_next HNG.out rfl (taken_pos HT.out).1 (by rw [sign_is (taken_pos HT.out).2]; decide) HST3.out h))
        obtain ⟨st1, st2⟩ := RwR.step (n := n) HK2.out (HD.out.trans ((Dp.skip HD.out.wd).trans HD3.out)) (by have := HD3.out.len; omega) HR4.out ⟨_, HX4.out, rfl⟩ HZ4.out HB4.out HF4.out (by have := HLS.out; omega) (by have := HLS.out; omega)
        have HSTEP := Hd st1
        have HME : Hid (meaR P (put7 w4 w1.heap.size (.int .i64 op4) (.int .i64 kind4) (.int .i64 int4) (.string ⟨t4.toArray⟩) (.string ⟨tb4.toArray⟩) (.string ⟨nm4.toArray⟩) (.slice va4 vl4 vc4)) < meaR P wr) := Hd (by rw [st2, HMEA.out]; have := HD3.out.len; omega)
        clear st1 st2
        go_wp2_with fail
        go_roundw
        case rel => exact HSTEP.out
        case measure => exact HME.out
    | false =>
      have HT0 := Hd ht
      have H3 : Hid (RR w20 P s') := Hd (by have := H2.out; rw [took, ht] at this; exact this)
      clear ht
      clear HR2 HX HB HE HF H2
      have HR2 := H3
      have HX := HX2
      have HB := HB2
      have HE := HE2
      have HF := HF2
      clear H3 HX2 HB2 HE2 HF2
      have hl1 := HX.out.lt
      have hl2 := HB.out.lt
      have hl3 := HR2.out.lt
      go_wp2_with fail
      refine (take_any P [45] s' _ HR2.out).mono ?_
      rintro e w21 ⟨rfl, h2, hf2⟩
      have H2 := Hd h2
      have HF2 := Hd (HF.out.trans hf2)
      have HX2 := Hd (HX.out.keep hf2 (by simp; omega))
      have HB2 := Hd (HB.out.keep hf2 (by simp; omega))
      have HE2 := Hd (Rep.E.keep hf2 (fun g hg => by have := hg.1; simp; omega) HE.out)
      have hs2 := hf2.size
      clear h2 hf2
      cases ht : taken [45] s' with
      | true =>
        have HT := Hd ht
        have hlt := skip_lt ht
        have H3 : Hid (RR w21 P (skip s')) := Hd (by have := H2.out; rw [took, ht] at this; exact this)
        have HCL := Hd (fun w => fun h => HC.out P (skip s') w h (Dp.skip HD.out.wd).wd (by omega))
        have H3D : Hid (RR w21.drew P (skip s')) := Hd H3.out.drew
        have HX2D : Hid (Blk w21.drew w1.heap.size 82 [.int .i64 op, .int .i64 kind, .int .i64 int, .string ⟨t.toArray⟩, .string ⟨tb.toArray⟩, .string ⟨nm.toArray⟩, .slice va vl vc]) := HX2.out
        have HB2D : Hid (Blk w21.drew w.heap.size 82 z7) := HB2.out
        have HF2D : Hid (Fr [some P] w w21.drew) := Hd HF2.out.drew
        have HE2D : Hid (Rep.E 82 (fun b => w.heap.size < b /\ b ≠ w1.heap.size) w21.drew x [.int .i64 op, .int .i64 kind, .int .i64 int, .string ⟨t.toArray⟩, .string ⟨tb.toArray⟩, .string ⟨nm.toArray⟩, .slice va vl vc]) := Hd (Rep.E.keep (Fr.drew (Fr.refl [] w21)) (by simp) HE2.out)
        obtain ⟨c0, c1, c2, c3, c4, c5, c6, f0, f1, f2, f3, f4, f5, f6⟩ := c7_of HX2.out
        have hxl := HX2.out.lt
        have HLS : Hid (P < w1.heap.size /\ P < w.heap.size /\ w.heap.size < w1.heap.size /\ w1.heap.size < w21.heap.size) := Hd ⟨by omega, by omega, by omega, by omega⟩
        clear ht
        go_wp2_with fail
        go_region_with (first
          | (go_at_call 176
             refine (HCL.out _ ?_).mono ?_
             exact H3D.out
             rintro e w3 ⟨y, s2, ys, rfl, hy, h3, hst3, hd3, hf3⟩
             obtain ⟨op3, kind3, int3, t3, tb3, nm3, va3, vl3, vc3, rfl⟩ := e_form hy
             have HY3 := Hd hy
             have HR3 := Hd h3
             have HST3 := Hd hst3
             have HD3 := Hd hd3
             have HF3 := Hd (HF2D.out.trans hf3)
             have HX3 := Hd (HX2D.out.keep hf3 (by simp; have := HLS.out; omega))
             have HB3 := Hd (HB2D.out.keep hf3 (by simp; have := HLS.out; omega))
             have HE3 := Hd (Rep.E.keep hf3 (fun g hg => by have := hg.1; have := HLS.out; simp; omega) HE2D.out)
             have hs3 := hf3.size
             obtain ⟨d0, d1, d2, d3, d4, d5, d6, g0, g1, g2, g3, g4, g5, g6⟩ := c7_of HX3.out
             clear hy h3 hst3 hd3 hf3)
          | (go_at_call 137
             refine (two_any 6 x y [.int .i64 op, .int .i64 kind, .int .i64 int, .string ⟨t.toArray⟩, .string ⟨tb.toArray⟩, .string ⟨nm.toArray⟩, .slice va vl vc] [.int .i64 op3, .int .i64 kind3, .int .i64 int3, .string ⟨t3.toArray⟩, .string ⟨tb3.toArray⟩, .string ⟨nm3.toArray⟩, .slice va3 vl3 vc3] _ (fun b => w.heap.size < b /\ b ≠ w1.heap.size) ?_ ?_).mono ?_
             exact HE3.out
             exact Rep.E.mono (fun g hg => by have := HLS.out; simp at hg; exact ⟨by omega, by omega⟩) HY3.out
             rintro e w4 ⟨zs, rfl, hz, hf4⟩
             obtain ⟨op4, kind4, int4, t4, tb4, nm4, va4, vl4, vc4, rfl⟩ := e_form hz
             have HZ4 := Hd (Rep.E.mono (A' := fun b => w.heap.size < b /\ b ≠ w1.heap.size) (fun g hg => by have := HLS.out; simp at hg hs3; rcases hg with hg | hg; exact hg; exact ⟨by omega, by omega⟩) hz)
             have HR4 := Hd (HR3.out.keepP hf4 (by simp))
             have HX4 := Hd (HX3.out.keep hf4 (by simp))
             have HB4 := Hd (HB3.out.keep hf4 (by simp))
             have HF4 := Hd (HF3.out.trans (hf4.mono (by simp)))
             have hx4l := HX4.out.lt
             obtain ⟨d0, d1, d2, d3, d4, d5, d6, g0, g1, g2, g3, g4, g5, g6⟩ := c7_of HX4.out
             clear hz hf4))
        all_goals
          have HK2 : Hid (∀ b s3, St (fun d => rowsL (c d) opSum (two 6 x y)) s2 b s3 -> St (fun d => CM.rows (c d) opSum) s b s3) := Hd (fun b s3 h => HK.out b s3 (St.rows_next HNG.out rfl (taken_pos HT.out).1 (by rw [sign_is (taken_pos HT.out).2]; decide) HST3.out h))
          obtain ⟨st1, st2⟩ := RwR.step (n := n) HK2.out (HD.out.trans ((Dp.skip HD.out.wd).trans HD3.out)) (by have := HD3.out.len; omega) HR4.out ⟨_, HX4.out, rfl⟩ HZ4.out HB4.out HF4.out (by have := HLS.out; omega) (by have := HLS.out; omega)
          have HSTEP := Hd st1
          have HME : Hid (meaR P (put7 w4 w1.heap.size (.int .i64 op4) (.int .i64 kind4) (.int .i64 int4) (.string ⟨t4.toArray⟩) (.string ⟨tb4.toArray⟩) (.string ⟨nm4.toArray⟩) (.slice va4 vl4 vc4)) < meaR P wr) := Hd (by rw [st2, HMEA.out]; have := HD3.out.len; omega)
          clear st1 st2
          go_wp2_with fail
          go_roundw
          case rel => exact HSTEP.out
          case measure => exact HME.out
      | false =>
        have HT1 := Hd ht
        have H3 : Hid (RR w21 P s') := Hd (by have := H2.out; rw [took, ht] at this; exact this)
        clear ht
        have HSF : Hid (St (fun d => CM.rows (c d) opSum) s x s') := Hd (HK.out x s' (St.rows_end (fun h0 => by unfold opSum; rw [if_neg (sign_not (by decide) (taken_not HT0.out h0)), if_neg (sign_not (by decide) (taken_not HT1.out h0))])))
        obtain ⟨c0, c1, c2, c3, c4, c5, c6, f0, f1, f2, f3, f4, f5, f6⟩ := c7_of HX2.out
        obtain ⟨y0, y1, y2, y3, y4, y5, y6, k0, k1, k2, k3, k4, k5, k6⟩ := c7_of HB2.out
        have hne1 : ¬ w1.heap.size = w.heap.size := by omega
        go_wp2_with fail
        refine bodyPost_ret (ret_cell7 rfl _ w.heap.size rfl _ _ _ _ _ _ _ _ (blkPut7 HB2.out rfl _ _ _ _ _ _ _)) rfl ⟨x, s', _, rfl, ?_, H3.out.keepP (frPut7 (Fr.refl [some w.heap.size] _) (.inl (by simp)) _ _ _ _ _ _ _) (fun g hg => by simp; omega), HSF.out, HD.out, frPut7 HF2.out (.inr (Nat.le_refl _)) _ _ _ _ _ _ _⟩
        exact Rep.E.mono (fun g hg => Nat.le_of_lt hg.1) (Rep.E.keep (frPut7 (Fr.refl [some w.heap.size] _) (.inl (by simp)) _ _ _ _ _ _ _) (fun g hg => by have := hg.1; simp; omega) HE2.out)
set_option maxRecDepth 100000 in
set_option maxHeartbeats 4000000 in
theorem term_any (n : Nat) (c : Int -> CM.P Ex) (hng : ∀ d, Ng (c d)) (hc : RdE 183 c n) : RdE 176 (fun d => CM.rows (c d) opTerm) n := by
  intro P s w h hw hn
  have hPl := h.lt
  have HW := Hd hw
  have HC := Hd hc
  have HNG := Hd hng
  have HR := Hd h
  have HCALL := Hd (fun o => hc P s (w.alloc o) (h.alloc o) hw hn)
  clear h hw hc hng
  go_enter Tryz.func176, Tryz.ntmps176
  go_wp2_with fail
  refine (HCALL.out _).mono ?_
  rintro e w1 ⟨x1, s1, cs, rfl, hrep, h1, hst, hdp, hf1⟩
  obtain ⟨op, kind, int, t, tb, nm, va, vl, vc, rfl⟩ := e_form hrep
  have HREP := Hd hrep
  have H1 := Hd h1
  have HST := Hd hst
  have HD1 := Hd hdp
  have HB1 := Hd ((Blk.new w 82 z7).keep hf1 (by simp; omega))
  have HF1 := Hd (((Fr.refl [some P] w).alloc (.cells z7.toArray 82)).trans hf1)
  have hRl := HB1.out.lt
  have hPl1 := h1.lt
  have hln1 : s1.l.length <= n := Nat.le_trans hdp.len hn
  clear hrep h1 hst hdp hf1 HCALL
  go_wp2_with fail
  go_loopw [] (fun wr => RwR w P w1.heap.size n s c opTerm wr) (fun wr => meaR P wr)
  case atStart =>
    refine ⟨x1, s1, op, kind, int, t, tb, nm, va, vl, vc, Hd (fun b s3 h => St.congr (St.bnd HST.out h) (fun d l => (rows_L (c d) opTerm l).symm)), HD1, hln1, Hd (H1.out.alloc _), Hd (Blk.new w1 82 _), Hd ?_, Hd (Blk.alloc HB1.out _), Hd (HF1.out.alloc _)⟩
    have h1 := Rep.E.keep (w := w1) ((Fr.refl [] w1).alloc (.cells #[.int .i64 op, .int .i64 kind, .int .i64 int, .string ⟨t.toArray⟩, .string ⟨tb.toArray⟩, .string ⟨nm.toArray⟩, .slice va vl vc] 82)) (fun g _ => by simp) HREP.out.live
    refine Rep.E.mono (fun g hg => ?_) h1
    obtain ⟨h2, h3⟩ := hg
    simp at h2
    exact ⟨by omega, by omega⟩
  case round =>
    clear HREP H1 HST HD1 HB1 HF1 hln1
    obtain ⟨x, s', op, kind, int, t, tb, nm, va, vl, vc, HK, HD, hnn, HR2, HX, HE, HB, HF⟩ := hrel
    have hl1 := HX.out.lt
    have hl2 := HB.out.lt
    have hl3 := HR2.out.lt
    have HMEA := Hd (meaR_of HR2.out)
    go_wp2_with fail
    refine (take_any P [42] s' wr HR2.out).mono ?_
    rintro e w20 ⟨rfl, h2, hf2⟩
    have H2 := Hd h2
    have HF2 := Hd (HF.out.trans hf2)
    have HX2 := Hd (HX.out.keep hf2 (by simp; omega))
    have HB2 := Hd (HB.out.keep hf2 (by simp; omega))
    have HE2 := Hd (Rep.E.keep hf2 (fun g hg => by have := hg.1; simp; omega) HE.out)
    have hs2 := hf2.size
    clear h2 hf2
    cases ht : taken [42] s' with
    | true =>
      have HT := Hd ht
      have hlt := skip_lt ht
      have H3 : Hid (RR w20 P (skip s')) := Hd (by have := H2.out; rw [took, ht] at this; exact this)
      have HCL := Hd (fun w => fun h => HC.out P (skip s') w h (Dp.skip HD.out.wd).wd (by omega))
      have H3D : Hid (RR w20.drew P (skip s')) := Hd H3.out.drew
      have HX2D : Hid (Blk w20.drew w1.heap.size 82 [.int .i64 op, .int .i64 kind, .int .i64 int, .string ⟨t.toArray⟩, .string ⟨tb.toArray⟩, .string ⟨nm.toArray⟩, .slice va vl vc]) := HX2.out
      have HB2D : Hid (Blk w20.drew w.heap.size 82 z7) := HB2.out
      have HF2D : Hid (Fr [some P] w w20.drew) := Hd HF2.out.drew
      have HE2D : Hid (Rep.E 82 (fun b => w.heap.size < b /\ b ≠ w1.heap.size) w20.drew x [.int .i64 op, .int .i64 kind, .int .i64 int, .string ⟨t.toArray⟩, .string ⟨tb.toArray⟩, .string ⟨nm.toArray⟩, .slice va vl vc]) := Hd (Rep.E.keep (Fr.drew (Fr.refl [] w20)) (by simp) HE2.out)
      obtain ⟨c0, c1, c2, c3, c4, c5, c6, f0, f1, f2, f3, f4, f5, f6⟩ := c7_of HX2.out
      have hxl := HX2.out.lt
      have HLS : Hid (P < w1.heap.size /\ P < w.heap.size /\ w.heap.size < w1.heap.size /\ w1.heap.size < w20.heap.size) := Hd ⟨by omega, by omega, by omega, by omega⟩
      clear ht
      go_wp2_with fail
      go_region_with (first
        | (go_at_call 183
           refine (HCL.out _ ?_).mono ?_
           exact H3D.out
           rintro e w3 ⟨y, s2, ys, rfl, hy, h3, hst3, hd3, hf3⟩
           obtain ⟨op3, kind3, int3, t3, tb3, nm3, va3, vl3, vc3, rfl⟩ := e_form hy
           have HY3 := Hd hy
           have HR3 := Hd h3
           have HST3 := Hd hst3
           have HD3 := Hd hd3
           have HF3 := Hd (HF2D.out.trans hf3)
           have HX3 := Hd (HX2D.out.keep hf3 (by simp; have := HLS.out; omega))
           have HB3 := Hd (HB2D.out.keep hf3 (by simp; have := HLS.out; omega))
           have HE3 := Hd (Rep.E.keep hf3 (fun g hg => by have := hg.1; have := HLS.out; simp; omega) HE2D.out)
           have hs3 := hf3.size
           obtain ⟨d0, d1, d2, d3, d4, d5, d6, g0, g1, g2, g3, g4, g5, g6⟩ := c7_of HX3.out
           clear hy h3 hst3 hd3 hf3)
        | (go_at_call 137
           refine (two_any 7 x y [.int .i64 op, .int .i64 kind, .int .i64 int, .string ⟨t.toArray⟩, .string ⟨tb.toArray⟩, .string ⟨nm.toArray⟩, .slice va vl vc] [.int .i64 op3, .int .i64 kind3, .int .i64 int3, .string ⟨t3.toArray⟩, .string ⟨tb3.toArray⟩, .string ⟨nm3.toArray⟩, .slice va3 vl3 vc3] _ (fun b => w.heap.size < b /\ b ≠ w1.heap.size) ?_ ?_).mono ?_
           exact HE3.out
           exact Rep.E.mono (fun g hg => by have := HLS.out; simp at hg; exact ⟨by omega, by omega⟩) HY3.out
           rintro e w4 ⟨zs, rfl, hz, hf4⟩
           obtain ⟨op4, kind4, int4, t4, tb4, nm4, va4, vl4, vc4, rfl⟩ := e_form hz
           have HZ4 := Hd (Rep.E.mono (A' := fun b => w.heap.size < b /\ b ≠ w1.heap.size) (fun g hg => by have := HLS.out; simp at hg hs3; rcases hg with hg | hg; exact hg; exact ⟨by omega, by omega⟩) hz)
           have HR4 := Hd (HR3.out.keepP hf4 (by simp))
           have HX4 := Hd (HX3.out.keep hf4 (by simp))
           have HB4 := Hd (HB3.out.keep hf4 (by simp))
           have HF4 := Hd (HF3.out.trans (hf4.mono (by simp)))
           have hx4l := HX4.out.lt
           obtain ⟨d0, d1, d2, d3, d4, d5, d6, g0, g1, g2, g3, g4, g5, g6⟩ := c7_of HX4.out
           clear hz hf4))
      all_goals
        have HK2 : Hid (∀ b s3, St (fun d => rowsL (c d) opTerm (two 7 x y)) s2 b s3 -> St (fun d => CM.rows (c d) opTerm) s b s3) := Hd (fun b s3 h => HK.out b s3 (St.rows_next HNG.out rfl (taken_pos HT.out).1 (by rw [sign_is (taken_pos HT.out).2]; decide) HST3.out h))
        obtain ⟨st1, st2⟩ := RwR.step (n := n) HK2.out (HD.out.trans ((Dp.skip HD.out.wd).trans HD3.out)) (by have := HD3.out.len; omega) HR4.out ⟨_, HX4.out, rfl⟩ HZ4.out HB4.out HF4.out (by have := HLS.out; omega) (by have := HLS.out; omega)
        have HSTEP := Hd st1
        have HME : Hid (meaR P (put7 w4 w1.heap.size (.int .i64 op4) (.int .i64 kind4) (.int .i64 int4) (.string ⟨t4.toArray⟩) (.string ⟨tb4.toArray⟩) (.string ⟨nm4.toArray⟩) (.slice va4 vl4 vc4)) < meaR P wr) := Hd (by rw [st2, HMEA.out]; have := HD3.out.len; omega)
        clear st1 st2
        go_wp2_with fail
        go_roundw
        case rel => exact HSTEP.out
        case measure => exact HME.out
    | false =>
      have HT0 := Hd ht
      have H3 : Hid (RR w20 P s') := Hd (by have := H2.out; rw [took, ht] at this; exact this)
      clear ht
      have HSF : Hid (St (fun d => CM.rows (c d) opTerm) s x s') := Hd (HK.out x s' (St.rows_end (fun h0 => by unfold opTerm; rw [if_neg (sign_not (by decide) (taken_not HT0.out h0))])))
      obtain ⟨c0, c1, c2, c3, c4, c5, c6, f0, f1, f2, f3, f4, f5, f6⟩ := c7_of HX2.out
      obtain ⟨y0, y1, y2, y3, y4, y5, y6, k0, k1, k2, k3, k4, k5, k6⟩ := c7_of HB2.out
      have hne1 : ¬ w1.heap.size = w.heap.size := by omega
      go_wp2_with fail
      refine bodyPost_ret (ret_cell7 rfl _ w.heap.size rfl _ _ _ _ _ _ _ _ (blkPut7 HB2.out rfl _ _ _ _ _ _ _)) rfl ⟨x, s', _, rfl, ?_, H3.out.keepP (frPut7 (Fr.refl [some w.heap.size] _) (.inl (by simp)) _ _ _ _ _ _ _) (fun g hg => by simp; omega), HSF.out, HD.out, frPut7 HF2.out (.inr (Nat.le_refl _)) _ _ _ _ _ _ _⟩
      exact Rep.E.mono (fun g hg => Nat.le_of_lt hg.1) (Rep.E.keep (frPut7 (Fr.refl [some w.heap.size] _) (.inl (by simp)) _ _ _ _ _ _ _) (fun g hg => by have := hg.1; simp; omega) HE2.out)
end Rf
end Go.Proofs.YtmdnhinpaflamaaGreatDoor
