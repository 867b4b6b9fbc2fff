/- The document's parser: down, two, column. -/
import Derived.Test.YtmdnhinpaflamaaGreatDoorRfA
import Derived.Test.YtmdnhinpaflamaaGreatDoorRfQ
namespace Go.Proofs.YtmdnhinpaflamaaGreatDoor
open Go.RowKit
set_option linter.unusedVariables false
set_option linter.unusedSimpArgs false
namespace Rf
open LexM (Tok)
open PM (B Ex Col It PS zeroTok wordy two un colEx)
open Px (frSet ret_cell7 blkPut7 frPut7 c7_of colCells col_rep z7)
theorem es_mk {A : Nat → Prop} {w : World} {l : List Ex} {cs : List Value} (hL : Rep.L 82 A w l cs) (hn : A w.heap.size) (hm : l.length ≤ maxLen) :
    Rep.Es 82 A (w.alloc (.cells cs.toArray 82)) l (.slice (some ⟨w.heap.size, 0, none⟩) l.length l.length) := by
  have hb := Blk.new w 82 cs
  refine .mk _ _ cs (hL.keep ((Fr.refl [] w).alloc _) (by simp)) ⟨hL.length, .inr ⟨w.heap.size, 0, l.length, cs, rfl, hb, Nat.le_refl _, hm, by rw [hL.length]; omega, ?_⟩⟩ (fun g hg => by simp only [Value.ownBlock, Option.some.injEq] at hg; subst hg; exact hn)
  rw [List.drop_zero, List.take_of_length_le (by rw [hL.length]; omega)]
/-- an expression's cells, written out -/
theorem e_cells {A : Nat → Prop} {w : World} {x : Ex} {cs : List Value} (h : Rep.E 82 A w x cs) : ∃ (op kind int : Int) (text table name : B) (args : List Ex) (a : Option Addr) (n c : Nat),
    x = .mk op kind int text table name args ∧ cs = [.int .i64 op, .int .i64 kind, .int .i64 int, .string ⟨text.toArray⟩, .string ⟨table.toArray⟩, .string ⟨name.toArray⟩, .slice a n c] ∧ Rep.Es 82 A w args (.slice a n c) := by
  cases h with
  | mk op kind int text table name args v h =>
    cases h with
    | mk _ _ xs hl hr hb =>
      rcases hr.form with ⟨rfl, h1, h2⟩ | ⟨g, off, cap, rfl, h1⟩
      · exact ⟨op, kind, int, text, table, name, args, none, 0, 0, rfl, rfl, .mk _ _ xs hl hr hb⟩
      · exact ⟨op, kind, int, text, table, name, args, _, _, _, rfl, rfl, .mk _ _ xs hl hr hb⟩
/-- an expression is read -/
def ExO (c : Int → CM.P Ex) (P : Nat) (s : PS) (w : World) (e : Ending) (w' : World) : Prop :=
  ∃ (x : Ex) (s' : PS) (cs : List Value), e = .returned (.agg cs.toArray) ∧ Rep.E 82 (fun b => w.heap.size ≤ b) w' x cs ∧ RR w' P s' ∧ St c s x s' ∧ Dp s s' ∧ Fr [some P] w w'
set_option maxRecDepth 100000 in
set_option maxHeartbeats 2000000 in
/-- down -/
theorem down_any (P : Nat) (s : PS) (w : World) (h : RR w P s) (hw : Wd s) (h0 : s.e = 0) :
    Calls Tryz.prog 164 #[.pointer (some ⟨P, 0, none⟩)] w fun e w' => e = .returned (.bool (decide (s.deep ≠ 64))) ∧ RR w' P (downed s) ∧ Fr [some P] w w' := by
  obtain ⟨g, off, cap, N, n, ha⟩ := h.at
  have c2 := ha.c2
  have c4 := ha.c4
  have f2 := ha.f0 2
  have hlt := ha.lt
  have hd0 := hw.d0
  have hd64 := hw.d64 h0
  have HR0 := Lib.hid h
  have HR := Lib.hid (h.setD (s.deep + 1))
  have HF := Lib.hid ((Fr.refl [some P] w).setCell (p := ⟨P, 2, none⟩) (.inl (by simp)) (.int .i64 (s.deep + 1)))
  clear ha h hw
  go_enter Tryz.func164, Tryz.ntmps164
  by_cases h64 : s.deep = 64
  · have HR := Lib.hid (HR0.out.setD 65)
    have HF := Lib.hid ((Fr.refl [some P] w).setCell (p := ⟨P, 2, none⟩) (.inl (by simp)) (.int .i64 65))
    have HD : Hid (downed s = failed 6 { s with deep := 65 }) := Lib.hid (by unfold downed; rw [if_pos h64, h64]; rfl)
    have hdd : decide (s.deep ≠ 64) = false := by simp [h64]
    rw [hdd]
    clear hdd
    go_wp2_with fail
    refine (fail_any P 6 { s with deep := 65 } _ HR.out).mono ?_
    rintro e w1 ⟨rfl, h1, hf1⟩
    have hx : (failed 6 { s with deep := 65 }).e = 6 := by unfold failed; rw [if_pos (show ({ s with deep := 65 } : PS).e = 0 from h0)]
    obtain ⟨g, off, cap, N, n, ha⟩ := h1.at
    have d4 := ha.c4
    rw [hx] at d4
    have hl1 := ha.lt
    have H1 := Lib.hid h1
    have HF1 := Lib.hid (HF.out.trans hf1)
    clear ha h1 hf1 c2 c4 f2 hx
    go_wp2_with fail
    go_ret
    exact ⟨rfl, by rw [HD.out]; exact H1.out, HF1.out⟩
  · have HD : Hid (downed s = { s with deep := s.deep + 1 }) := Lib.hid (by unfold downed; rw [if_neg h64])
    have hdd : decide (s.deep ≠ 64) = true := by simp [h64]
    have hle : s.deep + 1 ≤ 64 := by omega
    rw [hdd]
    clear hdd
    rw [h0] at c4
    go_wp2_with fail
    go_ret
    exact ⟨rfl, by rw [HD.out]; exact HR.out, HF.out⟩
set_option maxRecDepth 100000 in
set_option maxHeartbeats 2000000 in
theorem two_any (op : Int) (a b : Ex) (ca cb : List Value) (w : World) (A : Nat → Prop) (ha : Rep.E 82 A w a ca) (hb : Rep.E 82 A w b cb) :
    Calls Tryz.prog 137 #[.int .i64 op, .agg ca.toArray, .agg cb.toArray] w fun e w' => ∃ cs : List Value, e = .returned (.agg cs.toArray) ∧ Rep.E 82 (fun g => A g ∨ w.heap.size ≤ g) w' (PM.two op a b) cs ∧ Fr [] w w' := by
  have HA := Lib.hid ha
  have HBB := Lib.hid hb
  obtain ⟨op1, kind1, int1, t1, tb1, n1, l1, a1, m1, c1, rfl, rfl, h1⟩ := e_cells ha
  obtain ⟨op2, kind2, int2, t2, tb2, n2, l2, a2, m2, c2, rfl, rfl, h2⟩ := e_cells hb
  clear ha hb h1 h2
  go_enter Tryz.func137, Tryz.ntmps137
  go_wp2_with fail
  have HW : Hid (Fr [] w (((w.alloc (.cells #[.int .i64 op1, .int .i64 kind1, .int .i64 int1, .string ⟨t1.toArray⟩, .string ⟨tb1.toArray⟩, .string ⟨n1.toArray⟩, .slice a1 m1 c1] 82)).alloc (.cells #[.int .i64 op2, .int .i64 kind2, .int .i64 int2, .string ⟨t2.toArray⟩, .string ⟨tb2.toArray⟩, .string ⟨n2.toArray⟩, .slice a2 m2 c2] 82)).alloc (.cells #[.int .i64 op, .int .i64 0, .int .i64 0, .string ⟨#[]⟩, .string ⟨#[]⟩, .string ⟨#[]⟩, .slice (some ⟨w.heap.size + 1 + 1 + 1, 0, none⟩) 2 2] 82))) := Lib.hid ((((Fr.refl [] w).alloc _).alloc _).alloc _)
  have hb := Blk.new ((w.alloc (.cells #[.int .i64 op1, .int .i64 kind1, .int .i64 int1, .string ⟨t1.toArray⟩, .string ⟨tb1.toArray⟩, .string ⟨n1.toArray⟩, .slice a1 m1 c1] 82)).alloc (.cells #[.int .i64 op2, .int .i64 kind2, .int .i64 int2, .string ⟨t2.toArray⟩, .string ⟨tb2.toArray⟩, .string ⟨n2.toArray⟩, .slice a2 m2 c2] 82)) 82 [.int .i64 op, .int .i64 0, .int .i64 0, .string ⟨#[]⟩, .string ⟨#[]⟩, .string ⟨#[]⟩, .slice (some ⟨w.heap.size + 1 + 1 + 1, 0, none⟩) 2 2]
  rw [World.size_alloc, World.size_alloc] at hb
  refine bodyPost_ret (ret_cell7 rfl _ (w.heap.size + 1 + 1) rfl _ _ _ _ _ _ _ _ (hb.alloc _)) rfl ⟨_, rfl, ?_, HW.out.alloc _⟩
  have hL : Rep.L 82 (fun g => A g ∨ w.heap.size ≤ g) _ [_, _] _ := .cons _ _ _ _ (Rep.E.mono (fun g h => .inl h) (Rep.E.keep HW.out (by simp) HA.out)) (.cons _ _ _ _ (Rep.E.mono (fun g h => .inl h) (Rep.E.keep HW.out (by simp) HBB.out)) .nil)
  have hes := es_mk hL (.inr (by simp; omega)) (by simp [maxLen])
  exact .mk op 0 0 [] [] [] _ _ (by simpa using hes)
set_option maxRecDepth 100000 in
set_option maxHeartbeats 2000000 in
/-- column -/
theorem column_any (P : Nat) (s : PS) (w : World) (h : RR w P s) (hw : Wd s) :
    Calls Tryz.prog 114 #[.pointer (some ⟨P, 0, none⟩)] w (ExO (fun _ => CM.column) P s w) := by
  have hPl := h.lt
  have HR := Lib.hid h
  have HW := Lib.hid hw
  clear h hw
  go_enter Tryz.func114, Tryz.ntmps114
  go_wp2_with fail
  refine (name_any P s _ (HR.out.alloc _)).mono ?_
  rintro e w1 ⟨n, rfl, h1, hst, hf1⟩
  have HB1 := Lib.hid ((Blk.new w 82 z7).keep hf1 (by simp; omega))
  have HF1 : Hid (Fr [some P] w w1) := ((Fr.refl [some P] w).alloc _).trans hf1
  have H1 := Lib.hid h1
  have HST := Lib.hid hst
  have HD1 := Lib.hid (Dp.worded HW.out 1)
  have hl1 := h1.lt
  have hl2 := HB1.out.lt
  obtain ⟨s1, hs1⟩ : ∃ z, worded 1 s = z := ⟨_, rfl⟩
  rw [hs1] at H1 HST HD1
  clear h1 hf1 hst hs1
  go_wp2_with fail
  refine (take_any P [46] s1 _ (H1.out.alloc _)).mono ?_
  rintro e w2 ⟨rfl, h2, hf2⟩
  have HX2 := Lib.hid ((Blk.new w1 82 (colCells [] n)).keep hf2 (by simp; omega))
  have HB2 := Lib.hid ((Blk.alloc HB1.out _).keep hf2 (by simp; omega))
  have HF2 : Hid (Fr [some P] w w2) := (HF1.out.alloc _).trans hf2
  have H2 := Lib.hid h2
  have hs1 := hf2.size
  have hl3 := HX2.out.lt
  have hl4 := HB2.out.lt
  have hl5 := h2.lt
  clear h2 hf2
  have hne1 : ¬ w1.heap.size = w.heap.size := by omega
  have hne2 : ¬ w.heap.size = w1.heap.size := by omega
  obtain ⟨x0, x1, x2, x3, x4, x5, x6, g0, g1, g2, g3, g4, g5, g6⟩ := c7_of HX2.out
  obtain ⟨y0, y1, y2, y3, y4, y5, y6, k0, k1, k2, k3, k4, k5, k6⟩ := c7_of HB2.out
  cases hi : taken [46] s1
  · have HI := Lib.hid hi
    have e1 : took [46] s1 = s1 := by rw [took, hi]; rfl
    rw [e1] at H2
    have HS : Hid (St (fun _ => CM.column) s (colEx [] n) s1) := Lib.hid (St.bnd HST.out (St.opt (fun h => absurd h (by rw [HI.out]; decide)) (fun _ => St.ret _ _)))
    clear hi e1
    go_wp2_with fail
    refine bodyPost_ret (ret_cell7 rfl _ w.heap.size rfl _ _ _ _ _ _ _ _ (blkPut7 HB2.out rfl _ _ _ _ _ _ _)) rfl ⟨colEx [] n, s1, colCells [] n, rfl, col_rep _ _ [] n, H2.out.keepP (frPut7 (Fr.refl [some w.heap.size] _) (.inl (by simp)) _ _ _ _ _ _ _) (fun g hg => by simp; omega), HS.out, HD1.out, frPut7 HF2.out (.inr (Nat.le_refl _)) _ _ _ _ _ _ _⟩
  · have HI := Lib.hid hi
    have e1 : took [46] s1 = skip s1 := by rw [took, hi]; rfl
    rw [e1] at H2
    have H2D : Hid (RR w2.drew P (skip s1)) := H2.out.drew
    have HX2D : Hid (Blk w2.drew w1.heap.size 82 (colCells [] n)) := HX2.out
    have HB2D : Hid (Blk w2.drew w.heap.size 82 z7) := HB2.out
    have HF2D : Hid (Fr [some P] w w2.drew) := HF2.out.drew
    have HLS : Hid (P < w1.heap.size ∧ P < w.heap.size ∧ w.heap.size < w1.heap.size) := ⟨by omega, by omega, by omega⟩
    clear e1 hi y0 y1 y2 y3 y4 y5 y6 k0 k1 k2 k3 k4 k5 k6
    go_wp2_with fail
    go_region_with (
      go_at_call 65
      refine (name_any P (skip s1) _ ?_).mono ?_
      exact H2D.out
      rintro e w3 ⟨m, rfl, h3, hst3, hf3⟩
      have H3 := Lib.hid h3
      have HST3 := Lib.hid hst3
      have HF3 := Lib.hid (HF2D.out.trans hf3)
      have HX3 := Lib.hid (HX2D.out.keep hf3 (by simp; have := HLS.out; omega))
      have HB3 := Lib.hid (HB2D.out.keep hf3 (by simp; have := HLS.out; omega))
      obtain ⟨v0, v1, v2, v3, v4, v5, v6, r0, r1, r2, r3, r4, r5, r6⟩ := c7_of HX3.out
      clear h3 hst3 hf3)
    all_goals
      have hls := HLS.out
      have hs3 := HF3.out.size
      have hl6 := HX3.out.lt
      have hl7 := HB3.out.lt
      obtain ⟨y0, y1, y2, y3, y4, y5, y6, k0, k1, k2, k3, k4, k5, k6⟩ := c7_of HB3.out
      have hp1 : ¬ P = w1.heap.size := by omega
      have hp2 : ¬ P = w.heap.size := by omega
      have HD3 : Hid (Dp s (worded 1 (skip s1))) := Lib.hid (HD1.out.trans ((Dp.skip HD1.out.wd).trans (Dp.worded (Dp.skip HD1.out.wd).wd 1)))
      have HS : Hid (St (fun _ => CM.column) s (colEx n m) (worded 1 (skip s1))) := Lib.hid (St.bnd HST.out (St.opt (fun _ => St.bnd HST3.out (St.ret _ _)) (fun h => absurd h (by rw [HI.out]; decide))))
      go_wp2_with fail
      refine bodyPost_ret (ret_cell7 rfl _ w.heap.size rfl _ _ _ _ _ _ _ _ (blkPut7 ((HB3.out.keep (frSet (P := w1.heap.size) _) (by simp; omega)).keep (frSet (P := w1.heap.size) _) (by simp; omega)) rfl _ _ _ _ _ _ _)) rfl ⟨colEx n m, worded 1 (skip s1), colCells n m, rfl, col_rep _ _ n m, ?_, HS.out, HD3.out, ?_⟩
      · refine ((H3.out.keepP (frSet (P := w1.heap.size) _) (fun g hg => by simp; omega)).keepP (frSet (P := w1.heap.size) _) (fun g hg => by simp; omega)).keepP (frPut7 (Fr.refl [some w.heap.size] _) (.inl (by simp)) _ _ _ _ _ _ _) (fun g hg => by simp; omega)
      · exact frPut7 ((HF3.out.trans' (frSet (P := w1.heap.size) _) (fun i hi => .inr (by simp at hi; omega))).trans' (frSet (P := w1.heap.size) _) (fun i hi => .inr (by simp at hi; omega))) (.inr (Nat.le_refl _)) _ _ _ _ _ _ _
end Rf
end Go.Proofs.YtmdnhinpaflamaaGreatDoor
