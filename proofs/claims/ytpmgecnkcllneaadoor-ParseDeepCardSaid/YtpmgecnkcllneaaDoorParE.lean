/- parse: nests. -/
import Derived.Test.YtpmgecnkcllneaaDoorParD
namespace Go.Proofs.YtpmgecnkcllneaaDoor
open Go.RowKit

namespace Px
open LexM (Tok)
open PM (PS B Ex)

theorem fails_deep (x : Int) (s : PS) : (PM.fails x s).deep = s.deep := by unfold PM.fails; split <;> rfl
theorem need_deep (w : B) (s : PS) : (PM.need w s).deep = s.deep := by
  unfold PM.need
  split
  · rfl
  · exact fails_deep 5 s
theorem needs_deep (l : List B) (s : PS) : (PM.needs l s).deep = s.deep := by
  induction l generalizing s with
  | nil => rfl
  | cons a r ih => rw [PM.needs, ih, need_deep]
/-- an expression's seven cells, written out -/
theorem ex_cells {b : Nat} {w : World} {e : Ending} {x : Ex} (h : ExR b w e x) : ∃ (op kind int : Int) (t tb n : B) (a : Option Addr) (len cap : Nat), e = .returned (.agg #[.int .i64 op, .int .i64 kind, .int .i64 int, .string ⟨t.toArray⟩, .string ⟨tb.toArray⟩, .string ⟨n.toArray⟩, .slice a len cap]) ∧
    Rep.E 40 (fun g => b ≤ g) w x [.int .i64 op, .int .i64 kind, .int .i64 int, .string ⟨t.toArray⟩, .string ⟨tb.toArray⟩, .string ⟨n.toArray⟩, .slice a len cap] := by
  obtain ⟨cs, rfl, hr⟩ := h
  have hr' := hr
  cases hr with
  | mk op kind int t tb n args v hv =>
    obtain ⟨a, len, cap, rfl⟩ : ∃ a len cap, v = .slice a len cap := by
      cases hv with
      | mk _ _ xs h1 h2 h3 =>
        rcases h2.form with ⟨rfl, _, _⟩ | ⟨g, off, cap, rfl, _, _⟩
        · exact ⟨_, _, _, rfl⟩
        · exact ⟨_, _, _, rfl⟩
    exact ⟨op, kind, int, t, tb, n, a, len, cap, rfl, hr'⟩

/-- what a reader of an expression does, where its words are fewer than so many -/
def Reads (P g : Nat) (w : World) (k : Nat) (args : Array Value) (n : Nat) (f : PS → Ex × PS) : Prop :=
  ∀ (w' : World) (s : PS), Fr [some P] w w' → PR w' P g s → s.l.length ≤ n → 0 ≤ s.deep → s.deep ≤ 64 →
    Calls Tryd.prog k args w' fun e w'' => ExR w'.heap.size w'' e (f s).1 ∧ PR w'' P g (f s).2 ∧ Fr [some P] w' w''

set_option maxRecDepth 100000 in
set_option maxHeartbeats 1000000 in
theorem nests_any (P g : Nat) (s : PS) (sg : B) (k : Nat) (fst cap : Array Value) (n : Nat) (f : PS → Ex × PS) (w : World) (h : PR w P g s) (h0 : 0 ≤ s.deep) (h64 : s.deep ≤ 64)
    (hrun : ∀ w : World, Sem.run Tryd.prog (callFunc k (fst ++ cap)) w = .ok (.enter k (fst ++ cap)) w) (hf : Reads P g w k (fst ++ cap) n f) (hn : (PM.needs [sg] s).l.length ≤ n) (hdp : ∀ s, (f s).2.deep = s.deep) :
    Calls Tryd.prog 75 #[.pointer (some ⟨P, 0, none⟩), .string ⟨sg.toArray⟩, .func (.func k) fst cap] w fun e w' => ExR w.heap.size w' e (PM.nests sg f s).1 ∧ PR w' P g (PM.nests sg f s).2 ∧ Fr [some P] w w' := by
  have hPl := h.lt
  have hgP := h.ne
  obtain ⟨off, cp, hat⟩ := h.at
  obtain ⟨c0, c1, c2, c3, f0, f1, f2, f3, t0, t1, t2, t3, hcap, hpos, hlim⟩ := hat
  have HP := Lib.hid h
  have HRUN := Lib.hid hrun
  have HREAD := Lib.hid hf
  have HN := Lib.hid hn
  have HDP := Lib.hid hdp
  have HBZ : Hid (∀ o : Obj, Blk ((w.alloc (.cells z7.toArray 40)).alloc o) w.heap.size 40 z7) := fun o => Blk.alloc (Blk.new w 40 z7) o
  clear h hrun hf hn hdp c0 c2 c3 f0 f2 f3 t0 t1 t2 t3
  obtain ⟨d, hd⟩ : ∃ d, s.deep = d := ⟨_, rfl⟩
  rw [hd] at c1 h0 h64
  have HD := Lib.hid hd
  clear hd
  by_cases hd : d = 64
  · have hdb : (d == 64) = true := by rw [hd]; rfl
    have hm : PM.nests sg f s = (PM.Ex.zero, PM.fails 6 s) := by rw [PM.nests, if_pos (HD.out.trans hd)]
    have HM := Lib.hid hm
    clear hm hd
    go_enter Tryd.func75, Tryd.ntmps75
    go_wp2_with fail
    refine (fails_any P g s 6 _ (HP.out.alloc (.cells z7.toArray 40))).mono ?_
    rintro e w1 ⟨rfl, h1, hf1⟩
    have HB1 := Lib.hid ((Blk.new w 40 z7).keep hf1 (by simp; omega))
    have HF1 : Hid (Fr [some P] w w1) := ((Fr.refl [some P] w).alloc _).trans hf1
    have H1 := Lib.hid h1
    obtain ⟨y0, y1, y2, y3, y4, y5, y6, k0, k1, k2, k3, k4, k5, k6⟩ := c7_of HB1.out
    clear h1 hf1
    go_wp2_with fail
    refine bodyPost_ret (ret_cell7 rfl _ w.heap.size rfl _ _ _ _ _ _ _ _ (blkPut7 HB1.out rfl _ _ _ _ _ _ _)) rfl ⟨?_, ?_, frPut7 HF1.out (.inr (Nat.le_refl _)) _ _ _ _ _ _ _⟩
    all_goals rw [HM.out]
    · exact ⟨z7, rfl, .mk 0 0 0 [] [] [] [] _ Rep.Es.nil⟩
    · exact H1.out.keep (frPut7 (Fr.refl [some w.heap.size] _) (.inl (by simp)) _ _ _ _ _ _ _) (by simp; omega) (by simp; omega)
  · have hdb : (d == 64) = false := by simp [hd]
    have h63 : d ≤ 63 := by omega
    have HM : Hid (PM.nests sg f s = ((f { PM.needs [sg] s with deep := d + 1 }).1, { (f { PM.needs [sg] s with deep := d + 1 }).2 with deep := d })) := by
      rw [Hid, PM.nests, if_neg (by rw [HD.out]; exact hd)]
      simp only [needs_deep, HD.out]
      rw [HDP.out]
      simp only [Int.add_sub_cancel]
    have HST : Hid (Strs ((w.alloc (.cells z7.toArray 40)).alloc (.cells #[.string ⟨sg.toArray⟩] 9)) (w.heap.size + 1) 0 [sg]) := by
      intro j hj
      obtain rfl : j = 0 := by simp at hj; omega
      have := (Blk.new (w.alloc (.cells z7.toArray 40)) 9 [.string ⟨sg.toArray⟩]).cell 0
      rw [show (w.alloc (.cells z7.toArray 40)).heap.size = w.heap.size + 1 by simp] at this
      exact this
    have HW : Hid (PR ((w.alloc (.cells z7.toArray 40)).alloc (.cells #[.string ⟨sg.toArray⟩] 9)) P g s) := (HP.out.alloc _).alloc _
    have HND := Lib.hid (needs_any P g s [sg] (w.heap.size + 1) 0 1 _ HW.out (by simp) HST.out (by omega) (by simp))
    clear hd
    go_enter Tryd.func75, Tryd.ntmps75
    go_wp2_with fail
    refine HND.out.mono ?_
    rintro e w1 ⟨rfl, h1, hf1⟩
    have hsd : (PM.needs [sg] s).deep = d := (needs_deep _ _).trans HD.out
    obtain ⟨s1, hs1⟩ : ∃ s1, PM.needs [sg] s = s1 := ⟨_, rfl⟩
    rw [hs1] at h1 HM hsd HN
    have HB1 := Lib.hid ((HBZ.out (.cells #[.string ⟨sg.toArray⟩] 9)).keep hf1 (by simp; omega))
    have HF1 : Hid (Fr [some P] w w1) := (((Fr.refl [some P] w).alloc _).alloc _).trans hf1
    obtain ⟨off1, cp1, hat1⟩ := h1.at
    obtain ⟨d0, d1, d2, d3, g0, g1, g2, g3, -, -, -, -, -, -, -⟩ := hat1
    have H1 := Lib.hid h1
    rw [hsd] at d1
    clear h1 hf1 hs1 d0 d2 d3 g0 g2 g3 HND HST HW
    have H2 : Hid (PR (w1.setCell ⟨P, 1, none⟩ (.int .i64 (d + 1))) P g { s1 with deep := d + 1 }) := H1.out.setDeep (d + 1)
    have HF2 : Hid (Fr [some P] w (w1.setCell ⟨P, 1, none⟩ (.int .i64 (d + 1)))) := HF1.out.trans (frSet _)
    have HB2 : Hid (Blk (w1.setCell ⟨P, 1, none⟩ (.int .i64 (d + 1))) w.heap.size 40 z7) := HB1.out.keep (frSet (P := P) _) (by simp; omega)
    have HCALL := Lib.hid (HREAD.out _ _ HF2.out H2.out HN.out (by show 0 ≤ d + 1; omega) (by show d + 1 ≤ 64; omega))
    go_wp2_with fail
    rw [HRUN.out, Oper.upon_enter]
    refine HCALL.out.mono ?_
    rintro e w3 ⟨hx, h3, hf3⟩
    obtain ⟨op, kind, int, t, tb, nm, va, vl, vc, rfl, hrep⟩ := ex_cells hx
    have HREP := Lib.hid hrep
    have hd3 : (f { s1 with deep := d + 1 }).2.deep = d + 1 := HDP.out _
    obtain ⟨y, s3, hy⟩ : ∃ y s3, f { s1 with deep := d + 1 } = (y, s3) := ⟨_, _, rfl⟩
    rw [hy] at h3 HREP HM hd3
    obtain ⟨off3, cp3, hat3⟩ := h3.at
    obtain ⟨d0, d1', d2, d3, g0, g1', g2, g3, -, -, -, -, -, -, -⟩ := hat3
    simp only [] at hd3
    rw [hd3] at d1'
    have HB3 := Lib.hid (HB2.out.keep hf3 (by simp; omega))
    have HF3 : Hid (Fr [some P] w w3) := HF2.out.trans hf3
    have H3 := Lib.hid h3
    have hl3 := h3.lt
    have hl4 := HB3.out.lt
    clear hx h3 hf3 hrep hy d0 d2 d3 g0 g2 g3 d1 g1 HCALL
    have hq1 : ¬ P = w3.heap.size := by omega
    have hq2 : ¬ w3.heap.size = P := by omega
    have hq3 : ¬ w.heap.size = w3.heap.size := by omega
    have hq4 : ¬ w3.heap.size = w.heap.size := by omega
    have hq5 : ¬ P = w.heap.size := by omega
    have hq6 : ¬ w.heap.size = P := by omega
    obtain ⟨y0, y1, y2, y3, y4, y5, y6, k0, k1, k2, k3, k4, k5, k6⟩ := c7_of HB3.out
    have hsz2 : w.heap.size + 1 ≤ (w1.setCell ⟨P, 1, none⟩ (.int .i64 (d + 1))).heap.size := by
      have := HB2.out.lt
      omega
    have HSZ := Lib.hid hsz2
    have HPL := Lib.hid hPl
    clear hsz2
    go_wp2_with fail
    refine bodyPost_ret (ret_cell7 rfl _ w.heap.size rfl _ _ _ _ _ _ _ _ (Blk.alloc (blkPut7 (HB3.out.keep (frSet (P := P) _) (by simp; omega)) rfl _ _ _ _ _ _ _) _)) rfl ⟨?_, ?_, ?_⟩
    · rw [HM.out]
      have hfr : Fr [some P, some w.heap.size] w3 ((put7 (w3.setCell ⟨P, 1, none⟩ (.int .i64 d)) w.heap.size (.int .i64 op) (.int .i64 kind) (.int .i64 int) (.string ⟨t.toArray⟩) (.string ⟨tb.toArray⟩) (.string ⟨nm.toArray⟩) (.slice va vl vc)).alloc (.cells #[.int .i64 op, .int .i64 kind, .int .i64 int, .string ⟨t.toArray⟩, .string ⟨tb.toArray⟩, .string ⟨nm.toArray⟩, .slice va vl vc] 40)) :=
        (frPut7 ((Fr.refl [some P, some w.heap.size] w3).setCell (p := ⟨P, 1, none⟩) (.inl (by simp)) _) (.inl (by simp)) _ _ _ _ _ _ _).alloc _
      refine ⟨_, rfl, ?_⟩
      refine Rep.E.mono (fun g hg => Nat.le_trans (Nat.le_of_succ_le HSZ.out) hg) (Rep.E.keep hfr (fun g hg => ?_) HREP.out)
      have h1 := HSZ.out
      have h2 := HPL.out
      simp
      omega
    · rw [HM.out]
      exact ((H3.out.setDeep d).keep (frPut7 (Fr.refl [some w.heap.size] _) (.inl (by simp)) _ _ _ _ _ _ _) (by simp; omega) (by simp; omega)).alloc _
    · exact (frPut7 (HF3.out.trans (frSet _)) (.inr (Nat.le_refl _)) _ _ _ _ _ _ _).alloc _
end Px
end Go.Proofs.YtpmgecnkcllneaaDoor
