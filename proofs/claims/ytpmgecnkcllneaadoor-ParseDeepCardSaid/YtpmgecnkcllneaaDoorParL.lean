/- parse: not, unary; how deep they go. -/
import Derived.Test.YtpmgecnkcllneaaDoorParK
namespace Go.Proofs.YtpmgecnkcllneaaDoor
open Go.RowKit
namespace Px
open PM (PS B Ex)
open Lx (tokV tokA)

/-- the end of a function that hands on an expression: it is laid into the result's block -/
theorem ex_end {w w1 w2 : World} {P g R : Nat} {s : PS} {x : Ex} {cs : List Value} (hf : Fr [some P] w w1) (hf2 : Fr [some R] w1 w2) (hR : w.heap.size ≤ R) (hp : PR w1 P g s) (hPR : P ≠ R) (hgR : g ≠ R) (hx : Rep.E 40 (fun b => R < b) w1 x cs) :
    ExR w.heap.size w2 (.returned (.agg cs.toArray)) x ∧ PR w2 P g s ∧ Fr [some P] w w2 :=
  ⟨⟨cs, rfl, Rep.E.mono (fun b hb => by omega) (Rep.E.keep hf2 (fun b hb => by simp; omega) hx)⟩, hp.keep hf2 (by simp; omega) (by simp; omega), hf.trans' hf2 (fun i hi => .inr (by simp at hi; omega))⟩

set_option maxRecDepth 100000 in
set_option maxHeartbeats 2000000 in
theorem not_any (n : Nat) (u nt : PS → Ex × PS) (hc : ∀ P g w, Reads P g w 74 #[.pointer (some ⟨P, 0, none⟩)] (n + 1) (PM.compF u)) (hg : PM.Good nt) (hr : ∀ P g w, Reads P g w 68 #[.pointer (some ⟨P, 0, none⟩)] n nt) (P g : Nat) (w0 : World) :
    Reads P g w0 68 #[.pointer (some ⟨P, 0, none⟩)] (n + 1) (PM.notF u nt) := by
  intro w s _ h hn h0 h64
  have hPl := h.lt
  have hgP := h.ne
  have HP : Hid (PR ((w.alloc (.cells #[.pointer (some ⟨P, 0, none⟩)] 62)).alloc (.cells z7.toArray 40)) P g s) := Lib.hid ((h.alloc _).alloc _)
  have HF0 : Hid (Fr [some P] w ((w.alloc (.cells #[.pointer (some ⟨P, 0, none⟩)] 62)).alloc (.cells z7.toArray 40))) := Lib.hid (((Fr.refl [some P] w).alloc _).alloc _)
  have HBX : Hid (Box ((w.alloc (.cells #[.pointer (some ⟨P, 0, none⟩)] 62)).alloc (.cells z7.toArray 40)) P w.heap.size) :=
    Lib.hid ⟨(Blk.alloc (Blk.new w 62 [.pointer (some ⟨P, 0, none⟩)]) (.cells z7.toArray 40)).cell 0, by simp; omega, by omega⟩
  have HB : Hid (Blk ((w.alloc (.cells #[.pointer (some ⟨P, 0, none⟩)] 62)).alloc (.cells z7.toArray 40)) (w.heap.size + 1) 40 z7) :=
    Lib.hid (by have := Blk.new (w.alloc (.cells #[.pointer (some ⟨P, 0, none⟩)] 62)) 40 z7; rwa [World.size_alloc] at this)
  have HG := Lib.hid hg
  have HR := Lib.hid hr
  have HC := Lib.hid hc
  clear h hg hr hc
  go_enter Tryd.func68, Tryd.ntmps68
  go_wp2_with fail
  refine (is_any P g s [110, 111, 116] _ HP.out).mono ?_
  rintro e w1 ⟨rfl, h1, hf1⟩
  have H1 := Lib.hid h1
  have hbx := (HBX.out.keep (hf1.mono (by simp))).cell
  have HBX1 := Lib.hid (HBX.out.keep (hf1.mono (by simp)))
  have HB1 := Lib.hid (HB.out.keep hf1 (by simp))
  have HF1 : Hid (Fr [some P] w w1) := Lib.hid (HF0.out.trans' hf1 (by simp))
  have hl1 := HB1.out.lt
  have hs1 := hf1.size
  simp only [World.size_alloc] at hs1
  clear h1 hf1
  cases hi : PM.is [110, 111, 116] s
  · have HM : Hid (PM.notF u nt s = PM.compF u s) := Lib.hid (by rw [PM.notF, if_neg (by rw [hi]; decide)])
    have HC1 := Lib.hid (HC.out P g w1 w1 s (Fr.refl _ _) H1.out hn h0 h64)
    clear hi
    go_wp2_with fail
    refine HC1.out.mono ?_
    rintro e w2 ⟨hx, h2, hf2⟩
    obtain ⟨op, kind, int, t, tb, nm, va, vl, vc, rfl, hrep⟩ := ex_cells hx
    have HREP := Lib.hid hrep
    have H2 := Lib.hid h2
    have HB2 := Lib.hid (HB1.out.keep hf2 (by simp; omega))
    have HF2 := Lib.hid (HF1.out.trans hf2)
    obtain ⟨y0, y1, y2, y3, y4, y5, y6, k0, k1, k2, k3, k4, k5, k6⟩ := c7_of HB2.out
    clear hx h2 hf2 hrep hbx
    go_wp2_with fail
    refine bodyPost_ret (ret_cell7 rfl _ (w.heap.size + 1) rfl _ _ _ _ _ _ _ _ (blkPut7 HB2.out rfl _ _ _ _ _ _ _)) rfl ?_
    rw [HM.out]
    exact ex_end HF2.out (frPut7 (Fr.refl [some (w.heap.size + 1)] _) (.inl (by simp)) _ _ _ _ _ _ _) (by omega) H2.out (by omega) (by omega) (Rep.E.mono (fun b hb => by omega) HREP.out)
  · have HM : Hid (PM.notF u nt s = PM.nests [110, 111, 116] (fun s => (PM.un 4 (nt s).1, (nt s).2)) s) := Lib.hid (by rw [PM.notF, if_pos hi])
    have hk6 := is_kind hi
    have hnd : (PM.needs [[110, 111, 116]] s).l.length ≤ n := by
      rw [PM.needs, PM.needs, PM.need, if_pos hi]
      simp [PM.skip]
      omega
    have HC1 := Lib.hid (nests_any P g s [110, 111, 116] 76 #[] #[.pointer (some ⟨w.heap.size, 0, none⟩)] n (fun s => (PM.un 4 (nt s).1, (nt s).2)) w1 H1.out h0 h64 (fun w => by kernel_rfl) (not1_any n nt HR.out P g w.heap.size w1 HBX1.out) hnd (fun s => (HG.out s).1))
    clear hi hk6 hnd
    go_wp2_with fail
    refine HC1.out.mono ?_
    rintro e w2 ⟨hx, h2, hf2⟩
    obtain ⟨op, kind, int, t, tb, nm, va, vl, vc, rfl, hrep⟩ := ex_cells hx
    have HREP := Lib.hid hrep
    have H2 := Lib.hid h2
    have HB2 := Lib.hid (HB1.out.keep hf2 (by simp; omega))
    have HF2 := Lib.hid (HF1.out.trans hf2)
    obtain ⟨y0, y1, y2, y3, y4, y5, y6, k0, k1, k2, k3, k4, k5, k6⟩ := c7_of HB2.out
    clear hx h2 hf2 hrep hbx
    go_wp2_with fail
    refine bodyPost_ret (ret_cell7 rfl _ (w.heap.size + 1) rfl _ _ _ _ _ _ _ _ (blkPut7 HB2.out rfl _ _ _ _ _ _ _)) rfl ?_
    rw [HM.out]
    exact ex_end HF2.out (frPut7 (Fr.refl [some (w.heap.size + 1)] _) (.inl (by simp)) _ _ _ _ _ _ _) (by omega) H2.out (by omega) (by omega) (Rep.E.mono (fun b hb => by omega) HREP.out)

set_option maxRecDepth 100000 in
set_option maxHeartbeats 4000000 in
theorem unary_any (n : Nat) (u nt : PS → Ex × PS) (hgu : PM.Good u) (hu : ∀ P g w, Reads P g w 92 #[.pointer (some ⟨P, 0, none⟩)] n u) (hge : PM.Good (PM.exprF nt)) (he : ∀ P g w, Reads P g w 35 #[.pointer (some ⟨P, 0, none⟩)] n (PM.exprF nt)) (P g : Nat) (w0 : World) :
    Reads P g w0 92 #[.pointer (some ⟨P, 0, none⟩)] (n + 1) (PM.unaryF u nt) := by
  intro w s _ h hn h0 h64
  have hPl := h.lt
  have hgP := h.ne
  obtain ⟨tk, htk⟩ : ∃ tk, s.now = tk := ⟨_, rfl⟩
  have HT := Lib.hid htk
  have HP : Hid (PR (((w.alloc (.cells #[.pointer (some ⟨P, 0, none⟩)] 62)).alloc (.cells z7.toArray 40)).alloc (.cells (Lx.tokC tk).toArray 67)) P g s) := Lib.hid (((h.alloc _).alloc _).alloc _)
  have HF0 : Hid (Fr [some P] w (((w.alloc (.cells #[.pointer (some ⟨P, 0, none⟩)] 62)).alloc (.cells z7.toArray 40)).alloc (.cells (Lx.tokC tk).toArray 67))) := Lib.hid ((((Fr.refl [some P] w).alloc _).alloc _).alloc _)
  have HBX : Hid (Box (((w.alloc (.cells #[.pointer (some ⟨P, 0, none⟩)] 62)).alloc (.cells z7.toArray 40)).alloc (.cells (Lx.tokC tk).toArray 67)) P w.heap.size) :=
    Lib.hid ⟨(Blk.alloc (Blk.alloc (Blk.new w 62 [.pointer (some ⟨P, 0, none⟩)]) (.cells z7.toArray 40)) _).cell 0, by simp; omega, by omega⟩
  have HB : Hid (Blk (((w.alloc (.cells #[.pointer (some ⟨P, 0, none⟩)] 62)).alloc (.cells z7.toArray 40)).alloc (.cells (Lx.tokC tk).toArray 67)) (w.heap.size + 1) 40 z7) :=
    Lib.hid (Blk.alloc (by have := Blk.new (w.alloc (.cells #[.pointer (some ⟨P, 0, none⟩)] 62)) 40 z7; rwa [World.size_alloc] at this) _)
  have HK : Hid (Blk (((w.alloc (.cells #[.pointer (some ⟨P, 0, none⟩)] 62)).alloc (.cells z7.toArray 40)).alloc (.cells (Lx.tokC tk).toArray 67)) (w.heap.size + 1 + 1) 67 (Lx.tokC tk)) :=
    Lib.hid (by have := Blk.new ((w.alloc (.cells #[.pointer (some ⟨P, 0, none⟩)] 62)).alloc (.cells z7.toArray 40)) 67 (Lx.tokC tk); rwa [World.size_alloc, World.size_alloc] at this)
  obtain ⟨off, cap, hat⟩ := h.at
  obtain ⟨c0, c1, c2, c3, f0, f1, f2, f3, t0, t1, t2, t3, hcap, hpos, hlim⟩ := hat
  rw [htk] at t0 t1 t2 t3
  have hpi : (0 : Int) < (s.l.length : Int) := by omega
  have hgl : g < w.heap.size := by omega
  have HGU := Lib.hid hgu
  have HU := Lib.hid hu
  have HGE := Lib.hid hge
  have HE := Lib.hid he
  clear h hgu hu hge he htk c1 c2 c3 f0 f1 f2 f3
  go_enter Tryd.func92, Tryd.ntmps92
  go_wp2_with fail
  refine (is_any P g s [45] _ HP.out).mono ?_
  rintro e w1 ⟨rfl, h1, hf1⟩
  have H1 := Lib.hid h1
  have hbx := (HBX.out.keep (hf1.mono (by simp))).cell
  have HBX1 := Lib.hid (HBX.out.keep (hf1.mono (by simp)))
  have HB1 := Lib.hid (HB.out.keep hf1 (by simp))
  have HK1 := Lib.hid (HK.out.keep hf1 (by simp))
  have HF1 : Hid (Fr [some P] w w1) := Lib.hid (HF0.out.trans' hf1 (by simp))
  have hl1 := HB1.out.lt
  have hs1 := hf1.size
  simp only [World.size_alloc] at hs1
  clear h1 hf1 c0 t0 t1 t2 t3 hcap hpos hlim hpi
  cases hi : PM.is [45] s
  case true =>
    have HM : Hid (PM.unaryF u nt s = PM.nests [45] (fun s => (PM.un 3 (u s).1, (u s).2)) s) := Lib.hid (by rw [PM.unaryF, if_pos hi])
    have hk6 := is_kind hi
    have hnd : (PM.needs [[45]] s).l.length ≤ n := by
      rw [PM.needs, PM.needs, PM.need, if_pos hi]
      simp [PM.skip]
      omega
    have HC1 := Lib.hid (nests_any P g s [45] 94 #[] #[.pointer (some ⟨w.heap.size, 0, none⟩)] n (fun s => (PM.un 3 (u s).1, (u s).2)) w1 H1.out h0 h64 (fun w => by kernel_rfl) (unary1_any n u HU.out P g w.heap.size w1 HBX1.out) hnd (fun s => (HGU.out s).1))
    clear hi hk6 hnd
    go_wp2_with fail
    refine HC1.out.mono ?_
    rintro e w2 ⟨hx, h2, hf2⟩
    obtain ⟨op, kind, int, t, tb, nm, va, vl, vc, rfl, hrep⟩ := ex_cells hx
    have HREP := Lib.hid hrep
    have H2 := Lib.hid h2
    have HB2 := Lib.hid (HB1.out.keep hf2 (by simp; omega))
    have HF2 := Lib.hid (HF1.out.trans hf2)
    obtain ⟨y0, y1, y2, y3, y4, y5, y6, k0, k1, k2, k3, k4, k5, k6⟩ := c7_of HB2.out
    clear hx h2 hf2 hrep hbx
    go_wp2_with fail
    refine bodyPost_ret (ret_cell7 rfl _ (w.heap.size + 1) rfl _ _ _ _ _ _ _ _ (blkPut7 HB2.out rfl _ _ _ _ _ _ _)) rfl ?_
    rw [HM.out]
    exact ex_end HF2.out (frPut7 (Fr.refl [some (w.heap.size + 1)] _) (.inl (by simp)) _ _ _ _ _ _ _) (by omega) H2.out (by omega) (by omega) (Rep.E.mono (fun b hb => by omega) HREP.out)
  case false =>
    have HI1 := Lib.hid hi
    clear hi
    go_wp2_with fail
    refine (is_any P g s [40] _ H1.out).mono ?_
    rintro e w1' ⟨rfl, h1, hf1⟩
    have H1' := Lib.hid h1
    have hbx' := (HBX1.out.keep (hf1.mono (by simp))).cell
    have HBX1' := Lib.hid (HBX1.out.keep (hf1.mono (by simp)))
    have HB1' := Lib.hid (HB1.out.keep hf1 (by simp))
    have HK1' := Lib.hid (HK1.out.keep hf1 (by simp))
    have HF1' : Hid (Fr [some P] w w1') := Lib.hid (HF1.out.trans' hf1 (by simp))
    have hl1' := HB1'.out.lt
    clear h1 hf1 hbx H1 HBX1 HB1 HK1 HF1 hl1 hs1
    cases hi : PM.is [40] s
    case true =>
      have HM : Hid (PM.unaryF u nt s = PM.nests [40] (fun s => ((PM.exprF nt s).1, PM.needs [[41]] (PM.exprF nt s).2)) s) := Lib.hid (by rw [PM.unaryF, if_neg (by rw [HI1.out]; decide), if_pos hi])
      have hk6 := is_kind hi
      have hnd : (PM.needs [[40]] s).l.length ≤ n := by
        rw [PM.needs, PM.needs, PM.need, if_pos hi]
        simp [PM.skip]
        omega
      have HC1 := Lib.hid (nests_any P g s [40] 95 #[] #[.pointer (some ⟨w.heap.size, 0, none⟩)] n (fun s => ((PM.exprF nt s).1, PM.needs [[41]] (PM.exprF nt s).2)) w1' H1'.out h0 h64 (fun w => by kernel_rfl) (unary2_any n (PM.exprF nt) HE.out P g w.heap.size w1' HBX1'.out) hnd (fun s => (PM.calm_needs [[41]] _).1.trans (HGE.out s).1))
      clear hi hk6 hnd
      go_wp2_with fail
      refine HC1.out.mono ?_
      rintro e w2 ⟨hx, h2, hf2⟩
      obtain ⟨op, kind, int, t, tb, nm, va, vl, vc, rfl, hrep⟩ := ex_cells hx
      have HREP := Lib.hid hrep
      have H2 := Lib.hid h2
      have HB2 := Lib.hid (HB1'.out.keep hf2 (by simp; omega))
      have HF2 := Lib.hid (HF1'.out.trans hf2)
      obtain ⟨y0, y1, y2, y3, y4, y5, y6, k0, k1, k2, k3, k4, k5, k6⟩ := c7_of HB2.out
      clear hx h2 hf2 hrep hbx'
      go_wp2_with fail
      refine bodyPost_ret (ret_cell7 rfl _ (w.heap.size + 1) rfl _ _ _ _ _ _ _ _ (blkPut7 HB2.out rfl _ _ _ _ _ _ _)) rfl ?_
      rw [HM.out]
      exact ex_end HF2.out (frPut7 (Fr.refl [some (w.heap.size + 1)] _) (.inl (by simp)) _ _ _ _ _ _ _) (by omega) H2.out (by omega) (by omega) (Rep.E.mono (fun b hb => by omega) HREP.out)
    case false =>
      have HI2 := Lib.hid hi
      clear hi
      have b0 : w1'.cell? ⟨w.heap.size + 1 + 1, 0, none⟩ = some (.int .i64 tk.kind) := HK1'.out.cell 0
      by_cases hk3 : tk.kind = 3
      · have hk3b : (tk.kind == 3) = true := by rw [hk3]; rfl
        obtain ⟨⟨tw, s2⟩, hws⟩ : ∃ r, PM.word 3 s = r := ⟨_, rfl⟩
        have HM : Hid (PM.unaryF u nt s = (.mk 1 1 tw.int [] [] [] [], s2)) := Lib.hid (by rw [PM.unaryF, if_neg (by rw [HI1.out]; decide), if_neg (by rw [HI2.out]; decide), if_pos (by rw [HT.out]; exact hk3), hws])
        have HWS := Lib.hid hws
        clear hk3 hws
        go_wp2_with fail
        refine (word_any P g s 3 (by decide) w1' H1'.out).mono ?_
        rintro e w2 ⟨rfl, h2, hf2⟩
        rw [HWS.out] at h2 ⊢
        have H2 := Lib.hid h2
        have HB2 := Lib.hid (HB1'.out.keep hf2 (by simp; omega))
        have HF2 := Lib.hid (HF1'.out.trans hf2)
        simp only [tokV, tokA]
        have hfd := fun w => field_int tw.kind tw.int tw.pos ⟨tw.text.toArray⟩ w
        obtain ⟨y0, y1, y2, y3, y4, y5, y6, k0, k1, k2, k3, k4, k5, k6⟩ := c7_of HB2.out
        clear h2 hf2 hbx' hk3b
        go_wp2_with fail
        refine bodyPost_ret (ret_cell7 rfl _ (w.heap.size + 1) rfl _ _ _ _ _ _ _ _ (blkPut7 HB2.out rfl _ _ _ _ _ _ _)) rfl ?_
        rw [HM.out]
        exact ex_end HF2.out (frPut7 (Fr.refl [some (w.heap.size + 1)] _) (.inl (by simp)) _ _ _ _ _ _ _) (by omega) H2.out (by omega) (by omega) (.mk 1 1 tw.int [] [] [] [] _ Rep.Es.nil)
      · have hk3b : (tk.kind == 3) = false := by simp [hk3]
        have HK3 := Lib.hid hk3
        clear hk3
        by_cases hk4 : tk.kind = 4
        · have hk4b : (tk.kind == 4) = true := by rw [hk4]; rfl
          obtain ⟨⟨tw, s2⟩, hws⟩ : ∃ r, PM.word 4 s = r := ⟨_, rfl⟩
          have HM : Hid (PM.unaryF u nt s = (.mk 1 2 0 tw.text [] [] [], s2)) := Lib.hid (by rw [PM.unaryF, if_neg (by rw [HI1.out]; decide), if_neg (by rw [HI2.out]; decide), if_neg (by rw [HT.out]; exact HK3.out), if_pos (by rw [HT.out]; exact hk4), hws])
          have HWS := Lib.hid hws
          clear hk4 hws
          go_wp2_with fail
          refine (word_any P g s 4 (by decide) w1' H1'.out).mono ?_
          rintro e w2 ⟨rfl, h2, hf2⟩
          rw [HWS.out] at h2 ⊢
          have H2 := Lib.hid h2
          have HB2 := Lib.hid (HB1'.out.keep hf2 (by simp; omega))
          have HF2 := Lib.hid (HF1'.out.trans hf2)
          simp only [tokV, tokA]
          have hfd := fun w => field_text tw.kind tw.int tw.pos ⟨tw.text.toArray⟩ w
          obtain ⟨y0, y1, y2, y3, y4, y5, y6, k0, k1, k2, k3, k4, k5, k6⟩ := c7_of HB2.out
          clear h2 hf2 hbx' hk3b hk4b
          go_wp2_with fail
          refine bodyPost_ret (ret_cell7 rfl _ (w.heap.size + 1) rfl _ _ _ _ _ _ _ _ (blkPut7 HB2.out rfl _ _ _ _ _ _ _)) rfl ?_
          rw [HM.out]
          exact ex_end HF2.out (frPut7 (Fr.refl [some (w.heap.size + 1)] _) (.inl (by simp)) _ _ _ _ _ _ _) (by omega) H2.out (by omega) (by omega) (.mk 1 2 0 tw.text [] [] [] _ Rep.Es.nil)
        · have hk4b : (tk.kind == 4) = false := by simp [hk4]
          have HM : Hid (PM.unaryF u nt s = PM.column s) := Lib.hid (by rw [PM.unaryF, if_neg (by rw [HI1.out]; decide), if_neg (by rw [HI2.out]; decide), if_neg (by rw [HT.out]; exact HK3.out), if_neg (by rw [HT.out]; exact hk4)])
          clear hk4
          go_wp2_with fail
          refine (column_any P g w1'.heap.size s w1' H1'.out).mono ?_
          rintro e w2 ⟨hx, h2, hf2⟩
          obtain ⟨op, kind, int, t, tb, nm, va, vl, vc, rfl, hrep⟩ := ex_cells hx
          have HREP := Lib.hid hrep
          have H2 := Lib.hid h2
          have HB2 := Lib.hid (HB1'.out.keep hf2 (by simp; omega))
          have HF2 := Lib.hid (HF1'.out.trans hf2)
          obtain ⟨y0, y1, y2, y3, y4, y5, y6, k0, k1, k2, k3, k4, k5, k6⟩ := c7_of HB2.out
          clear hx h2 hf2 hrep hbx' hk3b hk4b
          go_wp2_with fail
          refine bodyPost_ret (ret_cell7 rfl _ (w.heap.size + 1) rfl _ _ _ _ _ _ _ _ (blkPut7 HB2.out rfl _ _ _ _ _ _ _)) rfl ?_
          rw [HM.out]
          exact ex_end HF2.out (frPut7 (Fr.refl [some (w.heap.size + 1)] _) (.inl (by simp)) _ _ _ _ _ _ _) (by omega) H2.out (by omega) (by omega) (Rep.E.mono (fun b hb => by omega) HREP.out)

/-- a unary and a not read just so many words -/
theorem lev_any : ∀ (n : Nat) (P g : Nat) (w : World), Reads P g w 92 #[.pointer (some ⟨P, 0, none⟩)] n (PM.lev n).1 ∧ Reads P g w 68 #[.pointer (some ⟨P, 0, none⟩)] n (PM.lev n).2
  | 0, P, g, w => ⟨fun w' s _ h hn => absurd h.wf.pos (by omega), fun w' s _ h hn => absurd h.wf.pos (by omega)⟩
  | n + 1, P, g, w => by
    have hg := PM.good_lev n
    have hu := fun P g w => (lev_any n P g w).1
    have hnt := fun P g w => (lev_any n P g w).2
    have ha := fun P g w => and_any n _ hg.2 hnt P g w
    have he := fun P g w => expr_any n _ (PM.good_rows hg.2 _) ha P g w
    have hu1 := fun P g w => unary_any n (PM.lev n).1 (PM.lev n).2 hg.1 hu (PM.good_expr hg.2) he P g w
    have hgu := PM.good_unary hg.1 hg.2
    have ht := fun P g w => term_any (n + 1) _ hgu hu1 P g w
    have hs := fun P g w => sum_any (n + 1) _ (PM.good_rows hgu _) ht P g w
    have hc := fun P g w => comp_any (n + 1) _ (PM.good_sum hgu) hs P g w
    exact ⟨hu1 P g w, not_any n _ (PM.lev n).2 hc hg.2 hnt P g w⟩
/-- an expression -/
theorem expr_all (n P g : Nat) (w : World) : Reads P g w 35 #[.pointer (some ⟨P, 0, none⟩)] n (PM.expr n) :=
  expr_any n _ (PM.good_rows (PM.good_lev n).2 _) (fun P g w => and_any n _ (PM.good_lev n).2 (fun P g w => (lev_any n P g w).2) P g w) P g w
end Px
end Go.Proofs.YtpmgecnkcllneaaDoor
