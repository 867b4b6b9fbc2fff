/- parse: rows. -/
import Derived.Test.YtpmgecnkcllneaaDoorParE
import Derived.Deep.RegionWith
namespace Go.Proofs.YtpmgecnkcllneaaDoor
open Go.RowKit

namespace Px
open LexM (Tok)
open PM (PS B Ex)

/-- what a map of operations answers, wherever it is asked -/
def Asks (P : Nat) (w : World) (mv : Value) (ops : B → Option Int) : Prop :=
  ∀ (w' : World) (wd : B), Fr [some P] w w' → (Instr.lookup 99 mv (.string ⟨wd.toArray⟩) true).run Tryd.prog w' = .ok (.tuple #[.int .i64 ((ops wd).getD 0), .bool (ops wd).isSome]) w'

/-- the words left, as the parser's cell tells them -/
def meaL (P : Nat) (w : World) : Nat := match w.cell? ⟨P, 0, none⟩ with | some (.slice _ n _) => n | _ => 0
theorem meaL_of {w : World} {P g : Nat} {s : PS} (h : PR w P g s) : meaL P w = s.l.length := by
  obtain ⟨off, cap, hat⟩ := h.at
  rw [meaL, hat.c0]
/-- what the loop keeps -/
def RwI (w : World) (P g X n : Nat) (f : PS → Ex × PS) (ops : B → Option Int) (res : Ex × PS) (wr : World) : Prop :=
  ∃ (fuel : Nat) (x : Ex) (s' : PS) (op kind int : Int) (t tb nm : B) (va : Option Addr) (vl vc : Nat),
    Hid (PM.rowsF f ops fuel x s' = res) ∧ s'.l.length ≤ fuel ∧ s'.l.length ≤ n ∧ 0 ≤ s'.deep ∧ s'.deep ≤ 64 ∧ Hid (PR wr P g s') ∧
    Hid (Blk wr X 40 [.int .i64 op, .int .i64 kind, .int .i64 int, .string ⟨t.toArray⟩, .string ⟨tb.toArray⟩, .string ⟨nm.toArray⟩, .slice va vl vc]) ∧
    Hid (Rep.E 40 (fun b => w.heap.size < b ∧ b ≠ X) wr x [.int .i64 op, .int .i64 kind, .int .i64 int, .string ⟨t.toArray⟩, .string ⟨tb.toArray⟩, .string ⟨nm.toArray⟩, .slice va vl vc]) ∧
    Hid (Blk wr w.heap.size 40 z7) ∧ Hid (Fr [some P] w wr)

theorem RwI.step {w w3 : World} {P g X n z fu : Nat} {f : PS → Ex × PS} {ops : B → Option Int} {res : Ex × PS} {o : Int} {x y : Ex} {s2 : PS} {xs ys : List Value} (hres : PM.rowsF f ops fu (PM.two o x y) s2 = res) (hfu : s2.l.length ≤ fu) (hn : s2.l.length ≤ n) (hd : 0 ≤ s2.deep) (hd2 : s2.deep ≤ 64)
    (hP : PR w3 P g s2) (hXl : ∃ l, Blk w3 X 40 l ∧ l.length = 7) (hB : Blk w3 w.heap.size 40 z7) (hx : Rep.E 40 (fun b => w.heap.size < b ∧ b ≠ X) w3 x xs) (hy : Rep.E 40 (fun b => z ≤ b) w3 y ys) (hF : Fr [some P] w w3)
    (hPw : P < w.heap.size) (hRX : w.heap.size < X) (hXz : X < z) :
    RwI w P g X n f ops res ((put7 w3 X (.int .i64 o) (.int .i64 0) (.int .i64 0) (.string ⟨#[]⟩) (.string ⟨#[]⟩) (.string ⟨#[]⟩) (.slice (some ⟨w3.heap.size, 0, none⟩) 2 2)).alloc (.cells (xs ++ ys).toArray 40)) ∧
    meaL P ((put7 w3 X (.int .i64 o) (.int .i64 0) (.int .i64 0) (.string ⟨#[]⟩) (.string ⟨#[]⟩) (.string ⟨#[]⟩) (.slice (some ⟨w3.heap.size, 0, none⟩) 2 2)).alloc (.cells (xs ++ ys).toArray 40)) = s2.l.length := by
  obtain ⟨l, hX, hl⟩ := hXl
  have hXlt := hX.lt
  have hgP := hP.ne
  have h1 : Fr [some X] w3 (put7 w3 X (.int .i64 o) (.int .i64 0) (.int .i64 0) (.string ⟨#[]⟩) (.string ⟨#[]⟩) (.string ⟨#[]⟩) (.slice (some ⟨w3.heap.size, 0, none⟩) 2 2)) := frPut7 (Fr.refl [some X] w3) (.inl (by simp)) _ _ _ _ _ _ _
  have hsz : (put7 w3 X (.int .i64 o) (.int .i64 0) (.int .i64 0) (.string ⟨#[]⟩) (.string ⟨#[]⟩) (.string ⟨#[]⟩) (.slice (some ⟨w3.heap.size, 0, none⟩) 2 2)).heap.size = w3.heap.size := by simp [put7, World.setCell]
  have hnew := Blk.new (put7 w3 X (.int .i64 o) (.int .i64 0) (.int .i64 0) (.string ⟨#[]⟩) (.string ⟨#[]⟩) (.string ⟨#[]⟩) (.slice (some ⟨w3.heap.size, 0, none⟩) 2 2)) 40 (xs ++ ys)
  rw [hsz] at hnew
  have h2 := h1.alloc (.cells (xs ++ ys).toArray 40)
  have ex := hx.length
  have ey := hy.length
  refine ⟨?_, meaL_of (hP.keep h2 (by simp; omega) (by simp; omega))⟩
  refine ⟨fu, PM.two o x y, s2, o, 0, 0, [], [], [], some ⟨w3.heap.size, 0, none⟩, 2, 2, hres, hfu, hn, hd, hd2, hP.keep h2 (by simp; omega) (by simp; omega), Blk.alloc (blkPut7 hX hl _ _ _ _ _ _ _) _, ?_, hB.keep h2 (by simp; omega), hF.trans' h2 (fun i hi => .inr (by simp at hi; omega))⟩
  refine .mk o 0 0 [] [] [] [x, y] _ (.mk [x, y] _ (xs ++ (ys ++ [])) (.cons x [y] xs _ (Rep.E.keep h2 (fun g hg => by have := hg.2; simp; exact this) hx) (.cons y [] ys [] (Rep.E.mono (fun g hg => ⟨by omega, by omega⟩) (Rep.E.keep h2 (fun g hg => by simp; omega) hy)) .nil)) ?_ ?_)
  · rw [List.append_nil]
    refine ⟨by simp [ex, ey], .inr ⟨w3.heap.size, 0, 2, xs ++ ys, rfl, hnew, by simp, by unfold maxLen; simp, by simp [ex, ey], ?_⟩⟩
    rw [List.drop_zero, List.take_of_length_le (by simp [ex, ey])]
  · intro g hg
    simp only [Value.ownBlock, Option.some.injEq] at hg
    subst hg
    have := hF.size
    exact ⟨by omega, by omega⟩

set_option maxRecDepth 100000 in
set_option maxHeartbeats 2000000 in
theorem rows_any (P g : Nat) (s : PS) (k : Nat) (fst cap : Array Value) (n : Nat) (f : PS → Ex × PS) (mv : Value) (ops : B → Option Int) (w : World) (h : PR w P g s) (h0 : 0 ≤ s.deep) (h64 : s.deep ≤ 64) (hn : s.l.length ≤ n)
    (hrun : ∀ w : World, Sem.run Tryd.prog (callFunc k (fst ++ cap)) w = .ok (.enter k (fst ++ cap)) w) (hf : Reads P g w k (fst ++ cap) n f) (hdp : ∀ s, (f s).2.deep = s.deep) (hln : ∀ s, (f s).2.l.length ≤ s.l.length) (hm : Asks P w mv ops) (hops : ops [] = none) :
    Calls Tryd.prog 55 #[.pointer (some ⟨P, 0, none⟩), .func (.func k) fst cap, mv] w fun e w' => ExR w.heap.size w' e (PM.rows f ops s).1 ∧ PR w' P g (PM.rows f ops s).2 ∧ Fr [some P] w w' := by
  have HPL := Lib.hid h.lt
  have HP := Lib.hid h
  have HRUN := Lib.hid hrun
  have HREAD := Lib.hid hf
  have HLN := Lib.hid hln
  have HDP := Lib.hid hdp
  have HASK := Lib.hid hm
  have HW0 : Hid (PR (w.alloc (.cells z7.toArray 40)) P g s) := HP.out.alloc _
  have HFW0 : Hid (Fr [some P] w (w.alloc (.cells z7.toArray 40))) := (Fr.refl [some P] w).alloc _
  have HCALL := Lib.hid (hf _ s HFW0.out HW0.out hn h0 h64)
  clear h hrun hf hln hdp hm
  go_enter Tryd.func55, Tryd.ntmps55
  go_wp2_with fail
  rw [HRUN.out, Oper.upon_enter]
  refine HCALL.out.mono ?_
  rintro e w1 ⟨hx, h1, hf1⟩
  obtain ⟨op, kind, int, t, tb, nm, va, vl, vc, rfl, hrep⟩ := ex_cells hx
  have HREP := Lib.hid hrep
  have H1 := Lib.hid h1
  have HF1 : Hid (Fr [some P] w w1) := HFW0.out.trans hf1
  have hf1' := hf1
  clear hx h1 hf1 hrep HCALL
  have HB1 : Hid (Blk w1 w.heap.size 40 z7) := (Blk.new w 40 z7).keep hf1' (by have := HPL.out; simp; omega)
  have hRl := HB1.out.lt
  have hPl := H1.out.lt
  have hln1 : (f s).2.l.length ≤ n := Nat.le_trans (HLN.out s) hn
  have hd1 : (f s).2.deep = s.deep := HDP.out s
  go_wp2_with fail
  go_loopw [] (fun wr => RwI w P g w1.heap.size n f ops (PM.rows f ops s) wr) (fun wr => meaL P wr)
  case atStart =>
    refine ⟨(f s).2.l.length, (f s).1, (f s).2, op, kind, int, t, tb, nm, va, vl, vc, rfl, Nat.le_refl _, hln1, by rw [hd1]; exact h0, by rw [hd1]; exact h64, H1.out.alloc _, Blk.new w1 40 _, ?_, Blk.alloc HB1.out _, HF1.out.alloc _⟩
    have h1 := Rep.E.keep (w := w1) ((Fr.refl [] w1).alloc (.cells #[.int .i64 op, .int .i64 kind, .int .i64 int, .string ⟨t.toArray⟩, .string ⟨tb.toArray⟩, .string ⟨nm.toArray⟩, .slice va vl vc] 40)) (fun g _ => by simp) HREP.out.live
    refine Rep.E.mono (fun g hg => ?_) h1
    obtain ⟨h2, h3⟩ := hg
    simp at h2
    exact ⟨by omega, by omega⟩
  case round =>
    clear HREP
    obtain ⟨fuel, x, s', op, kind, int, t, tb, nm, va, vl, vc, HRES, hfu, hnn, hd0, hd64, HR, HX, HE, HB, HF⟩ := hrel
    have hl1 := HX.out.lt
    have hl2 := HB.out.lt
    have hl3 := HR.out.lt
    have hpl := HPL.out
    have hpos := HR.out.wf.pos
    obtain ⟨fu, rfl⟩ : ∃ fu, fuel = fu + 1 := ⟨fuel - 1, by omega⟩
    go_wp2_with fail
    refine (sign_any P g s' wr HR.out).mono ?_
    rintro e w2 ⟨rfl, h2, hf2⟩
    obtain ⟨sg, hsg⟩ : ∃ sg, PM.sign s' = sg := ⟨_, rfl⟩
    rw [hsg]
    have HF2 : Hid (Fr [some P] w w2) := HF.out.trans' hf2 (by simp)
    have hask := HASK.out w2 sg HF2.out
    have HX2 := Lib.hid (HX.out.keep hf2 (by simp))
    have HB2 := Lib.hid (HB.out.keep hf2 (by simp))
    have HE2 := Lib.hid (Rep.E.keep hf2 (fun g _ => by simp) HE.out)
    have H2 := Lib.hid h2
    have hs2 := hf2.size
    clear h2 hf2
    cases ho : ops sg with
    | none =>
      rw [ho] at hask
      simp only [Option.getD_none, Option.isSome_none] at hask
      have HRS : Hid ((x, s') = PM.rows f ops s) := by
        have := HRES.out
        rw [PM.rowsF, hsg, ho] at this
        exact this
      have hq1 : ¬ w1.heap.size = w.heap.size := by omega
      have hq2 : ¬ w.heap.size = w1.heap.size := by omega
      obtain ⟨x0, x1, x2, x3, x4, x5, x6, g0, g1, g2, g3, g4, g5, g6⟩ := c7_of HX2.out
      obtain ⟨y0, y1, y2, y3, y4, y5, y6, k0, k1, k2, k3, k4, k5, k6⟩ := c7_of HB2.out
      clear ho hsg
      go_wp2_with fail
      refine bodyPost_ret (ret_cell7 rfl _ w.heap.size rfl _ _ _ _ _ _ _ _ (blkPut7 HB2.out rfl _ _ _ _ _ _ _)) rfl ⟨?_, ?_, frPut7 HF2.out (.inr (Nat.le_refl _)) _ _ _ _ _ _ _⟩
      all_goals rw [← HRS.out]
      · refine ⟨_, rfl, Rep.E.mono (fun g hg => Nat.le_of_lt hg.1) (Rep.E.keep (frPut7 (Fr.refl [some w.heap.size] _) (.inl (by simp)) _ _ _ _ _ _ _) (fun g hg => ?_) HE2.out)⟩
        have := hg.1
        simp
        omega
      · exact H2.out.keep (frPut7 (Fr.refl [some w.heap.size] _) (.inl (by simp)) _ _ _ _ _ _ _) (by simp; omega) (by have := H2.out.ne; simp; omega)
    | some o =>
      rw [ho] at hask
      simp only [Option.getD_some, Option.isSome_some] at hask
      have hk6 : s'.now.kind ≠ 6 := by
        intro h6
        have : PM.sign s' = [] := by
          rw [PM.sign, PM.wordy, h6]
          simp
        rw [hsg] at this
        rw [this, hops] at ho
        cases ho
      have h2l := WF.two H2.out.wf hk6
      obtain ⟨off, cp, hat⟩ := H2.out.at
      obtain ⟨c0, c1, c2, c3, f0, f1, f2, f3, t0, t1, t2, t3, hcap, hpos2, hlim⟩ := hat
      have HS : Hid (PR (w2.setCell ⟨P, 0, none⟩ (.slice (some ⟨g, off + 4, none⟩) (s'.l.length - 1) (cp - 1))) P g (PM.skip s')) := H2.out.setSkip c0 hk6
      have HRS : Hid (PM.rowsF f ops fu (PM.two o x (f (PM.skip s')).1) (f (PM.skip s')).2 = PM.rows f ops s) := by
        have := HRES.out
        rw [PM.rowsF, hsg, ho] at this
        exact this
      have hls : (PM.skip s').l.length = s'.l.length - 1 := by simp [PM.skip]
      obtain ⟨wS, hwS⟩ : ∃ wS, w2.setCell ⟨P, 0, none⟩ (.slice (some ⟨g, off + 4, none⟩) (s'.l.length - 1) (cp - 1)) = wS := ⟨_, rfl⟩
      have hfS : Fr [some P] w2 wS := by rw [← hwS]; exact frSet _
      rw [hwS] at HS
      have HFS : Hid (Fr [some P] w wS.drew) := (HF2.out.trans hfS).drew
      have HSD : Hid (PR wS.drew P g (PM.skip s')) := HS.out.keep (Fr.drew (Fr.refl [] wS)) (by simp) (by simp)
      have HC6 := Lib.hid (HREAD.out wS.drew (PM.skip s') HFS.out HSD.out (by rw [hls]; omega) hd0 hd64)
      have HXS := Lib.hid (HX2.out.keep hfS (by simp; omega))
      have HBS := Lib.hid (HB2.out.keep hfS (by simp; omega))
      have HES := Lib.hid (Rep.E.keep hfS (fun g hg => by have := hg.1; simp; omega) HE2.out)
      obtain ⟨x0, x1, x2, x3, x4, x5, x6, g0, g1, g2, g3, g4, g5, g6⟩ := c7_of HXS.out
      have hpi : (1 : Int) < (s'.l.length : Int) := by omega
      have hci : (s'.l.length : Int) ≤ (cp : Int) := by omega
      have hc1 : ¬ cp = 1 := by omega
      clear ho hsg c1 c2 c3 f1 f2 f3 t0 t1 t2 t3 hk6
      go_wp2_with fail
      clear hwS c0 f0 hfS hask
      go_region_with (
        rw [HRUN.out, Oper.upon_enter]
        refine HC6.out.mono ?_
        rintro e w3 ⟨hx3, h3, hf3⟩
        obtain ⟨op2, kind2, int2, t2, tb2, nm2, va2, vl2, vc2, rfl, hrep3⟩ := ex_cells hx3
        have HREP3 := Lib.hid hrep3
        have H3 := Lib.hid h3
        have HF3 := Lib.hid hf3
        have HX3 := Lib.hid (Blk.keep (w := wS.drew) HXS.out hf3 (by simp; omega))
        obtain ⟨v0, v1, v2, v3, v4, v5, v6, r0, r1, r2, r3, r4, r5, r6⟩ := c7_of HX3.out
        have hl9 := HX3.out.lt
        have hq1 : ¬ w1.heap.size = w3.heap.size := by omega
        have hq2 : ¬ w3.heap.size = w1.heap.size := by omega
        clear hx3 h3 hf3 hrep3)
      all_goals
        have hsz3 := HF3.out.size
        have hszS : w1.heap.size < wS.heap.size := HXS.out.lt
        have hd3 : (f (PM.skip s')).2.deep = s'.deep := HDP.out _
        have hl9' : (f (PM.skip s')).2.l.length ≤ s'.l.length - 1 := by have := HLN.out (PM.skip s'); rw [hls] at this; exact this
        obtain ⟨hst1, hst2⟩ := (RwI.step (w := w) (X := w1.heap.size) (n := n) (z := wS.heap.size) HRS.out (by omega) (by omega) (by rw [hd3]; exact hd0) (by rw [hd3]; exact hd64) H3.out ⟨_, HX3.out, rfl⟩ (Blk.keep (w := wS.drew) HBS.out HF3.out (by simp; omega)) (Rep.E.keep HF3.out (fun g hg => by have := hg.1; simp; omega) (Rep.E.keep (Fr.drew (Fr.refl [] wS)) (fun g _ => by simp) HES.out)) HREP3.out (HFS.out.trans HF3.out) HPL.out (by omega) (by omega))
        have HSTEP := Lib.hid hst1
        have HST2 := Lib.hid hst2
        clear hst1 hst2
        have hmea : meaL P wr = s'.l.length := meaL_of HR.out
        have HMEA := Lib.hid hmea
        clear hmea
        go_wp2_with fail
        go_roundw
        case rel => exact HSTEP.out
        case measure =>
          show meaL P _ < meaL P _
          refine Nat.lt_of_le_of_lt (Nat.le_of_eq HST2.out) ?_
          rw [HMEA.out]
          omega
end Px
end Go.Proofs.YtpmgecnkcllneaaDoor
