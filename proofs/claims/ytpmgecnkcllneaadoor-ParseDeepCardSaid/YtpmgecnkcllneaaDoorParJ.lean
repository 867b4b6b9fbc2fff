/- parse: comp. -/
import Derived.Test.YtpmgecnkcllneaaDoorParI
namespace Go.Proofs.YtpmgecnkcllneaaDoor
open Go.RowKit
namespace Px
open PM (PS B Ex)

def comps : List (B × Int) := [([61], 8), ([60, 62], 9), ([60], 10), ([60, 61], 11), ([62], 12), ([62, 61], 13)]
theorem find_comp (wd : B) : PM.opComp wd = find comps wd := rfl

/-- an operation over some expressions is laid: its seven cells in block R, what it is of in a new block -/
theorem op_end {A : Nat → Prop} {w3 : World} {R : Nat} {o : Int} {l : List Ex} {cs : List Value} (hB : Blk w3 R 40 z7) (hL : Rep.L 40 A w3 l cs) (hA : ∀ g, A g → g ≠ R ∧ R ≤ g) (hm : l.length ≤ maxLen) :
    ∃ W', (put7 w3 R (.int .i64 o) (.int .i64 0) (.int .i64 0) (.string ⟨#[]⟩) (.string ⟨#[]⟩) (.string ⟨#[]⟩) (.slice (some ⟨w3.heap.size, 0, none⟩) l.length l.length)).alloc (.cells cs.toArray 40) = W' ∧
      Blk W' R 40 [.int .i64 o, .int .i64 0, .int .i64 0, .string ⟨#[]⟩, .string ⟨#[]⟩, .string ⟨#[]⟩, .slice (some ⟨w3.heap.size, 0, none⟩) l.length l.length] ∧
      Rep.E 40 (fun g => R ≤ g) W' (.mk o 0 0 [] [] [] l) [.int .i64 o, .int .i64 0, .int .i64 0, .string ⟨#[]⟩, .string ⟨#[]⟩, .string ⟨#[]⟩, .slice (some ⟨w3.heap.size, 0, none⟩) l.length l.length] ∧
      (∀ P g s, PR w3 P g s → P ≠ R → g ≠ R → PR W' P g s) ∧ (∀ X w, Fr X w w3 → w.heap.size ≤ R → Fr X w W') := by
  have hRl := hB.lt
  have hf : Fr [some R] w3 ((put7 w3 R (.int .i64 o) (.int .i64 0) (.int .i64 0) (.string ⟨#[]⟩) (.string ⟨#[]⟩) (.string ⟨#[]⟩) (.slice (some ⟨w3.heap.size, 0, none⟩) l.length l.length)).alloc (.cells cs.toArray 40)) :=
    (frPut7 (Fr.refl [some R] w3) (.inl (by simp)) _ _ _ _ _ _ _).alloc _
  have hsz : (put7 w3 R (.int .i64 o) (.int .i64 0) (.int .i64 0) (.string ⟨#[]⟩) (.string ⟨#[]⟩) (.string ⟨#[]⟩) (.slice (some ⟨w3.heap.size, 0, none⟩) l.length l.length)).heap.size = w3.heap.size := by simp [put7, World.setCell]
  have hnew := Blk.new (put7 w3 R (.int .i64 o) (.int .i64 0) (.int .i64 0) (.string ⟨#[]⟩) (.string ⟨#[]⟩) (.string ⟨#[]⟩) (.slice (some ⟨w3.heap.size, 0, none⟩) l.length l.length)) 40 cs
  rw [hsz] at hnew
  have hlen := hL.length
  refine ⟨_, rfl, Blk.alloc (blkPut7 hB rfl _ _ _ _ _ _ _) _, ?_, fun P g s h h1 h2 => h.keep hf (by simp; exact h1) (by simp; exact h2), fun X w h h1 => h.trans' hf (fun i hi => .inr (by simp at hi; omega))⟩
  refine .mk o 0 0 [] [] [] l _ (.mk l _ cs (Rep.L.mono (fun g h => (hA g h).2) (Rep.L.keep hf (fun g h => by have := (hA g h).1; simp; exact this) hL)) ?_ ?_)
  · refine ⟨hlen, .inr ⟨w3.heap.size, 0, l.length, cs, rfl, hnew, Nat.le_refl _, hm, by omega, ?_⟩⟩
    rw [List.drop_zero, List.take_of_length_le (by omega)]
  · intro g hg
    simp only [Value.ownBlock, Option.some.injEq] at hg
    subst hg
    exact Nat.le_of_lt hRl

set_option maxRecDepth 100000 in
set_option maxHeartbeats 2000000 in
theorem comp_any (n : Nat) (u : PS → Ex × PS) (hg : PM.Good (PM.sumF u)) (hr : ∀ P g w, Reads P g w 82 #[.pointer (some ⟨P, 0, none⟩)] n (PM.sumF u)) (P g : Nat) (w0 : World) :
    Reads P g w0 74 #[.pointer (some ⟨P, 0, none⟩)] n (PM.compF u) := by
  intro w s _ h hn h0 h64
  have hPl := h.lt
  have hgP := h.ne
  have HP := Lib.hid h
  have HG := Lib.hid hg
  have HR := Lib.hid hr
  have HC1 := Lib.hid (hr P g (w.alloc (.cells z7.toArray 40)) _ s (Fr.refl _ _) (h.alloc _) hn h0 h64)
  clear h hg hr
  have hmk := fun w => run_make w
  go_enter Tryd.func74, Tryd.ntmps74
  go_wp2_with fail
  refine HC1.out.mono ?_
  rintro e w1 ⟨hx, h1, hf1⟩
  obtain ⟨op, kind, int, t, tb, nm, va, vl, vc, rfl, hrep⟩ := ex_cells hx
  obtain ⟨⟨x, s1⟩, hxs⟩ : ∃ r, PM.sumF u s = r := ⟨_, rfl⟩
  have hg1 := HG.out s
  rw [hxs] at h1 hrep hg1
  simp only [] at h1 hrep hg1
  have HXS := Lib.hid hxs
  have HREP := Lib.hid hrep
  have H1 := Lib.hid h1
  have HB1 : Hid (Blk w1 w.heap.size 40 z7) := Lib.hid ((Blk.new w 40 z7).keep hf1 (by simp; omega))
  have HF1 : Hid (Fr [some P] w w1) := ((Fr.refl [some P] w).alloc _).trans hf1
  have hs1 := hf1.size
  simp only [World.size_alloc] at hs1
  have hl1 : s1.l.length ≤ n := Nat.le_trans hg1.2 hn
  have hd1 := hg1.1
  clear hx h1 hf1 hrep hxs hg1
  have hp0 := run_put (w1.alloc (.cells #[.int .i64 op, .int .i64 kind, .int .i64 int, .string ⟨t.toArray⟩, .string ⟨tb.toArray⟩, .string ⟨nm.toArray⟩, .slice va vl vc] 40)) [] [61] 8 (by simp)
  simp only [World.size_alloc, List.nil_append] at hp0
  have hp1 := run_put (w1.alloc (.cells #[.int .i64 op, .int .i64 kind, .int .i64 int, .string ⟨t.toArray⟩, .string ⟨tb.toArray⟩, .string ⟨nm.toArray⟩, .slice va vl vc] 40)) [([61], 8)] [60, 62] 9 (by simp)
  simp only [World.size_alloc, List.cons_append, List.nil_append] at hp1
  have hp2 := run_put (w1.alloc (.cells #[.int .i64 op, .int .i64 kind, .int .i64 int, .string ⟨t.toArray⟩, .string ⟨tb.toArray⟩, .string ⟨nm.toArray⟩, .slice va vl vc] 40)) [([61], 8), ([60, 62], 9)] [60] 10 (by simp)
  simp only [World.size_alloc, List.cons_append, List.nil_append] at hp2
  have hp3 := run_put (w1.alloc (.cells #[.int .i64 op, .int .i64 kind, .int .i64 int, .string ⟨t.toArray⟩, .string ⟨tb.toArray⟩, .string ⟨nm.toArray⟩, .slice va vl vc] 40)) [([61], 8), ([60, 62], 9), ([60], 10)] [60, 61] 11 (by simp)
  simp only [World.size_alloc, List.cons_append, List.nil_append] at hp3
  have hp4 := run_put (w1.alloc (.cells #[.int .i64 op, .int .i64 kind, .int .i64 int, .string ⟨t.toArray⟩, .string ⟨tb.toArray⟩, .string ⟨nm.toArray⟩, .slice va vl vc] 40)) [([61], 8), ([60, 62], 9), ([60], 10), ([60, 61], 11)] [62] 12 (by simp)
  simp only [World.size_alloc, List.cons_append, List.nil_append] at hp4
  have hp5 := run_put (w1.alloc (.cells #[.int .i64 op, .int .i64 kind, .int .i64 int, .string ⟨t.toArray⟩, .string ⟨tb.toArray⟩, .string ⟨nm.toArray⟩, .slice va vl vc] 40)) [([61], 8), ([60, 62], 9), ([60], 10), ([60, 61], 11), ([62], 12)] [62, 61] 13 (by simp)
  simp only [World.size_alloc, List.cons_append, List.nil_append] at hp5
  have HP1 : Hid (PR ((w1.alloc (.cells #[.int .i64 op, .int .i64 kind, .int .i64 int, .string ⟨t.toArray⟩, .string ⟨tb.toArray⟩, .string ⟨nm.toArray⟩, .slice va vl vc] 40)).alloc (mapObj comps)) P g s1) := Lib.hid ((H1.out.alloc _).alloc _)
  have HX1 : Hid (Blk ((w1.alloc (.cells #[.int .i64 op, .int .i64 kind, .int .i64 int, .string ⟨t.toArray⟩, .string ⟨tb.toArray⟩, .string ⟨nm.toArray⟩, .slice va vl vc] 40)).alloc (mapObj comps)) w1.heap.size 40 [.int .i64 op, .int .i64 kind, .int .i64 int, .string ⟨t.toArray⟩, .string ⟨tb.toArray⟩, .string ⟨nm.toArray⟩, .slice va vl vc]) := Lib.hid (Blk.alloc (Blk.new w1 40 _) _)
  have HM1 : Hid (((w1.alloc (.cells #[.int .i64 op, .int .i64 kind, .int .i64 int, .string ⟨t.toArray⟩, .string ⟨tb.toArray⟩, .string ⟨nm.toArray⟩, .slice va vl vc] 40)).alloc (mapObj comps)).heap[w1.heap.size + 1]? = some (mapObj comps)) := Lib.hid (by have := heap_alloc_new (w1.alloc (.cells #[.int .i64 op, .int .i64 kind, .int .i64 int, .string ⟨t.toArray⟩, .string ⟨tb.toArray⟩, .string ⟨nm.toArray⟩, .slice va vl vc] 40)) (mapObj comps); rwa [World.size_alloc] at this)
  have HW1 : Hid (Fr [] w1 ((w1.alloc (.cells #[.int .i64 op, .int .i64 kind, .int .i64 int, .string ⟨t.toArray⟩, .string ⟨tb.toArray⟩, .string ⟨nm.toArray⟩, .slice va vl vc] 40)).alloc (mapObj comps))) := Lib.hid (((Fr.refl [] w1).alloc _).alloc _)
  have hPl1 := H1.out.lt
  have hRl1 := HB1.out.lt
  go_wp2_with fail
  refine (sign_any P g s1 _ HP1.out).mono ?_
  rintro e w2 ⟨rfl, h2, hf2⟩
  have hlk := (run_look w2 (w1.heap.size + 1) comps (PM.sign s1) ((hf2.blk (by simp) (by simp)).trans HM1.out)).1
  obtain ⟨sg, hsg⟩ : ∃ sg, PM.sign s1 = sg := ⟨_, rfl⟩
  rw [hsg] at hlk ⊢
  rw [← find_comp] at hlk
  have HX2 := Lib.hid (HX1.out.keep hf2 (by simp))
  have HB2 := Lib.hid ((HB1.out.keep HW1.out (by simp)).keep hf2 (by simp))
  have HF2 : Hid (Fr [some P] w w2) := Lib.hid ((HF1.out.trans' HW1.out (by simp)).trans' hf2 (by simp))
  have HE2 := Lib.hid (Rep.E.keep hf2 (fun g _ => by simp) (Rep.E.keep HW1.out (fun g _ => by simp) HREP.out.live))
  have H2 := Lib.hid h2
  have hs2 := hf2.size
  simp only [World.size_alloc] at hs2
  have hPl2 := h2.lt
  clear h2 hf2 hmk hp0 hp1 hp2 hp3 hp4 hp5
  have hq1 : ¬ w1.heap.size = w.heap.size := by omega
  have hq2 : ¬ w.heap.size = w1.heap.size := by omega
  cases ho : PM.opComp sg with
  | none =>
    rw [ho] at hlk
    simp only [Option.getD_none, Option.isSome_none] at hlk
    have HRS : Hid (PM.compF u s = (x, s1)) := Lib.hid (by rw [PM.compF, HXS.out]; simp only [hsg, ho])
    obtain ⟨x0, x1, x2, x3, x4, x5, x6, g0, g1, g2, g3, g4, g5, g6⟩ := c7_of HX2.out
    obtain ⟨y0, y1, y2, y3, y4, y5, y6, k0, k1, k2, k3, k4, k5, k6⟩ := c7_of HB2.out
    clear ho hsg
    go_wp2_with fail
    refine bodyPost_ret (ret_cell7 rfl _ w.heap.size rfl _ _ _ _ _ _ _ _ (blkPut7 HB2.out rfl _ _ _ _ _ _ _)) rfl ⟨?_, ?_, frPut7 HF2.out (.inr (Nat.le_refl _)) _ _ _ _ _ _ _⟩
    all_goals rw [HRS.out]
    · refine ⟨_, rfl, Rep.E.mono (fun g hg => ?_) (Rep.E.keep (frPut7 (Fr.refl [some w.heap.size] _) (.inl (by simp)) _ _ _ _ _ _ _) (fun g hg => ?_) HE2.out)⟩
      · have := hg.1
        simp at this
        omega
      · have := hg.1
        simp at this
        simp
        omega
    · exact H2.out.keep (frPut7 (Fr.refl [some w.heap.size] _) (.inl (by simp)) _ _ _ _ _ _ _) (by simp; omega) (by simp; omega)
  | some o =>
    rw [ho] at hlk
    simp only [Option.getD_some, Option.isSome_some] at hlk
    have hk6 : s1.now.kind ≠ 6 := by
      intro h6
      have : PM.sign s1 = [] := by
        rw [PM.sign, PM.wordy, h6]
        simp
      rw [hsg] at this
      rw [this] at ho
      cases ho
    have h2l := WF.two H2.out.wf hk6
    obtain ⟨off, cp, hat⟩ := H2.out.at
    obtain ⟨c0, c1, c2, c3, f0, f1, f2, f3, t0, t1, t2, t3, hcap, hpos2, hlim⟩ := hat
    have HS : Hid (PR (w2.setCell ⟨P, 0, none⟩ (.slice (some ⟨g, off + 4, none⟩) (s1.l.length - 1) (cp - 1))) P g (PM.skip s1)) := Lib.hid (H2.out.setSkip c0 hk6)
    have HRS : Hid (PM.compF u s = (PM.two o x (PM.sumF u (PM.skip s1)).1, (PM.sumF u (PM.skip s1)).2)) := Lib.hid (by rw [PM.compF, HXS.out]; simp only [hsg, ho])
    have hls : (PM.skip s1).l.length = s1.l.length - 1 := by simp [PM.skip]
    obtain ⟨wS, hwS⟩ : ∃ wS, w2.setCell ⟨P, 0, none⟩ (.slice (some ⟨g, off + 4, none⟩) (s1.l.length - 1) (cp - 1)) = wS := ⟨_, rfl⟩
    have hfS : Fr [some P] w2 wS := by rw [← hwS]; exact frSet _
    rw [hwS] at HS
    have HFS : Hid (Fr [some P] w wS.drew) := (HF2.out.trans hfS).drew
    have HSD : Hid (PR wS.drew P g (PM.skip s1)) := HS.out.keep (Fr.drew (Fr.refl [] wS)) (by simp) (by simp)
    have HC6 := Lib.hid (HR.out P g wS.drew wS.drew (PM.skip s1) (Fr.refl _ _) HSD.out (by rw [hls]; omega) (by rw [show (PM.skip s1).deep = s1.deep from rfl, hd1]; exact h0) (by rw [show (PM.skip s1).deep = s1.deep from rfl, hd1]; exact h64))
    have HXS2 := Lib.hid (HX2.out.keep hfS (by simp; omega))
    have HBS := Lib.hid (HB2.out.keep hfS (by simp; omega))
    have HES := Lib.hid (Rep.E.keep hfS (fun g hg => by have := hg.1; simp at this; simp; omega) HE2.out)
    obtain ⟨x0, x1, x2, x3, x4, x5, x6, g0, g1, g2, g3, g4, g5, g6⟩ := c7_of HXS2.out
    obtain ⟨y0, y1, y2, y3, y4, y5, y6, k0, k1, k2, k3, k4, k5, k6⟩ := c7_of HBS.out
    have hpi : (1 : Int) < (s1.l.length : Int) := by omega
    have hci : (s1.l.length : Int) ≤ (cp : Int) := by omega
    have hc1 : ¬ cp = 1 := by omega
    clear ho hsg c1 c2 c3 f1 f2 f3 t0 t1 t2 t3 hk6
    go_wp2_with fail
    clear hwS c0 f0 hfS hlk
    go_region_with (
      go_at_call 82
      refine HC6.out.mono ?_
      rintro e w3 ⟨hx3, h3, hf3⟩
      obtain ⟨op2, kind2, int2, t2, tb2, nm2, va2, vl2, vc2, rfl, hrep3⟩ := ex_cells hx3
      have HREP3 := Lib.hid hrep3
      have H3 := Lib.hid h3
      have HF3 := Lib.hid hf3
      have HX3 := Lib.hid (Blk.keep (w := wS.drew) HXS2.out hf3 (by simp; omega))
      have HB3 := Lib.hid (Blk.keep (w := wS.drew) HBS.out hf3 (by simp; omega))
      obtain ⟨v0, v1, v2, v3, v4, v5, v6, r0, r1, r2, r3, r4, r5, r6⟩ := c7_of HX3.out
      obtain ⟨z0, z1, z2, z3, z4, z5, z6, q0, q1, q2, q3, q4, q5, q6⟩ := c7_of HB3.out
      have hl9 := HX3.out.lt
      have hl10 := HB3.out.lt
      have hq3 : ¬ w1.heap.size = w3.heap.size := by omega
      have hq4 : ¬ w3.heap.size = w1.heap.size := by omega
      have hq5 : ¬ w.heap.size = w3.heap.size := by omega
      have hq6 : ¬ w3.heap.size = w.heap.size := by omega
      clear hx3 h3 hf3 hrep3)
    all_goals
      go_wp2_with fail
      have hL := Rep.L.cons _ _ _ _ (Rep.E.mono (A' := fun g => w.heap.size + 1 ≤ g) (fun g hg => by have := hg.1; simp at this; omega) (Rep.E.keep HF3.out (fun g hg => by have := hg.1; simp at this; simp; omega) (Rep.E.keep (Fr.drew (Fr.refl [] wS)) (fun g _ => by simp) HES.out))) (Rep.L.cons _ _ _ _ (Rep.E.mono (A' := fun g => w.heap.size + 1 ≤ g) (fun g hg => by have := HFS.out.size; have := HXS2.out.lt; simp at hg; omega) HREP3.out) .nil)
      obtain ⟨W', hW, hb, he, hp, hf⟩ := op_end (o := o) HB3.out hL (fun g hg => ⟨by omega, by omega⟩) (by simp [maxLen])
      subst hW
      refine bodyPost_ret (ret_cell7 rfl _ w.heap.size rfl _ _ _ _ _ _ _ _ hb) rfl ?_
      rw [HRS.out]
      exact ⟨⟨_, rfl, he⟩, hp P g _ H3.out (by omega) (by omega), hf _ _ (HFS.out.trans HF3.out) (Nat.le_refl _)⟩
end Px
end Go.Proofs.YtpmgecnkcllneaaDoor
