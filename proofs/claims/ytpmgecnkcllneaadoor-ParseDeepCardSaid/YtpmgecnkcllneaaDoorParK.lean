/- parse: the closures of not and unary; not, unary; how deep they go. -/
import Derived.Test.YtpmgecnkcllneaaDoorParJ
namespace Go.Proofs.YtpmgecnkcllneaaDoor
open Go.RowKit
namespace Px
open PM (PS B Ex)
open Lx (tokV tokA)

/-- a captured variable: the parser's own pointer -/
def Box (w : World) (P b : Nat) : Prop := w.cell? ⟨b, 0, none⟩ = some (.pointer (some ⟨P, 0, none⟩)) ∧ b < w.heap.size ∧ b ≠ P
theorem Box.keep {w w' : World} {P b : Nat} (h : Box w P b) (hf : Fr [some P] w w') : Box w' P b :=
  ⟨(hf.cell h.2.1 (by simp; exact h.2.2)).trans h.1, Nat.lt_of_lt_of_le h.2.1 hf.size, h.2.2⟩
theorem Box.cell {w : World} {P b : Nat} (h : Box w P b) : w.cell? ⟨b, 0, none⟩ = some (.pointer (some ⟨P, 0, none⟩)) := h.1

set_option maxRecDepth 100000 in
set_option maxHeartbeats 2000000 in
theorem not1_any (n : Nat) (f : PS → Ex × PS) (hr : ∀ P g w, Reads P g w 68 #[.pointer (some ⟨P, 0, none⟩)] n f) (P g b : Nat) (w0 : World) (hb : Box w0 P b) :
    Reads P g w0 76 #[.pointer (some ⟨b, 0, none⟩)] n (fun s => (PM.un 4 (f s).1, (f s).2)) := by
  intro w s hf0 h hn h0 h64
  have hPl := h.lt
  have hgP := h.ne
  have hbx := (hb.keep hf0).cell
  have hbl := (hb.keep hf0).2.1
  have hbn : ¬ b = w.heap.size := by omega
  have HC1 := Lib.hid (hr P g (w.alloc (.cells z7.toArray 40)) _ s (Fr.refl _ _) (h.alloc _) hn h0 h64)
  clear h hr hb hf0
  go_enter Tryd.func76, Tryd.ntmps76
  go_wp2_with fail
  refine HC1.out.mono ?_
  rintro e w1 ⟨hx, h1, hf1⟩
  obtain ⟨op, kind, int, t, tb, nm, va, vl, vc, rfl, hrep⟩ := ex_cells hx
  obtain ⟨⟨x, s1⟩, hxs⟩ : ∃ r, f s = r := ⟨_, rfl⟩
  rw [hxs] at h1 hrep
  simp only [] at h1 hrep
  have HXS := Lib.hid hxs
  have HREP := Lib.hid hrep
  have H1 := Lib.hid h1
  have HB1 : Hid (Blk w1 w.heap.size 40 z7) := Lib.hid ((Blk.new w 40 z7).keep hf1 (by simp; omega))
  have HF1 : Hid (Fr [some P] w w1) := ((Fr.refl [some P] w).alloc _).trans hf1
  have hl1 := HB1.out.lt
  obtain ⟨y0, y1, y2, y3, y4, y5, y6, k0, k1, k2, k3, k4, k5, k6⟩ := c7_of HB1.out
  clear hx h1 hf1 hrep hxs
  go_wp2_with fail
  have hL := Rep.L.cons _ _ _ _ (Rep.E.mono (A' := fun g => w.heap.size + 1 ≤ g) (fun g hg => by simp at hg; omega) HREP.out) .nil
  obtain ⟨W', hW, hb, he, hp, hf⟩ := op_end (o := 4) HB1.out hL (fun g hg => ⟨by omega, by omega⟩) (by simp [maxLen])
  subst hW
  refine bodyPost_ret (ret_cell7 rfl _ w.heap.size rfl _ _ _ _ _ _ _ _ hb) rfl ?_
  rw [HXS.out]
  exact ⟨⟨_, rfl, he⟩, hp P g _ H1.out (by omega) (by omega), hf _ _ HF1.out (Nat.le_refl _)⟩

set_option maxRecDepth 100000 in
set_option maxHeartbeats 2000000 in
theorem unary1_any (n : Nat) (f : PS → Ex × PS) (hr : ∀ P g w, Reads P g w 92 #[.pointer (some ⟨P, 0, none⟩)] n f) (P g b : Nat) (w0 : World) (hb : Box w0 P b) :
    Reads P g w0 94 #[.pointer (some ⟨b, 0, none⟩)] n (fun s => (PM.un 3 (f s).1, (f s).2)) := by
  intro w s hf0 h hn h0 h64
  have hPl := h.lt
  have hgP := h.ne
  have hbx := (hb.keep hf0).cell
  have hbl := (hb.keep hf0).2.1
  have hbn : ¬ b = w.heap.size := by omega
  have HC1 := Lib.hid (hr P g (w.alloc (.cells z7.toArray 40)) _ s (Fr.refl _ _) (h.alloc _) hn h0 h64)
  clear h hr hb hf0
  go_enter Tryd.func94, Tryd.ntmps94
  go_wp2_with fail
  refine HC1.out.mono ?_
  rintro e w1 ⟨hx, h1, hf1⟩
  obtain ⟨op, kind, int, t, tb, nm, va, vl, vc, rfl, hrep⟩ := ex_cells hx
  obtain ⟨⟨x, s1⟩, hxs⟩ : ∃ r, f s = r := ⟨_, rfl⟩
  rw [hxs] at h1 hrep
  simp only [] at h1 hrep
  have HXS := Lib.hid hxs
  have HREP := Lib.hid hrep
  have H1 := Lib.hid h1
  have HB1 : Hid (Blk w1 w.heap.size 40 z7) := Lib.hid ((Blk.new w 40 z7).keep hf1 (by simp; omega))
  have HF1 : Hid (Fr [some P] w w1) := ((Fr.refl [some P] w).alloc _).trans hf1
  have hl1 := HB1.out.lt
  obtain ⟨y0, y1, y2, y3, y4, y5, y6, k0, k1, k2, k3, k4, k5, k6⟩ := c7_of HB1.out
  clear hx h1 hf1 hrep hxs
  go_wp2_with fail
  have hL := Rep.L.cons _ _ _ _ (Rep.E.mono (A' := fun g => w.heap.size + 1 ≤ g) (fun g hg => by simp at hg; omega) HREP.out) .nil
  obtain ⟨W', hW, hb, he, hp, hf⟩ := op_end (o := 3) HB1.out hL (fun g hg => ⟨by omega, by omega⟩) (by simp [maxLen])
  subst hW
  refine bodyPost_ret (ret_cell7 rfl _ w.heap.size rfl _ _ _ _ _ _ _ _ hb) rfl ?_
  rw [HXS.out]
  exact ⟨⟨_, rfl, he⟩, hp P g _ H1.out (by omega) (by omega), hf _ _ HF1.out (Nat.le_refl _)⟩

set_option maxRecDepth 100000 in
set_option maxHeartbeats 2000000 in
theorem unary2_any (n : Nat) (f : PS → Ex × PS) (hr : ∀ P g w, Reads P g w 35 #[.pointer (some ⟨P, 0, none⟩)] n f) (P g b : Nat) (w0 : World) (hb : Box w0 P b) :
    Reads P g w0 95 #[.pointer (some ⟨b, 0, none⟩)] n (fun s => ((f s).1, PM.needs [[41]] (f s).2)) := by
  intro w s hf0 h hn h0 h64
  have hPl := h.lt
  have hgP := h.ne
  have HBX := Lib.hid (hb.keep hf0)
  have hbx := HBX.out.cell
  have hbl := HBX.out.2.1
  have hbn : ¬ b = w.heap.size := by omega
  have HC1 := Lib.hid (hr P g (w.alloc (.cells z7.toArray 40)) _ s (Fr.refl _ _) (h.alloc _) hn h0 h64)
  clear h hr hb hf0
  go_enter Tryd.func95, Tryd.ntmps95
  go_wp2_with fail
  refine HC1.out.mono ?_
  rintro e w1 ⟨hx, h1, hf1⟩
  obtain ⟨op, kind, int, t, tb, nm, va, vl, vc, rfl, hrep⟩ := ex_cells hx
  obtain ⟨⟨x, s1⟩, hxs⟩ : ∃ r, f s = r := ⟨_, rfl⟩
  rw [hxs] at h1 hrep
  simp only [] at h1 hrep
  have HXS := Lib.hid hxs
  have HREP := Lib.hid hrep.live
  have H1 := Lib.hid h1
  have HB1 : Hid (Blk w1 w.heap.size 40 z7) := Lib.hid ((Blk.new w 40 z7).keep hf1 (by simp; omega))
  have HF1 : Hid (Fr [some P] w w1) := ((Fr.refl [some P] w).alloc _).trans hf1
  have HBX1 := Lib.hid (HBX.out.keep HF1.out)
  have hbx1 := HBX1.out.cell
  have hbl1 := HBX1.out.2.1
  have hl1 := HB1.out.lt
  have hPl1 := H1.out.lt
  clear hx h1 hf1 hrep hxs hbx
  go_wp2_with fail
  refine (needs_any P g s1 [[41]] (w1.heap.size + 1) 0 1 _ ((H1.out.alloc _).alloc _) (by simp) ?_ (by omega) (by simp)).mono ?_
  · intro j hj
    obtain rfl : j = 0 := by simp at hj; omega
    have := (Blk.new (w1.alloc (.cells #[.int .i64 op, .int .i64 kind, .int .i64 int, .string ⟨t.toArray⟩, .string ⟨tb.toArray⟩, .string ⟨nm.toArray⟩, .slice va vl vc] 40)) 9 [.string ⟨#[41]⟩]).cell 0
    rw [World.size_alloc] at this
    exact this
  rintro e w2 ⟨rfl, h2, hf2⟩
  have H2 := Lib.hid h2
  have hfa : Fr [] w1 ((w1.alloc (.cells #[.int .i64 op, .int .i64 kind, .int .i64 int, .string ⟨t.toArray⟩, .string ⟨tb.toArray⟩, .string ⟨nm.toArray⟩, .slice va vl vc] 40)).alloc (.cells #[.string ⟨#[41]⟩] 9)) := ((Fr.refl [] w1).alloc _).alloc _
  have HX2 := Lib.hid ((Blk.alloc (Blk.new w1 40 [.int .i64 op, .int .i64 kind, .int .i64 int, .string ⟨t.toArray⟩, .string ⟨tb.toArray⟩, .string ⟨nm.toArray⟩, .slice va vl vc]) (.cells #[.string ⟨#[41]⟩] 9)).keep hf2 (by simp; omega))
  have HB2 := Lib.hid ((HB1.out.keep hfa (by simp)).keep hf2 (by simp; omega))
  have HE2 := Lib.hid (Rep.E.keep hf2 (fun g hg => by have := hg.1; simp at this; simp; omega) (Rep.E.keep hfa (fun g _ => by simp) HREP.out))
  have HF2 : Hid (Fr [some P] w w2) := (HF1.out.trans' hfa (by simp)).trans hf2
  have hl2 := HX2.out.lt
  have hl3 := HB2.out.lt
  have hq1 : ¬ w1.heap.size = w.heap.size := by omega
  have hq2 : ¬ w.heap.size = w1.heap.size := by omega
  obtain ⟨x0, x1, x2, x3, x4, x5, x6, g0, g1, g2, g3, g4, g5, g6⟩ := c7_of HX2.out
  obtain ⟨y0, y1, y2, y3, y4, y5, y6, k0, k1, k2, k3, k4, k5, k6⟩ := c7_of HB2.out
  clear h2 hf2 hfa
  go_wp2_with fail
  refine bodyPost_ret (ret_cell7 rfl _ w.heap.size rfl _ _ _ _ _ _ _ _ (blkPut7 HB2.out rfl _ _ _ _ _ _ _)) rfl ⟨?_, ?_, frPut7 HF2.out (.inr (Nat.le_refl _)) _ _ _ _ _ _ _⟩
  all_goals rw [HXS.out]
  · refine ⟨_, rfl, Rep.E.mono (fun g hg => ?_) (Rep.E.keep (frPut7 (Fr.refl [some w.heap.size] _) (.inl (by simp)) _ _ _ _ _ _ _) (fun g hg => ?_) HE2.out)⟩
    · have := hg.1
      simp at this
      omega
    · have := hg.1
      simp at this
      simp
      omega
  · exact H2.out.keep (frPut7 (Fr.refl [some w.heap.size] _) (.inl (by simp)) _ _ _ _ _ _ _) (by simp; omega) (by simp; omega)
end Px
end Go.Proofs.YtpmgecnkcllneaaDoor
