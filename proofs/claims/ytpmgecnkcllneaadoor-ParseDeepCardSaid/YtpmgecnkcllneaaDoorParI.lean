/- parse: and, expr, sum, term. -/
import Derived.Test.YtpmgecnkcllneaaDoorParH
namespace Go.Proofs.YtpmgecnkcllneaaDoor
open Go.RowKit
namespace Px
open PM (PS B Ex)

theorem find_or (wd : B) : PM.opOr wd = find [([111, 114], 15)] wd := rfl
theorem find_and (wd : B) : PM.opAnd wd = find [([97, 110, 100], 14)] wd := rfl
theorem find_sum (wd : B) : PM.opSum wd = find [([43], 5), ([45], 6)] wd := rfl
theorem find_term (wd : B) : PM.opTerm wd = find [([42], 7)] wd := rfl

set_option maxRecDepth 100000 in
set_option maxHeartbeats 2000000 in
theorem and_any (n : Nat) (f : PS → Ex × PS) (hg : PM.Good f) (hr : ∀ P g w, Reads P g w 68 #[.pointer (some ⟨P, 0, none⟩)] n f) (P g : Nat) (w0 : World) :
    Reads P g w0 56 #[.pointer (some ⟨P, 0, none⟩)] n (PM.rows f PM.opAnd) := by
  intro w s _ h hn h0 h64
  have hPl := h.lt
  have hgP := h.ne
  have HP : Hid (PR ((w.alloc (.cells z7.toArray 40)).alloc (mapObj [([97, 110, 100], 14)])) P g s) := (h.alloc _).alloc _
  have HM : Hid (Asks P ((w.alloc (.cells z7.toArray 40)).alloc (mapObj [([97, 110, 100], 14)])) (.map (some (w.heap.size + 1))) PM.opAnd) :=
    asks_of (b := w.heap.size + 1) (by have := heap_alloc_new (w.alloc (.cells z7.toArray 40)) (mapObj [([97, 110, 100], 14)]); rwa [World.size_alloc] at this) (by omega) find_and
  have HB : Hid (Blk ((w.alloc (.cells z7.toArray 40)).alloc (mapObj [([97, 110, 100], 14)])) w.heap.size 40 z7) := Blk.alloc (Blk.new w 40 z7) _
  have HF0 : Hid (Fr [some P] w ((w.alloc (.cells z7.toArray 40)).alloc (mapObj [([97, 110, 100], 14)]))) := ((Fr.refl [some P] w).alloc _).alloc _
  have HG := Lib.hid hg
  have HR := Lib.hid hr
  clear h hg hr
  have hmk := fun w => run_make w
  have hp0 := run_put (w.alloc (.cells z7.toArray 40)) [] [97, 110, 100] 14 (by simp)
  simp only [World.size_alloc, List.nil_append, z7] at hp0
  go_enter Tryd.func56, Tryd.ntmps56
  go_wp2_with fail
  refine (rows_any P g s 68 #[.pointer (some ⟨P, 0, none⟩)] #[] n f _ PM.opAnd _ HP.out h0 h64 hn (fun w => by kernel_rfl) (HR.out P g _) (fun s => (HG.out s).1) (fun s => (HG.out s).2) HM.out rfl).mono ?_
  rintro e w1 ⟨hx, h1, hf1⟩
  obtain ⟨op, kind, int, t, tb, nm, va, vl, vc, rfl, hrep⟩ := ex_cells hx
  have HREP := Lib.hid hrep
  have H1 := Lib.hid h1
  have HB1 := Lib.hid (HB.out.keep hf1 (by simp; omega))
  have HF1 := Lib.hid (HF0.out.trans hf1)
  have hs1 := hf1.size
  simp only [World.size_alloc] at hs1
  obtain ⟨y0, y1, y2, y3, y4, y5, y6, k0, k1, k2, k3, k4, k5, k6⟩ := c7_of HB1.out
  clear hx h1 hf1 hrep hmk
  go_wp2_with fail
  refine bodyPost_ret (ret_cell7 rfl _ w.heap.size rfl _ _ _ _ _ _ _ _ (blkPut7 HB1.out rfl _ _ _ _ _ _ _)) rfl ⟨?_, ?_, frPut7 HF1.out (.inr (Nat.le_refl _)) _ _ _ _ _ _ _⟩
  · refine ⟨_, rfl, Rep.E.mono (fun b hb => ?_) (Rep.E.keep (frPut7 (Fr.refl [some w.heap.size] _) (.inl (by simp)) _ _ _ _ _ _ _) (fun b hb => ?_) HREP.out)⟩
    · have hb' : w.heap.size + 1 + 1 ≤ b := by simpa using hb
      omega
    · have hb' : w.heap.size + 1 + 1 ≤ b := by simpa using hb
      simp
      omega
  · exact H1.out.keep (frPut7 (Fr.refl [some w.heap.size] _) (.inl (by simp)) _ _ _ _ _ _ _) (by simp; omega) (by simp; omega)

set_option maxRecDepth 100000 in
set_option maxHeartbeats 2000000 in
theorem expr_any (n : Nat) (f : PS → Ex × PS) (hg : PM.Good f) (hr : ∀ P g w, Reads P g w 56 #[.pointer (some ⟨P, 0, none⟩)] n f) (P g : Nat) (w0 : World) :
    Reads P g w0 35 #[.pointer (some ⟨P, 0, none⟩)] n (PM.rows f PM.opOr) := by
  intro w s _ h hn h0 h64
  have hPl := h.lt
  have hgP := h.ne
  have HP : Hid (PR ((w.alloc (.cells z7.toArray 40)).alloc (mapObj [([111, 114], 15)])) P g s) := (h.alloc _).alloc _
  have HM : Hid (Asks P ((w.alloc (.cells z7.toArray 40)).alloc (mapObj [([111, 114], 15)])) (.map (some (w.heap.size + 1))) PM.opOr) :=
    asks_of (b := w.heap.size + 1) (by have := heap_alloc_new (w.alloc (.cells z7.toArray 40)) (mapObj [([111, 114], 15)]); rwa [World.size_alloc] at this) (by omega) find_or
  have HB : Hid (Blk ((w.alloc (.cells z7.toArray 40)).alloc (mapObj [([111, 114], 15)])) w.heap.size 40 z7) := Blk.alloc (Blk.new w 40 z7) _
  have HF0 : Hid (Fr [some P] w ((w.alloc (.cells z7.toArray 40)).alloc (mapObj [([111, 114], 15)]))) := ((Fr.refl [some P] w).alloc _).alloc _
  have HG := Lib.hid hg
  have HR := Lib.hid hr
  clear h hg hr
  have hmk := fun w => run_make w
  have hp0 := run_put (w.alloc (.cells z7.toArray 40)) [] [111, 114] 15 (by simp)
  simp only [World.size_alloc, List.nil_append, z7] at hp0
  go_enter Tryd.func35, Tryd.ntmps35
  go_wp2_with fail
  refine (rows_any P g s 56 #[.pointer (some ⟨P, 0, none⟩)] #[] n f _ PM.opOr _ HP.out h0 h64 hn (fun w => by kernel_rfl) (HR.out P g _) (fun s => (HG.out s).1) (fun s => (HG.out s).2) HM.out rfl).mono ?_
  rintro e w1 ⟨hx, h1, hf1⟩
  obtain ⟨op, kind, int, t, tb, nm, va, vl, vc, rfl, hrep⟩ := ex_cells hx
  have HREP := Lib.hid hrep
  have H1 := Lib.hid h1
  have HB1 := Lib.hid (HB.out.keep hf1 (by simp; omega))
  have HF1 := Lib.hid (HF0.out.trans hf1)
  have hs1 := hf1.size
  simp only [World.size_alloc] at hs1
  obtain ⟨y0, y1, y2, y3, y4, y5, y6, k0, k1, k2, k3, k4, k5, k6⟩ := c7_of HB1.out
  clear hx h1 hf1 hrep hmk
  go_wp2_with fail
  refine bodyPost_ret (ret_cell7 rfl _ w.heap.size rfl _ _ _ _ _ _ _ _ (blkPut7 HB1.out rfl _ _ _ _ _ _ _)) rfl ⟨?_, ?_, frPut7 HF1.out (.inr (Nat.le_refl _)) _ _ _ _ _ _ _⟩
  · refine ⟨_, rfl, Rep.E.mono (fun b hb => ?_) (Rep.E.keep (frPut7 (Fr.refl [some w.heap.size] _) (.inl (by simp)) _ _ _ _ _ _ _) (fun b hb => ?_) HREP.out)⟩
    · have hb' : w.heap.size + 1 + 1 ≤ b := by simpa using hb
      omega
    · have hb' : w.heap.size + 1 + 1 ≤ b := by simpa using hb
      simp
      omega
  · exact H1.out.keep (frPut7 (Fr.refl [some w.heap.size] _) (.inl (by simp)) _ _ _ _ _ _ _) (by simp; omega) (by simp; omega)

set_option maxRecDepth 100000 in
set_option maxHeartbeats 2000000 in
theorem term_any (n : Nat) (f : PS → Ex × PS) (hg : PM.Good f) (hr : ∀ P g w, Reads P g w 92 #[.pointer (some ⟨P, 0, none⟩)] n f) (P g : Nat) (w0 : World) :
    Reads P g w0 87 #[.pointer (some ⟨P, 0, none⟩)] n (PM.rows f PM.opTerm) := by
  intro w s _ h hn h0 h64
  have hPl := h.lt
  have hgP := h.ne
  have HP : Hid (PR ((w.alloc (.cells z7.toArray 40)).alloc (mapObj [([42], 7)])) P g s) := (h.alloc _).alloc _
  have HM : Hid (Asks P ((w.alloc (.cells z7.toArray 40)).alloc (mapObj [([42], 7)])) (.map (some (w.heap.size + 1))) PM.opTerm) :=
    asks_of (b := w.heap.size + 1) (by have := heap_alloc_new (w.alloc (.cells z7.toArray 40)) (mapObj [([42], 7)]); rwa [World.size_alloc] at this) (by omega) find_term
  have HB : Hid (Blk ((w.alloc (.cells z7.toArray 40)).alloc (mapObj [([42], 7)])) w.heap.size 40 z7) := Blk.alloc (Blk.new w 40 z7) _
  have HF0 : Hid (Fr [some P] w ((w.alloc (.cells z7.toArray 40)).alloc (mapObj [([42], 7)]))) := ((Fr.refl [some P] w).alloc _).alloc _
  have HG := Lib.hid hg
  have HR := Lib.hid hr
  clear h hg hr
  have hmk := fun w => run_make w
  have hp0 := run_put (w.alloc (.cells z7.toArray 40)) [] [42] 7 (by simp)
  simp only [World.size_alloc, List.nil_append, z7] at hp0
  go_enter Tryd.func87, Tryd.ntmps87
  go_wp2_with fail
  refine (rows_any P g s 92 #[.pointer (some ⟨P, 0, none⟩)] #[] n f _ PM.opTerm _ HP.out h0 h64 hn (fun w => by kernel_rfl) (HR.out P g _) (fun s => (HG.out s).1) (fun s => (HG.out s).2) HM.out rfl).mono ?_
  rintro e w1 ⟨hx, h1, hf1⟩
  obtain ⟨op, kind, int, t, tb, nm, va, vl, vc, rfl, hrep⟩ := ex_cells hx
  have HREP := Lib.hid hrep
  have H1 := Lib.hid h1
  have HB1 := Lib.hid (HB.out.keep hf1 (by simp; omega))
  have HF1 := Lib.hid (HF0.out.trans hf1)
  have hs1 := hf1.size
  simp only [World.size_alloc] at hs1
  obtain ⟨y0, y1, y2, y3, y4, y5, y6, k0, k1, k2, k3, k4, k5, k6⟩ := c7_of HB1.out
  clear hx h1 hf1 hrep hmk
  go_wp2_with fail
  refine bodyPost_ret (ret_cell7 rfl _ w.heap.size rfl _ _ _ _ _ _ _ _ (blkPut7 HB1.out rfl _ _ _ _ _ _ _)) rfl ⟨?_, ?_, frPut7 HF1.out (.inr (Nat.le_refl _)) _ _ _ _ _ _ _⟩
  · refine ⟨_, rfl, Rep.E.mono (fun b hb => ?_) (Rep.E.keep (frPut7 (Fr.refl [some w.heap.size] _) (.inl (by simp)) _ _ _ _ _ _ _) (fun b hb => ?_) HREP.out)⟩
    · have hb' : w.heap.size + 1 + 1 ≤ b := by simpa using hb
      omega
    · have hb' : w.heap.size + 1 + 1 ≤ b := by simpa using hb
      simp
      omega
  · exact H1.out.keep (frPut7 (Fr.refl [some w.heap.size] _) (.inl (by simp)) _ _ _ _ _ _ _) (by simp; omega) (by simp; omega)

set_option maxRecDepth 100000 in
set_option maxHeartbeats 2000000 in
theorem sum_any (n : Nat) (f : PS → Ex × PS) (hg : PM.Good f) (hr : ∀ P g w, Reads P g w 87 #[.pointer (some ⟨P, 0, none⟩)] n f) (P g : Nat) (w0 : World) :
    Reads P g w0 82 #[.pointer (some ⟨P, 0, none⟩)] n (PM.rows f PM.opSum) := by
  intro w s _ h hn h0 h64
  have hPl := h.lt
  have hgP := h.ne
  have HP : Hid (PR ((w.alloc (.cells z7.toArray 40)).alloc (mapObj [([43], 5), ([45], 6)])) P g s) := (h.alloc _).alloc _
  have HM : Hid (Asks P ((w.alloc (.cells z7.toArray 40)).alloc (mapObj [([43], 5), ([45], 6)])) (.map (some (w.heap.size + 1))) PM.opSum) :=
    asks_of (b := w.heap.size + 1) (by have := heap_alloc_new (w.alloc (.cells z7.toArray 40)) (mapObj [([43], 5), ([45], 6)]); rwa [World.size_alloc] at this) (by omega) find_sum
  have HB : Hid (Blk ((w.alloc (.cells z7.toArray 40)).alloc (mapObj [([43], 5), ([45], 6)])) w.heap.size 40 z7) := Blk.alloc (Blk.new w 40 z7) _
  have HF0 : Hid (Fr [some P] w ((w.alloc (.cells z7.toArray 40)).alloc (mapObj [([43], 5), ([45], 6)]))) := ((Fr.refl [some P] w).alloc _).alloc _
  have HG := Lib.hid hg
  have HR := Lib.hid hr
  clear h hg hr
  have hmk := fun w => run_make w
  have hp0 := run_put (w.alloc (.cells z7.toArray 40)) [] [43] 5 (by simp)
  simp only [World.size_alloc, List.nil_append, z7] at hp0
  have hp1 := run_put (w.alloc (.cells z7.toArray 40)) [([43], 5)] [45] 6 (by simp)
  simp only [World.size_alloc, List.cons_append, List.nil_append, z7] at hp1
  go_enter Tryd.func82, Tryd.ntmps82
  go_wp2_with fail
  refine (rows_any P g s 87 #[.pointer (some ⟨P, 0, none⟩)] #[] n f _ PM.opSum _ HP.out h0 h64 hn (fun w => by kernel_rfl) (HR.out P g _) (fun s => (HG.out s).1) (fun s => (HG.out s).2) HM.out rfl).mono ?_
  rintro e w1 ⟨hx, h1, hf1⟩
  obtain ⟨op, kind, int, t, tb, nm, va, vl, vc, rfl, hrep⟩ := ex_cells hx
  have HREP := Lib.hid hrep
  have H1 := Lib.hid h1
  have HB1 := Lib.hid (HB.out.keep hf1 (by simp; omega))
  have HF1 := Lib.hid (HF0.out.trans hf1)
  have hs1 := hf1.size
  simp only [World.size_alloc] at hs1
  obtain ⟨y0, y1, y2, y3, y4, y5, y6, k0, k1, k2, k3, k4, k5, k6⟩ := c7_of HB1.out
  clear hx h1 hf1 hrep hmk
  go_wp2_with fail
  refine bodyPost_ret (ret_cell7 rfl _ w.heap.size rfl _ _ _ _ _ _ _ _ (blkPut7 HB1.out rfl _ _ _ _ _ _ _)) rfl ⟨?_, ?_, frPut7 HF1.out (.inr (Nat.le_refl _)) _ _ _ _ _ _ _⟩
  · refine ⟨_, rfl, Rep.E.mono (fun b hb => ?_) (Rep.E.keep (frPut7 (Fr.refl [some w.heap.size] _) (.inl (by simp)) _ _ _ _ _ _ _) (fun b hb => ?_) HREP.out)⟩
    · have hb' : w.heap.size + 1 + 1 ≤ b := by simpa using hb
      omega
    · have hb' : w.heap.size + 1 + 1 ≤ b := by simpa using hb
      simp
      omega
  · exact H1.out.keep (frPut7 (Fr.refl [some w.heap.size] _) (.inl (by simp)) _ _ _ _ _ _ _) (by simp; omega) (by simp; omega)
end Px
end Go.Proofs.YtpmgecnkcllneaaDoor
