/- parse: and, expr, sum, term. -/
import Derived.Test.YtmdnhinpaflamaaGreatDoorPaA
namespace Go.Proofs.YtmdnhinpaflamaaGreatDoor
open Go.RowKit
namespace Px
open PM (PS B Ex)

theorem find_or (wd : B) : PM.opOr wd = find [([111, 114], 15)] wd := rfl
theorem find_and (wd : B) : PM.opAnd wd = find [([97, 110, 100], 14)] wd := rfl
theorem find_sum (wd : B) : PM.opSum wd = find [([43], 5), ([45], 6)] wd := rfl
theorem find_term (wd : B) : PM.opTerm wd = find [([42], 7)] wd := rfl

set_option maxRecDepth 100000 in
set_option maxHeartbeats 2000000 in
theorem and_any (n : Nat) (f : PS → Ex × PS) (hg : PM.Good f) (hr : ∀ P g w, Reads P g w 135 #[.pointer (some ⟨P, 0, none⟩)] n f) (P g : Nat) (w0 : World) :
    Reads P g w0 105 #[.pointer (some ⟨P, 0, none⟩)] n (PM.rows f PM.opAnd) := by
  intro w s _ h hn h0 h64
  have hPl := h.lt
  have hgP := h.ne
  have HP : Hid (PR ((w.alloc (.cells z7.toArray 82)).alloc (mapObj [([97, 110, 100], 14)])) P g s) := (h.alloc _).alloc _
  have HM : Hid (Asks P ((w.alloc (.cells z7.toArray 82)).alloc (mapObj [([97, 110, 100], 14)])) (.map (some (w.heap.size + 1))) PM.opAnd) :=
    asks_of (b := w.heap.size + 1) (by have := heap_alloc_new (w.alloc (.cells z7.toArray 82)) (mapObj [([97, 110, 100], 14)]); rwa [World.size_alloc] at this) (by omega) find_and
  have HB : Hid (Blk ((w.alloc (.cells z7.toArray 82)).alloc (mapObj [([97, 110, 100], 14)])) w.heap.size 82 z7) := Blk.alloc (Blk.new w 82 z7) _
  have HF0 : Hid (Fr [some P] w ((w.alloc (.cells z7.toArray 82)).alloc (mapObj [([97, 110, 100], 14)]))) := ((Fr.refl [some P] w).alloc _).alloc _
  have HG := Lib.hid hg
  have HR := Lib.hid hr
  clear h hg hr
  have hmk := fun w => run_make w
  have hp0 := run_put (w.alloc (.cells z7.toArray 82)) [] [97, 110, 100] 14 (by simp)
  simp only [World.size_alloc, List.nil_append, z7] at hp0
  go_enter Tryz.func105, Tryz.ntmps105
  go_wp2_with fail
  refine (rows_any P g s 135 #[.pointer (some ⟨P, 0, none⟩)] #[] n f _ PM.opAnd _ HP.out h0 h64 hn (fun w => by kernel_rfl) (HR.out P g _) (fun s => (HG.out s).1) (fun s => (HG.out s).2) HM.out rfl).mono ?_
  rintro e w1 ⟨hx, h1, hf1⟩
  obtain ⟨op, kind, int, t, tb, nm, va, vl, vc, rfl, hrep⟩ := ex_cells hx
  have HREP := Lib.hid hrep
  have H1 := Lib.hid h1
  have HB1 := Lib.hid (HB.out.keep hf1 (by simp; omega))
  have HF1 := Lib.hid (HF0.out.trans hf1)
  have hs1 := hf1.size
  simp only [World.size_alloc] at hs1
  obtain ⟨y0, y1, y2, y3, y4, y5, y6, k0, k1, k2, k3, k4, k5, k6⟩ := c7_of HB1.out
  clear hx h1 hf1 hrep hmk
  go_wp2_with fail
  refine bodyPost_ret (ret_cell7 rfl _ w.heap.size rfl _ _ _ _ _ _ _ _ (blkPut7 HB1.out rfl _ _ _ _ _ _ _)) rfl ⟨?_, ?_, frPut7 HF1.out (.inr (Nat.le_refl _)) _ _ _ _ _ _ _⟩
  · refine ⟨_, rfl, Rep.E.mono (fun b hb => ?_) (Rep.E.keep (frPut7 (Fr.refl [some w.heap.size] _) (.inl (by simp)) _ _ _ _ _ _ _) (fun b hb => ?_) HREP.out)⟩
    · have hb' : w.heap.size + 1 + 1 ≤ b := by simpa using hb
      omega
    · have hb' : w.heap.size + 1 + 1 ≤ b := by simpa using hb
      simp
      omega
  · exact H1.out.keep (frPut7 (Fr.refl [some w.heap.size] _) (.inl (by simp)) _ _ _ _ _ _ _) (by simp; omega) (by simp; omega)

set_option maxRecDepth 100000 in
set_option maxHeartbeats 2000000 in
theorem expr_any (n : Nat) (f : PS → Ex × PS) (hg : PM.Good f) (hr : ∀ P g w, Reads P g w 105 #[.pointer (some ⟨P, 0, none⟩)] n f) (P g : Nat) (w0 : World) :
    Reads P g w0 55 #[.pointer (some ⟨P, 0, none⟩)] n (PM.rows f PM.opOr) := by
  intro w s _ h hn h0 h64
  have hPl := h.lt
  have hgP := h.ne
  have HP : Hid (PR ((w.alloc (.cells z7.toArray 82)).alloc (mapObj [([111, 114], 15)])) P g s) := (h.alloc _).alloc _
  have HM : Hid (Asks P ((w.alloc (.cells z7.toArray 82)).alloc (mapObj [([111, 114], 15)])) (.map (some (w.heap.size + 1))) PM.opOr) :=
    asks_of (b := w.heap.size + 1) (by have := heap_alloc_new (w.alloc (.cells z7.toArray 82)) (mapObj [([111, 114], 15)]); rwa [World.size_alloc] at this) (by omega) find_or
  have HB : Hid (Blk ((w.alloc (.cells z7.toArray 82)).alloc (mapObj [([111, 114], 15)])) w.heap.size 82 z7) := Blk.alloc (Blk.new w 82 z7) _
  have HF0 : Hid (Fr [some P] w ((w.alloc (.cells z7.toArray 82)).alloc (mapObj [([111, 114], 15)]))) := ((Fr.refl [some P] w).alloc _).alloc _
  have HG := Lib.hid hg
  have HR := Lib.hid hr
  clear h hg hr
  have hmk := fun w => run_make w
  have hp0 := run_put (w.alloc (.cells z7.toArray 82)) [] [111, 114] 15 (by simp)
  simp only [World.size_alloc, List.nil_append, z7] at hp0
  go_enter Tryz.func55, Tryz.ntmps55
  go_wp2_with fail
  refine (rows_any P g s 105 #[.pointer (some ⟨P, 0, none⟩)] #[] n f _ PM.opOr _ HP.out h0 h64 hn (fun w => by kernel_rfl) (HR.out P g _) (fun s => (HG.out s).1) (fun s => (HG.out s).2) HM.out rfl).mono ?_
  rintro e w1 ⟨hx, h1, hf1⟩
  obtain ⟨op, kind, int, t, tb, nm, va, vl, vc, rfl, hrep⟩ := ex_cells hx
  have HREP := Lib.hid hrep
  have H1 := Lib.hid h1
  have HB1 := Lib.hid (HB.out.keep hf1 (by simp; omega))
  have HF1 := Lib.hid (HF0.out.trans hf1)
  have hs1 := hf1.size
  simp only [World.size_alloc] at hs1
  obtain ⟨y0, y1, y2, y3, y4, y5, y6, k0, k1, k2, k3, k4, k5, k6⟩ := c7_of HB1.out
  clear hx h1 hf1 hrep hmk
  go_wp2_with fail
  refine bodyPost_ret (ret_cell7 rfl _ w.heap.size rfl _ _ _ _ _ _ _ _ (blkPut7 HB1.out rfl _ _ _ _ _ _ _)) rfl ⟨?_, ?_, frPut7 HF1.out (.inr (Nat.le_refl _)) _ _ _ _ _ _ _⟩
  · refine ⟨_, rfl, Rep.E.mono (fun b hb => ?_) (Rep.E.keep (frPut7 (Fr.refl [some w.heap.size] _) (.inl (by simp)) _ _ _ _ _ _ _) (fun b hb => ?_) HREP.out)⟩
    · have hb' : w.heap.size + 1 + 1 ≤ b := by simpa using hb
      omega
    · have hb' : w.heap.size + 1 + 1 ≤ b := by simpa using hb
      simp
      omega
  · exact H1.out.keep (frPut7 (Fr.refl [some w.heap.size] _) (.inl (by simp)) _ _ _ _ _ _ _) (by simp; omega) (by simp; omega)

set_option maxRecDepth 100000 in
set_option maxHeartbeats 2000000 in
theorem term_any (n : Nat) (f : PS → Ex × PS) (hg : PM.Good f) (hr : ∀ P g w, Reads P g w 182 #[.pointer (some ⟨P, 0, none⟩)] n f) (P g : Nat) (w0 : World) :
    Reads P g w0 175 #[.pointer (some ⟨P, 0, none⟩)] n (PM.rows f PM.opTerm) := by
  intro w s _ h hn h0 h64
  have hPl := h.lt
  have hgP := h.ne
  have HP : Hid (PR ((w.alloc (.cells z7.toArray 82)).alloc (mapObj [([42], 7)])) P g s) := (h.alloc _).alloc _
  have HM : Hid (Asks P ((w.alloc (.cells z7.toArray 82)).alloc (mapObj [([42], 7)])) (.map (some (w.heap.size + 1))) PM.opTerm) :=
    asks_of (b := w.heap.size + 1) (by have := heap_alloc_new (w.alloc (.cells z7.toArray 82)) (mapObj [([42], 7)]); rwa [World.size_alloc] at this) (by omega) find_term
  have HB : Hid (Blk ((w.alloc (.cells z7.toArray 82)).alloc (mapObj [([42], 7)])) w.heap.size 82 z7) := Blk.alloc (Blk.new w 82 z7) _
  have HF0 : Hid (Fr [some P] w ((w.alloc (.cells z7.toArray 82)).alloc (mapObj [([42], 7)]))) := ((Fr.refl [some P] w).alloc _).alloc _
  have HG := Lib.hid hg
  have HR := Lib.hid hr
  clear h hg hr
  have hmk := fun w => run_make w
  have hp0 := run_put (w.alloc (.cells z7.toArray 82)) [] [42] 7 (by simp)
  simp only [World.size_alloc, List.nil_append, z7] at hp0
  go_enter Tryz.func175, Tryz.ntmps175
  go_wp2_with fail
  refine (rows_any P g s 182 #[.pointer (some ⟨P, 0, none⟩)] #[] n f _ PM.opTerm _ HP.out h0 h64 hn (fun w => by kernel_rfl) (HR.out P g _) (fun s => (HG.out s).1) (fun s => (HG.out s).2) HM.out rfl).mono ?_
  rintro e w1 ⟨hx, h1, hf1⟩
  obtain ⟨op, kind, int, t, tb, nm, va, vl, vc, rfl, hrep⟩ := ex_cells hx
  have HREP := Lib.hid hrep
  have H1 := Lib.hid h1
  have HB1 := Lib.hid (HB.out.keep hf1 (by simp; omega))
  have HF1 := Lib.hid (HF0.out.trans hf1)
  have hs1 := hf1.size
  simp only [World.size_alloc] at hs1
  obtain ⟨y0, y1, y2, y3, y4, y5, y6, k0, k1, k2, k3, k4, k5, k6⟩ := c7_of HB1.out
  clear hx h1 hf1 hrep hmk
  go_wp2_with fail
  refine bodyPost_ret (ret_cell7 rfl _ w.heap.size rfl _ _ _ _ _ _ _ _ (blkPut7 HB1.out rfl _ _ _ _ _ _ _)) rfl ⟨?_, ?_, frPut7 HF1.out (.inr (Nat.le_refl _)) _ _ _ _ _ _ _⟩
  · refine ⟨_, rfl, Rep.E.mono (fun b hb => ?_) (Rep.E.keep (frPut7 (Fr.refl [some w.heap.size] _) (.inl (by simp)) _ _ _ _ _ _ _) (fun b hb => ?_) HREP.out)⟩
    · have hb' : w.heap.size + 1 + 1 ≤ b := by simpa using hb
      omega
    · have hb' : w.heap.size + 1 + 1 ≤ b := by simpa using hb
      simp
      omega
  · exact H1.out.keep (frPut7 (Fr.refl [some w.heap.size] _) (.inl (by simp)) _ _ _ _ _ _ _) (by simp; omega) (by simp; omega)

set_option maxRecDepth 100000 in
set_option maxHeartbeats 2000000 in
theorem sum_any (n : Nat) (f : PS → Ex × PS) (hg : PM.Good f) (hr : ∀ P g w, Reads P g w 175 #[.pointer (some ⟨P, 0, none⟩)] n f) (P g : Nat) (w0 : World) :
    Reads P g w0 163 #[.pointer (some ⟨P, 0, none⟩)] n (PM.rows f PM.opSum) := by
  intro w s _ h hn h0 h64
  have hPl := h.lt
  have hgP := h.ne
  have HP : Hid (PR ((w.alloc (.cells z7.toArray 82)).alloc (mapObj [([43], 5), ([45], 6)])) P g s) := (h.alloc _).alloc _
  have HM : Hid (Asks P ((w.alloc (.cells z7.toArray 82)).alloc (mapObj [([43], 5), ([45], 6)])) (.map (some (w.heap.size + 1))) PM.opSum) :=
    asks_of (b := w.heap.size + 1) (by have := heap_alloc_new (w.alloc (.cells z7.toArray 82)) (mapObj [([43], 5), ([45], 6)]); rwa [World.size_alloc] at this) (by omega) find_sum
  have HB : Hid (Blk ((w.alloc (.cells z7.toArray 82)).alloc (mapObj [([43], 5), ([45], 6)])) w.heap.size 82 z7) := Blk.alloc (Blk.new w 82 z7) _
  have HF0 : Hid (Fr [some P] w ((w.alloc (.cells z7.toArray 82)).alloc (mapObj [([43], 5), ([45], 6)]))) := ((Fr.refl [some P] w).alloc _).alloc _
  have HG := Lib.hid hg
  have HR := Lib.hid hr
  clear h hg hr
  have hmk := fun w => run_make w
  have hp0 := run_put (w.alloc (.cells z7.toArray 82)) [] [43] 5 (by simp)
  simp only [World.size_alloc, List.nil_append, z7] at hp0
  have hp1 := run_put (w.alloc (.cells z7.toArray 82)) [([43], 5)] [45] 6 (by simp)
  simp only [World.size_alloc, List.cons_append, List.nil_append, z7] at hp1
  go_enter Tryz.func163, Tryz.ntmps163
  go_wp2_with fail
  refine (rows_any P g s 175 #[.pointer (some ⟨P, 0, none⟩)] #[] n f _ PM.opSum _ HP.out h0 h64 hn (fun w => by kernel_rfl) (HR.out P g _) (fun s => (HG.out s).1) (fun s => (HG.out s).2) HM.out rfl).mono ?_
  rintro e w1 ⟨hx, h1, hf1⟩
  obtain ⟨op, kind, int, t, tb, nm, va, vl, vc, rfl, hrep⟩ := ex_cells hx
  have HREP := Lib.hid hrep
  have H1 := Lib.hid h1
  have HB1 := Lib.hid (HB.out.keep hf1 (by simp; omega))
  have HF1 := Lib.hid (HF0.out.trans hf1)
  have hs1 := hf1.size
  simp only [World.size_alloc] at hs1
  obtain ⟨y0, y1, y2, y3, y4, y5, y6, k0, k1, k2, k3, k4, k5, k6⟩ := c7_of HB1.out
  clear hx h1 hf1 hrep hmk
  go_wp2_with fail
  refine bodyPost_ret (ret_cell7 rfl _ w.heap.size rfl _ _ _ _ _ _ _ _ (blkPut7 HB1.out rfl _ _ _ _ _ _ _)) rfl ⟨?_, ?_, frPut7 HF1.out (.inr (Nat.le_refl _)) _ _ _ _ _ _ _⟩
  · refine ⟨_, rfl, Rep.E.mono (fun b hb => ?_) (Rep.E.keep (frPut7 (Fr.refl [some w.heap.size] _) (.inl (by simp)) _ _ _ _ _ _ _) (fun b hb => ?_) HREP.out)⟩
    · have hb' : w.heap.size + 1 + 1 ≤ b := by simpa using hb
      omega
    · have hb' : w.heap.size + 1 + 1 ≤ b := by simpa using hb
      simp
      omega
  · exact H1.out.keep (frPut7 (Fr.refl [some w.heap.size] _) (.inl (by simp)) _ _ _ _ _ _ _) (by simp; omega) (by simp; omega)
end Px
end Go.Proofs.YtmdnhinpaflamaaGreatDoor
namespace Go.Proofs.YtmdnhinpaflamaaGreatDoor
open Go.RowKit
namespace Px
open PM (PS B Ex)

def comps : List (B × Int) := [([61], 8), ([60, 62], 9), ([60], 10), ([60, 61], 11), ([62], 12), ([62, 61], 13)]
theorem find_comp (wd : B) : PM.opComp wd = find comps wd := rfl

/-- an operation over some expressions is laid: its seven cells in block R, what it is of in a new block -/
theorem op_end {A : Nat → Prop} {w3 : World} {R : Nat} {o : Int} {l : List Ex} {cs : List Value} (hB : Blk w3 R 82 z7) (hL : Rep.L 82 A w3 l cs) (hA : ∀ g, A g → g ≠ R ∧ R ≤ g) (hm : l.length ≤ maxLen) :
    ∃ W', (put7 w3 R (.int .i64 o) (.int .i64 0) (.int .i64 0) (.string ⟨#[]⟩) (.string ⟨#[]⟩) (.string ⟨#[]⟩) (.slice (some ⟨w3.heap.size, 0, none⟩) l.length l.length)).alloc (.cells cs.toArray 82) = W' ∧
      Blk W' R 82 [.int .i64 o, .int .i64 0, .int .i64 0, .string ⟨#[]⟩, .string ⟨#[]⟩, .string ⟨#[]⟩, .slice (some ⟨w3.heap.size, 0, none⟩) l.length l.length] ∧
      Rep.E 82 (fun g => R ≤ g) W' (.mk o 0 0 [] [] [] l) [.int .i64 o, .int .i64 0, .int .i64 0, .string ⟨#[]⟩, .string ⟨#[]⟩, .string ⟨#[]⟩, .slice (some ⟨w3.heap.size, 0, none⟩) l.length l.length] ∧
      (∀ P g s, PR w3 P g s → P ≠ R → g ≠ R → PR W' P g s) ∧ (∀ X w, Fr X w w3 → w.heap.size ≤ R → Fr X w W') := by
  have hRl := hB.lt
  have hf : Fr [some R] w3 ((put7 w3 R (.int .i64 o) (.int .i64 0) (.int .i64 0) (.string ⟨#[]⟩) (.string ⟨#[]⟩) (.string ⟨#[]⟩) (.slice (some ⟨w3.heap.size, 0, none⟩) l.length l.length)).alloc (.cells cs.toArray 82)) :=
    (frPut7 (Fr.refl [some R] w3) (.inl (by simp)) _ _ _ _ _ _ _).alloc _
  have hsz : (put7 w3 R (.int .i64 o) (.int .i64 0) (.int .i64 0) (.string ⟨#[]⟩) (.string ⟨#[]⟩) (.string ⟨#[]⟩) (.slice (some ⟨w3.heap.size, 0, none⟩) l.length l.length)).heap.size = w3.heap.size := by simp [put7, World.setCell]
  have hnew := Blk.new (put7 w3 R (.int .i64 o) (.int .i64 0) (.int .i64 0) (.string ⟨#[]⟩) (.string ⟨#[]⟩) (.string ⟨#[]⟩) (.slice (some ⟨w3.heap.size, 0, none⟩) l.length l.length)) 82 cs
  rw [hsz] at hnew
  have hlen := hL.length
  refine ⟨_, rfl, Blk.alloc (blkPut7 hB rfl _ _ _ _ _ _ _) _, ?_, fun P g s h h1 h2 => h.keep hf (by simp; exact h1) (by simp; exact h2), fun X w h h1 => h.trans' hf (fun i hi => .inr (by simp at hi; omega))⟩
  refine .mk o 0 0 [] [] [] l _ (.mk l _ cs (Rep.L.mono (fun g h => (hA g h).2) (Rep.L.keep hf (fun g h => by have := (hA g h).1; simp; exact this) hL)) ?_ ?_)
  · refine ⟨hlen, .inr ⟨w3.heap.size, 0, l.length, cs, rfl, hnew, Nat.le_refl _, hm, by omega, ?_⟩⟩
    rw [List.drop_zero, List.take_of_length_le (by omega)]
  · intro g hg
    simp only [Value.ownBlock, Option.some.injEq] at hg
    subst hg
    exact Nat.le_of_lt hRl

set_option maxRecDepth 100000 in
set_option maxHeartbeats 2000000 in
theorem comp_any (n : Nat) (u : PS → Ex × PS) (hg : PM.Good (PM.sumF u)) (hr : ∀ P g w, Reads P g w 163 #[.pointer (some ⟨P, 0, none⟩)] n (PM.sumF u)) (P g : Nat) (w0 : World) :
    Reads P g w0 147 #[.pointer (some ⟨P, 0, none⟩)] n (PM.compF u) := by
  intro w s _ h hn h0 h64
  have hPl := h.lt
  have hgP := h.ne
  have HP := Lib.hid h
  have HG := Lib.hid hg
  have HR := Lib.hid hr
  have HC1 := Lib.hid (hr P g (w.alloc (.cells z7.toArray 82)) _ s (Fr.refl _ _) (h.alloc _) hn h0 h64)
  clear h hg hr
  have hmk := fun w => run_make w
  go_enter Tryz.func147, Tryz.ntmps147
  go_wp2_with fail
  refine HC1.out.mono ?_
  rintro e w1 ⟨hx, h1, hf1⟩
  obtain ⟨op, kind, int, t, tb, nm, va, vl, vc, rfl, hrep⟩ := ex_cells hx
  obtain ⟨⟨x, s1⟩, hxs⟩ : ∃ r, PM.sumF u s = r := ⟨_, rfl⟩
  have hg1 := HG.out s
  rw [hxs] at h1 hrep hg1
  simp only [] at h1 hrep hg1
  have HXS := Lib.hid hxs
  have HREP := Lib.hid hrep
  have H1 := Lib.hid h1
  have HB1 : Hid (Blk w1 w.heap.size 82 z7) := Lib.hid ((Blk.new w 82 z7).keep hf1 (by simp; omega))
  have HF1 : Hid (Fr [some P] w w1) := ((Fr.refl [some P] w).alloc _).trans hf1
  have hs1 := hf1.size
  simp only [World.size_alloc] at hs1
  have hl1 : s1.l.length ≤ n := Nat.le_trans hg1.2 hn
  have hd1 := hg1.1
  clear hx h1 hf1 hrep hxs hg1
  have hp0 := run_put (w1.alloc (.cells #[.int .i64 op, .int .i64 kind, .int .i64 int, .string ⟨t.toArray⟩, .string ⟨tb.toArray⟩, .string ⟨nm.toArray⟩, .slice va vl vc] 82)) [] [61] 8 (by simp)
  simp only [World.size_alloc, List.nil_append] at hp0
  have hp1 := run_put (w1.alloc (.cells #[.int .i64 op, .int .i64 kind, .int .i64 int, .string ⟨t.toArray⟩, .string ⟨tb.toArray⟩, .string ⟨nm.toArray⟩, .slice va vl vc] 82)) [([61], 8)] [60, 62] 9 (by simp)
  simp only [World.size_alloc, List.cons_append, List.nil_append] at hp1
  have hp2 := run_put (w1.alloc (.cells #[.int .i64 op, .int .i64 kind, .int .i64 int, .string ⟨t.toArray⟩, .string ⟨tb.toArray⟩, .string ⟨nm.toArray⟩, .slice va vl vc] 82)) [([61], 8), ([60, 62], 9)] [60] 10 (by simp)
  simp only [World.size_alloc, List.cons_append, List.nil_append] at hp2
  have hp3 := run_put (w1.alloc (.cells #[.int .i64 op, .int .i64 kind, .int .i64 int, .string ⟨t.toArray⟩, .string ⟨tb.toArray⟩, .string ⟨nm.toArray⟩, .slice va vl vc] 82)) [([61], 8), ([60, 62], 9), ([60], 10)] [60, 61] 11 (by simp)
  simp only [World.size_alloc, List.cons_append, List.nil_append] at hp3
  have hp4 := run_put (w1.alloc (.cells #[.int .i64 op, .int .i64 kind, .int .i64 int, .string ⟨t.toArray⟩, .string ⟨tb.toArray⟩, .string ⟨nm.toArray⟩, .slice va vl vc] 82)) [([61], 8), ([60, 62], 9), ([60], 10), ([60, 61], 11)] [62] 12 (by simp)
  simp only [World.size_alloc, List.cons_append, List.nil_append] at hp4
  have hp5 := run_put (w1.alloc (.cells #[.int .i64 op, .int .i64 kind, .int .i64 int, .string ⟨t.toArray⟩, .string ⟨tb.toArray⟩, .string ⟨nm.toArray⟩, .slice va vl vc] 82)) [([61], 8), ([60, 62], 9), ([60], 10), ([60, 61], 11), ([62], 12)] [62, 61] 13 (by simp)
  simp only [World.size_alloc, List.cons_append, List.nil_append] at hp5
  have HP1 : Hid (PR ((w1.alloc (.cells #[.int .i64 op, .int .i64 kind, .int .i64 int, .string ⟨t.toArray⟩, .string ⟨tb.toArray⟩, .string ⟨nm.toArray⟩, .slice va vl vc] 82)).alloc (mapObj comps)) P g s1) := Lib.hid ((H1.out.alloc _).alloc _)
  have HX1 : Hid (Blk ((w1.alloc (.cells #[.int .i64 op, .int .i64 kind, .int .i64 int, .string ⟨t.toArray⟩, .string ⟨tb.toArray⟩, .string ⟨nm.toArray⟩, .slice va vl vc] 82)).alloc (mapObj comps)) w1.heap.size 82 [.int .i64 op, .int .i64 kind, .int .i64 int, .string ⟨t.toArray⟩, .string ⟨tb.toArray⟩, .string ⟨nm.toArray⟩, .slice va vl vc]) := Lib.hid (Blk.alloc (Blk.new w1 82 _) _)
  have HM1 : Hid (((w1.alloc (.cells #[.int .i64 op, .int .i64 kind, .int .i64 int, .string ⟨t.toArray⟩, .string ⟨tb.toArray⟩, .string ⟨nm.toArray⟩, .slice va vl vc] 82)).alloc (mapObj comps)).heap[w1.heap.size + 1]? = some (mapObj comps)) := Lib.hid (by have := heap_alloc_new (w1.alloc (.cells #[.int .i64 op, .int .i64 kind, .int .i64 int, .string ⟨t.toArray⟩, .string ⟨tb.toArray⟩, .string ⟨nm.toArray⟩, .slice va vl vc] 82)) (mapObj comps); rwa [World.size_alloc] at this)
  have HW1 : Hid (Fr [] w1 ((w1.alloc (.cells #[.int .i64 op, .int .i64 kind, .int .i64 int, .string ⟨t.toArray⟩, .string ⟨tb.toArray⟩, .string ⟨nm.toArray⟩, .slice va vl vc] 82)).alloc (mapObj comps))) := Lib.hid (((Fr.refl [] w1).alloc _).alloc _)
  have hPl1 := H1.out.lt
  have hRl1 := HB1.out.lt
  go_wp2_with fail
  refine (sign_any P g s1 _ HP1.out).mono ?_
  rintro e w2 ⟨rfl, h2, hf2⟩
  have hlk := (run_look w2 (w1.heap.size + 1) comps (PM.sign s1) ((hf2.blk (by simp) (by simp)).trans HM1.out)).1
  obtain ⟨sg, hsg⟩ : ∃ sg, PM.sign s1 = sg := ⟨_, rfl⟩
  rw [hsg] at hlk ⊢
  rw [← find_comp] at hlk
  have HX2 := Lib.hid (HX1.out.keep hf2 (by simp))
  have HB2 := Lib.hid ((HB1.out.keep HW1.out (by simp)).keep hf2 (by simp))
  have HF2 : Hid (Fr [some P] w w2) := Lib.hid ((HF1.out.trans' HW1.out (by simp)).trans' hf2 (by simp))
  have HE2 := Lib.hid (Rep.E.keep hf2 (fun g _ => by simp) (Rep.E.keep HW1.out (fun g _ => by simp) HREP.out.live))
  have H2 := Lib.hid h2
  have hs2 := hf2.size
  simp only [World.size_alloc] at hs2
  have hPl2 := h2.lt
  clear h2 hf2 hmk hp0 hp1 hp2 hp3 hp4 hp5
  have hq1 : ¬ w1.heap.size = w.heap.size := by omega
  have hq2 : ¬ w.heap.size = w1.heap.size := by omega
  cases ho : PM.opComp sg with
  | none =>
    rw [ho] at hlk
    simp only [Option.getD_none, Option.isSome_none] at hlk
    have HRS : Hid (PM.compF u s = (x, s1)) := Lib.hid (by rw [PM.compF, HXS.out]; simp only [hsg, ho])
    obtain ⟨x0, x1, x2, x3, x4, x5, x6, g0, g1, g2, g3, g4, g5, g6⟩ := c7_of HX2.out
    obtain ⟨y0, y1, y2, y3, y4, y5, y6, k0, k1, k2, k3, k4, k5, k6⟩ := c7_of HB2.out
    clear ho hsg
    go_wp2_with fail
    refine bodyPost_ret (ret_cell7 rfl _ w.heap.size rfl _ _ _ _ _ _ _ _ (blkPut7 HB2.out rfl _ _ _ _ _ _ _)) rfl ⟨?_, ?_, frPut7 HF2.out (.inr (Nat.le_refl _)) _ _ _ _ _ _ _⟩
    all_goals rw [HRS.out]
    · refine ⟨_, rfl, Rep.E.mono (fun g hg => ?_) (Rep.E.keep (frPut7 (Fr.refl [some w.heap.size] _) (.inl (by simp)) _ _ _ _ _ _ _) (fun g hg => ?_) HE2.out)⟩
      · have := hg.1
        simp at this
        omega
      · have := hg.1
        simp at this
        simp
        omega
    · exact H2.out.keep (frPut7 (Fr.refl [some w.heap.size] _) (.inl (by simp)) _ _ _ _ _ _ _) (by simp; omega) (by simp; omega)
  | some o =>
    rw [ho] at hlk
    simp only [Option.getD_some, Option.isSome_some] at hlk
    have hk6 : s1.now.kind ≠ 6 := by
      intro h6
      have : PM.sign s1 = [] := by
        rw [PM.sign, PM.wordy, h6]
        simp
      rw [hsg] at this
      rw [this] at ho
      cases ho
    have h2l := WF.two H2.out.wf hk6
    obtain ⟨off, cp, hat⟩ := H2.out.at
    obtain ⟨c0, c1, c2, c3, f0, f1, f2, f3, t0, t1, t2, t3, hcap, hpos2, hlim⟩ := hat
    have HS : Hid (PR (w2.setCell ⟨P, 0, none⟩ (.slice (some ⟨g, off + 4, none⟩) (s1.l.length - 1) (cp - 1))) P g (PM.skip s1)) := Lib.hid (H2.out.setSkip c0 hk6)
    have HRS : Hid (PM.compF u s = (PM.two o x (PM.sumF u (PM.skip s1)).1, (PM.sumF u (PM.skip s1)).2)) := Lib.hid (by rw [PM.compF, HXS.out]; simp only [hsg, ho])
    have hls : (PM.skip s1).l.length = s1.l.length - 1 := by simp [PM.skip]
    obtain ⟨wS, hwS⟩ : ∃ wS, w2.setCell ⟨P, 0, none⟩ (.slice (some ⟨g, off + 4, none⟩) (s1.l.length - 1) (cp - 1)) = wS := ⟨_, rfl⟩
    have hfS : Fr [some P] w2 wS := by rw [← hwS]; exact frSet _
    rw [hwS] at HS
    have HFS : Hid (Fr [some P] w wS.drew) := (HF2.out.trans hfS).drew
    have HSD : Hid (PR wS.drew P g (PM.skip s1)) := HS.out.keep (Fr.drew (Fr.refl [] wS)) (by simp) (by simp)
    have HC6 := Lib.hid (HR.out P g wS.drew wS.drew (PM.skip s1) (Fr.refl _ _) HSD.out (by rw [hls]; omega) (by rw [show (PM.skip s1).deep = s1.deep from rfl, hd1]; exact h0) (by rw [show (PM.skip s1).deep = s1.deep from rfl, hd1]; exact h64))
    have HXS2 := Lib.hid (HX2.out.keep hfS (by simp; omega))
    have HBS := Lib.hid (HB2.out.keep hfS (by simp; omega))
    have HES := Lib.hid (Rep.E.keep hfS (fun g hg => by have := hg.1; simp at this; simp; omega) HE2.out)
    obtain ⟨x0, x1, x2, x3, x4, x5, x6, g0, g1, g2, g3, g4, g5, g6⟩ := c7_of HXS2.out
    obtain ⟨y0, y1, y2, y3, y4, y5, y6, k0, k1, k2, k3, k4, k5, k6⟩ := c7_of HBS.out
    have hpi : (1 : Int) < (s1.l.length : Int) := by omega
    have hci : (s1.l.length : Int) ≤ (cp : Int) := by omega
    have hc1 : ¬ cp = 1 := by omega
    clear ho hsg c1 c2 c3 f1 f2 f3 t0 t1 t2 t3 hk6
    go_wp2_with fail
    clear hwS c0 f0 hfS hlk
    go_region_with (
      go_at_call 163
      refine HC6.out.mono ?_
      rintro e w3 ⟨hx3, h3, hf3⟩
      obtain ⟨op2, kind2, int2, t2, tb2, nm2, va2, vl2, vc2, rfl, hrep3⟩ := ex_cells hx3
      have HREP3 := Lib.hid hrep3
      have H3 := Lib.hid h3
      have HF3 := Lib.hid hf3
      have HX3 := Lib.hid (Blk.keep (w := wS.drew) HXS2.out hf3 (by simp; omega))
      have HB3 := Lib.hid (Blk.keep (w := wS.drew) HBS.out hf3 (by simp; omega))
      obtain ⟨v0, v1, v2, v3, v4, v5, v6, r0, r1, r2, r3, r4, r5, r6⟩ := c7_of HX3.out
      obtain ⟨z0, z1, z2, z3, z4, z5, z6, q0, q1, q2, q3, q4, q5, q6⟩ := c7_of HB3.out
      have hl9 := HX3.out.lt
      have hl10 := HB3.out.lt
      have hq3 : ¬ w1.heap.size = w3.heap.size := by omega
      have hq4 : ¬ w3.heap.size = w1.heap.size := by omega
      have hq5 : ¬ w.heap.size = w3.heap.size := by omega
      have hq6 : ¬ w3.heap.size = w.heap.size := by omega
      clear hx3 h3 hf3 hrep3)
    all_goals
      go_wp2_with fail
      have hL := Rep.L.cons _ _ _ _ (Rep.E.mono (A' := fun g => w.heap.size + 1 ≤ g) (fun g hg => by have := hg.1; simp at this; omega) (Rep.E.keep HF3.out (fun g hg => by have := hg.1; simp at this; simp; omega) (Rep.E.keep (Fr.drew (Fr.refl [] wS)) (fun g _ => by simp) HES.out))) (Rep.L.cons _ _ _ _ (Rep.E.mono (A' := fun g => w.heap.size + 1 ≤ g) (fun g hg => by have := HFS.out.size; have := HXS2.out.lt; simp at hg; omega) HREP3.out) .nil)
      obtain ⟨W', hW, hb, he, hp, hf⟩ := op_end (o := o) HB3.out hL (fun g hg => ⟨by omega, by omega⟩) (by simp [maxLen])
      subst hW
      refine bodyPost_ret (ret_cell7 rfl _ w.heap.size rfl _ _ _ _ _ _ _ _ hb) rfl ?_
      rw [HRS.out]
      exact ⟨⟨_, rfl, he⟩, hp P g _ H3.out (by omega) (by omega), hf _ _ (HFS.out.trans HF3.out) (Nat.le_refl _)⟩
end Px
end Go.Proofs.YtmdnhinpaflamaaGreatDoor
namespace Go.Proofs.YtmdnhinpaflamaaGreatDoor
open Go.RowKit
namespace Px
open PM (PS B Ex)
open Lx (tokV tokA)

/-- a captured variable: the parser's own pointer -/
def Box (w : World) (P b : Nat) : Prop := w.cell? ⟨b, 0, none⟩ = some (.pointer (some ⟨P, 0, none⟩)) ∧ b < w.heap.size ∧ b ≠ P
theorem Box.keep {w w' : World} {P b : Nat} (h : Box w P b) (hf : Fr [some P] w w') : Box w' P b :=
  ⟨(hf.cell h.2.1 (by simp; exact h.2.2)).trans h.1, Nat.lt_of_lt_of_le h.2.1 hf.size, h.2.2⟩
theorem Box.cell {w : World} {P b : Nat} (h : Box w P b) : w.cell? ⟨b, 0, none⟩ = some (.pointer (some ⟨P, 0, none⟩)) := h.1

set_option maxRecDepth 100000 in
set_option maxHeartbeats 2000000 in
theorem not1_any (n : Nat) (f : PS → Ex × PS) (hr : ∀ P g w, Reads P g w 135 #[.pointer (some ⟨P, 0, none⟩)] n f) (P g b : Nat) (w0 : World) (hb : Box w0 P b) :
    Reads P g w0 149 #[.pointer (some ⟨b, 0, none⟩)] n (fun s => (PM.un 4 (f s).1, (f s).2)) := by
  intro w s hf0 h hn h0 h64
  have hPl := h.lt
  have hgP := h.ne
  have hbx := (hb.keep hf0).cell
  have hbl := (hb.keep hf0).2.1
  have hbn : ¬ b = w.heap.size := by omega
  have HC1 := Lib.hid (hr P g (w.alloc (.cells z7.toArray 82)) _ s (Fr.refl _ _) (h.alloc _) hn h0 h64)
  clear h hr hb hf0
  go_enter Tryz.func149, Tryz.ntmps149
  go_wp2_with fail
  refine HC1.out.mono ?_
  rintro e w1 ⟨hx, h1, hf1⟩
  obtain ⟨op, kind, int, t, tb, nm, va, vl, vc, rfl, hrep⟩ := ex_cells hx
  obtain ⟨⟨x, s1⟩, hxs⟩ : ∃ r, f s = r := ⟨_, rfl⟩
  rw [hxs] at h1 hrep
  simp only [] at h1 hrep
  have HXS := Lib.hid hxs
  have HREP := Lib.hid hrep
  have H1 := Lib.hid h1
  have HB1 : Hid (Blk w1 w.heap.size 82 z7) := Lib.hid ((Blk.new w 82 z7).keep hf1 (by simp; omega))
  have HF1 : Hid (Fr [some P] w w1) := ((Fr.refl [some P] w).alloc _).trans hf1
  have hl1 := HB1.out.lt
  obtain ⟨y0, y1, y2, y3, y4, y5, y6, k0, k1, k2, k3, k4, k5, k6⟩ := c7_of HB1.out
  clear hx h1 hf1 hrep hxs
  go_wp2_with fail
  have hL := Rep.L.cons _ _ _ _ (Rep.E.mono (A' := fun g => w.heap.size + 1 ≤ g) (fun g hg => by simp at hg; omega) HREP.out) .nil
  obtain ⟨W', hW, hb, he, hp, hf⟩ := op_end (o := 4) HB1.out hL (fun g hg => ⟨by omega, by omega⟩) (by simp [maxLen])
  subst hW
  refine bodyPost_ret (ret_cell7 rfl _ w.heap.size rfl _ _ _ _ _ _ _ _ hb) rfl ?_
  rw [HXS.out]
  exact ⟨⟨_, rfl, he⟩, hp P g _ H1.out (by omega) (by omega), hf _ _ HF1.out (Nat.le_refl _)⟩

set_option maxRecDepth 100000 in
set_option maxHeartbeats 2000000 in
theorem unary1_any (n : Nat) (f : PS → Ex × PS) (hr : ∀ P g w, Reads P g w 182 #[.pointer (some ⟨P, 0, none⟩)] n f) (P g b : Nat) (w0 : World) (hb : Box w0 P b) :
    Reads P g w0 185 #[.pointer (some ⟨b, 0, none⟩)] n (fun s => (PM.un 3 (f s).1, (f s).2)) := by
  intro w s hf0 h hn h0 h64
  have hPl := h.lt
  have hgP := h.ne
  have hbx := (hb.keep hf0).cell
  have hbl := (hb.keep hf0).2.1
  have hbn : ¬ b = w.heap.size := by omega
  have HC1 := Lib.hid (hr P g (w.alloc (.cells z7.toArray 82)) _ s (Fr.refl _ _) (h.alloc _) hn h0 h64)
  clear h hr hb hf0
  go_enter Tryz.func185, Tryz.ntmps185
  go_wp2_with fail
  refine HC1.out.mono ?_
  rintro e w1 ⟨hx, h1, hf1⟩
  obtain ⟨op, kind, int, t, tb, nm, va, vl, vc, rfl, hrep⟩ := ex_cells hx
  obtain ⟨⟨x, s1⟩, hxs⟩ : ∃ r, f s = r := ⟨_, rfl⟩
  rw [hxs] at h1 hrep
  simp only [] at h1 hrep
  have HXS := Lib.hid hxs
  have HREP := Lib.hid hrep
  have H1 := Lib.hid h1
  have HB1 : Hid (Blk w1 w.heap.size 82 z7) := Lib.hid ((Blk.new w 82 z7).keep hf1 (by simp; omega))
  have HF1 : Hid (Fr [some P] w w1) := ((Fr.refl [some P] w).alloc _).trans hf1
  have hl1 := HB1.out.lt
  obtain ⟨y0, y1, y2, y3, y4, y5, y6, k0, k1, k2, k3, k4, k5, k6⟩ := c7_of HB1.out
  clear hx h1 hf1 hrep hxs
  go_wp2_with fail
  have hL := Rep.L.cons _ _ _ _ (Rep.E.mono (A' := fun g => w.heap.size + 1 ≤ g) (fun g hg => by simp at hg; omega) HREP.out) .nil
  obtain ⟨W', hW, hb, he, hp, hf⟩ := op_end (o := 3) HB1.out hL (fun g hg => ⟨by omega, by omega⟩) (by simp [maxLen])
  subst hW
  refine bodyPost_ret (ret_cell7 rfl _ w.heap.size rfl _ _ _ _ _ _ _ _ hb) rfl ?_
  rw [HXS.out]
  exact ⟨⟨_, rfl, he⟩, hp P g _ H1.out (by omega) (by omega), hf _ _ HF1.out (Nat.le_refl _)⟩

set_option maxRecDepth 100000 in
set_option maxHeartbeats 2000000 in
theorem unary2_any (n : Nat) (f : PS → Ex × PS) (hr : ∀ P g w, Reads P g w 55 #[.pointer (some ⟨P, 0, none⟩)] n f) (P g b : Nat) (w0 : World) (hb : Box w0 P b) :
    Reads P g w0 186 #[.pointer (some ⟨b, 0, none⟩)] n (fun s => ((f s).1, PM.needs [[41]] (f s).2)) := by
  intro w s hf0 h hn h0 h64
  have hPl := h.lt
  have hgP := h.ne
  have HBX := Lib.hid (hb.keep hf0)
  have hbx := HBX.out.cell
  have hbl := HBX.out.2.1
  have hbn : ¬ b = w.heap.size := by omega
  have HC1 := Lib.hid (hr P g (w.alloc (.cells z7.toArray 82)) _ s (Fr.refl _ _) (h.alloc _) hn h0 h64)
  clear h hr hb hf0
  go_enter Tryz.func186, Tryz.ntmps186
  go_wp2_with fail
  refine HC1.out.mono ?_
  rintro e w1 ⟨hx, h1, hf1⟩
  obtain ⟨op, kind, int, t, tb, nm, va, vl, vc, rfl, hrep⟩ := ex_cells hx
  obtain ⟨⟨x, s1⟩, hxs⟩ : ∃ r, f s = r := ⟨_, rfl⟩
  rw [hxs] at h1 hrep
  simp only [] at h1 hrep
  have HXS := Lib.hid hxs
  have HREP := Lib.hid hrep.live
  have H1 := Lib.hid h1
  have HB1 : Hid (Blk w1 w.heap.size 82 z7) := Lib.hid ((Blk.new w 82 z7).keep hf1 (by simp; omega))
  have HF1 : Hid (Fr [some P] w w1) := ((Fr.refl [some P] w).alloc _).trans hf1
  have HBX1 := Lib.hid (HBX.out.keep HF1.out)
  have hbx1 := HBX1.out.cell
  have hbl1 := HBX1.out.2.1
  have hl1 := HB1.out.lt
  have hPl1 := H1.out.lt
  clear hx h1 hf1 hrep hxs hbx
  go_wp2_with fail
  refine (needs_any P g s1 [[41]] (w1.heap.size + 1) 0 1 _ ((H1.out.alloc _).alloc _) (by simp) ?_ (by omega) (by simp)).mono ?_
  · intro j hj
    obtain rfl : j = 0 := by simp at hj; omega
    have := (Blk.new (w1.alloc (.cells #[.int .i64 op, .int .i64 kind, .int .i64 int, .string ⟨t.toArray⟩, .string ⟨tb.toArray⟩, .string ⟨nm.toArray⟩, .slice va vl vc] 82)) 9 [.string ⟨#[41]⟩]).cell 0
    rw [World.size_alloc] at this
    exact this
  rintro e w2 ⟨rfl, h2, hf2⟩
  have H2 := Lib.hid h2
  have hfa : Fr [] w1 ((w1.alloc (.cells #[.int .i64 op, .int .i64 kind, .int .i64 int, .string ⟨t.toArray⟩, .string ⟨tb.toArray⟩, .string ⟨nm.toArray⟩, .slice va vl vc] 82)).alloc (.cells #[.string ⟨#[41]⟩] 9)) := ((Fr.refl [] w1).alloc _).alloc _
  have HX2 := Lib.hid ((Blk.alloc (Blk.new w1 82 [.int .i64 op, .int .i64 kind, .int .i64 int, .string ⟨t.toArray⟩, .string ⟨tb.toArray⟩, .string ⟨nm.toArray⟩, .slice va vl vc]) (.cells #[.string ⟨#[41]⟩] 9)).keep hf2 (by simp; omega))
  have HB2 := Lib.hid ((HB1.out.keep hfa (by simp)).keep hf2 (by simp; omega))
  have HE2 := Lib.hid (Rep.E.keep hf2 (fun g hg => by have := hg.1; simp at this; simp; omega) (Rep.E.keep hfa (fun g _ => by simp) HREP.out))
  have HF2 : Hid (Fr [some P] w w2) := (HF1.out.trans' hfa (by simp)).trans hf2
  have hl2 := HX2.out.lt
  have hl3 := HB2.out.lt
  have hq1 : ¬ w1.heap.size = w.heap.size := by omega
  have hq2 : ¬ w.heap.size = w1.heap.size := by omega
  obtain ⟨x0, x1, x2, x3, x4, x5, x6, g0, g1, g2, g3, g4, g5, g6⟩ := c7_of HX2.out
  obtain ⟨y0, y1, y2, y3, y4, y5, y6, k0, k1, k2, k3, k4, k5, k6⟩ := c7_of HB2.out
  clear h2 hf2 hfa
  go_wp2_with fail
  refine bodyPost_ret (ret_cell7 rfl _ w.heap.size rfl _ _ _ _ _ _ _ _ (blkPut7 HB2.out rfl _ _ _ _ _ _ _)) rfl ⟨?_, ?_, frPut7 HF2.out (.inr (Nat.le_refl _)) _ _ _ _ _ _ _⟩
  all_goals rw [HXS.out]
  · refine ⟨_, rfl, Rep.E.mono (fun g hg => ?_) (Rep.E.keep (frPut7 (Fr.refl [some w.heap.size] _) (.inl (by simp)) _ _ _ _ _ _ _) (fun g hg => ?_) HE2.out)⟩
    · have := hg.1
      simp at this
      omega
    · have := hg.1
      simp at this
      simp
      omega
  · exact H2.out.keep (frPut7 (Fr.refl [some w.heap.size] _) (.inl (by simp)) _ _ _ _ _ _ _) (by simp; omega) (by simp; omega)
end Px
end Go.Proofs.YtmdnhinpaflamaaGreatDoor
namespace Go.Proofs.YtmdnhinpaflamaaGreatDoor
open Go.RowKit
namespace Px
open PM (PS B Ex)
open Lx (tokV tokA)

/-- the end of a function that hands on an expression: it is laid into the result's block -/
theorem ex_end {w w1 w2 : World} {P g R : Nat} {s : PS} {x : Ex} {cs : List Value} (hf : Fr [some P] w w1) (hf2 : Fr [some R] w1 w2) (hR : w.heap.size ≤ R) (hp : PR w1 P g s) (hPR : P ≠ R) (hgR : g ≠ R) (hx : Rep.E 82 (fun b => R < b) w1 x cs) :
    ExR w.heap.size w2 (.returned (.agg cs.toArray)) x ∧ PR w2 P g s ∧ Fr [some P] w w2 :=
  ⟨⟨cs, rfl, Rep.E.mono (fun b hb => by omega) (Rep.E.keep hf2 (fun b hb => by simp; omega) hx)⟩, hp.keep hf2 (by simp; omega) (by simp; omega), hf.trans' hf2 (fun i hi => .inr (by simp at hi; omega))⟩

set_option maxRecDepth 100000 in
set_option maxHeartbeats 2000000 in
theorem not_any (n : Nat) (u nt : PS → Ex × PS) (hc : ∀ P g w, Reads P g w 147 #[.pointer (some ⟨P, 0, none⟩)] (n + 1) (PM.compF u)) (hg : PM.Good nt) (hr : ∀ P g w, Reads P g w 135 #[.pointer (some ⟨P, 0, none⟩)] n nt) (P g : Nat) (w0 : World) :
    Reads P g w0 135 #[.pointer (some ⟨P, 0, none⟩)] (n + 1) (PM.notF u nt) := by
  intro w s _ h hn h0 h64
  have hPl := h.lt
  have hgP := h.ne
  have HP : Hid (PR ((w.alloc (.cells #[.pointer (some ⟨P, 0, none⟩)] 48)).alloc (.cells z7.toArray 82)) P g s) := Lib.hid ((h.alloc _).alloc _)
  have HF0 : Hid (Fr [some P] w ((w.alloc (.cells #[.pointer (some ⟨P, 0, none⟩)] 48)).alloc (.cells z7.toArray 82))) := Lib.hid (((Fr.refl [some P] w).alloc _).alloc _)
  have HBX : Hid (Box ((w.alloc (.cells #[.pointer (some ⟨P, 0, none⟩)] 48)).alloc (.cells z7.toArray 82)) P w.heap.size) :=
    Lib.hid ⟨(Blk.alloc (Blk.new w 48 [.pointer (some ⟨P, 0, none⟩)]) (.cells z7.toArray 82)).cell 0, by simp; omega, by omega⟩
  have HB : Hid (Blk ((w.alloc (.cells #[.pointer (some ⟨P, 0, none⟩)] 48)).alloc (.cells z7.toArray 82)) (w.heap.size + 1) 82 z7) :=
    Lib.hid (by have := Blk.new (w.alloc (.cells #[.pointer (some ⟨P, 0, none⟩)] 48)) 82 z7; rwa [World.size_alloc] at this)
  have HG := Lib.hid hg
  have HR := Lib.hid hr
  have HC := Lib.hid hc
  clear h hg hr hc
  go_enter Tryz.func135, Tryz.ntmps135
  go_wp2_with fail
  refine (is_any P g s [110, 111, 116] _ HP.out).mono ?_
  rintro e w1 ⟨rfl, h1, hf1⟩
  have H1 := Lib.hid h1
  have hbx := (HBX.out.keep (hf1.mono (by simp))).cell
  have HBX1 := Lib.hid (HBX.out.keep (hf1.mono (by simp)))
  have HB1 := Lib.hid (HB.out.keep hf1 (by simp))
  have HF1 : Hid (Fr [some P] w w1) := Lib.hid (HF0.out.trans' hf1 (by simp))
  have hl1 := HB1.out.lt
  have hs1 := hf1.size
  simp only [World.size_alloc] at hs1
  clear h1 hf1
  cases hi : PM.is [110, 111, 116] s
  · have HM : Hid (PM.notF u nt s = PM.compF u s) := Lib.hid (by rw [PM.notF, if_neg (by rw [hi]; decide)])
    have HC1 := Lib.hid (HC.out P g w1 w1 s (Fr.refl _ _) H1.out hn h0 h64)
    clear hi
    go_wp2_with fail
    refine HC1.out.mono ?_
    rintro e w2 ⟨hx, h2, hf2⟩
    obtain ⟨op, kind, int, t, tb, nm, va, vl, vc, rfl, hrep⟩ := ex_cells hx
    have HREP := Lib.hid hrep
    have H2 := Lib.hid h2
    have HB2 := Lib.hid (HB1.out.keep hf2 (by simp; omega))
    have HF2 := Lib.hid (HF1.out.trans hf2)
    obtain ⟨y0, y1, y2, y3, y4, y5, y6, k0, k1, k2, k3, k4, k5, k6⟩ := c7_of HB2.out
    clear hx h2 hf2 hrep hbx
    go_wp2_with fail
    refine bodyPost_ret (ret_cell7 rfl _ (w.heap.size + 1) rfl _ _ _ _ _ _ _ _ (blkPut7 HB2.out rfl _ _ _ _ _ _ _)) rfl ?_
    rw [HM.out]
    exact ex_end HF2.out (frPut7 (Fr.refl [some (w.heap.size + 1)] _) (.inl (by simp)) _ _ _ _ _ _ _) (by omega) H2.out (by omega) (by omega) (Rep.E.mono (fun b hb => by omega) HREP.out)
  · have HM : Hid (PM.notF u nt s = PM.nests [110, 111, 116] (fun s => (PM.un 4 (nt s).1, (nt s).2)) s) := Lib.hid (by rw [PM.notF, if_pos hi])
    have hk6 := is_kind hi
    have hnd : (PM.needs [[110, 111, 116]] s).l.length ≤ n := by
      rw [PM.needs, PM.needs, PM.need, if_pos hi]
      simp [PM.skip]
      omega
    have HC1 := Lib.hid (nests_any P g s [110, 111, 116] 149 #[] #[.pointer (some ⟨w.heap.size, 0, none⟩)] n (fun s => (PM.un 4 (nt s).1, (nt s).2)) w1 H1.out h0 h64 (fun w => by kernel_rfl) (not1_any n nt HR.out P g w.heap.size w1 HBX1.out) hnd (fun s => (HG.out s).1))
    clear hi hk6 hnd
    go_wp2_with fail
    refine HC1.out.mono ?_
    rintro e w2 ⟨hx, h2, hf2⟩
    obtain ⟨op, kind, int, t, tb, nm, va, vl, vc, rfl, hrep⟩ := ex_cells hx
    have HREP := Lib.hid hrep
    have H2 := Lib.hid h2
    have HB2 := Lib.hid (HB1.out.keep hf2 (by simp; omega))
    have HF2 := Lib.hid (HF1.out.trans hf2)
    obtain ⟨y0, y1, y2, y3, y4, y5, y6, k0, k1, k2, k3, k4, k5, k6⟩ := c7_of HB2.out
    clear hx h2 hf2 hrep hbx
    go_wp2_with fail
    refine bodyPost_ret (ret_cell7 rfl _ (w.heap.size + 1) rfl _ _ _ _ _ _ _ _ (blkPut7 HB2.out rfl _ _ _ _ _ _ _)) rfl ?_
    rw [HM.out]
    exact ex_end HF2.out (frPut7 (Fr.refl [some (w.heap.size + 1)] _) (.inl (by simp)) _ _ _ _ _ _ _) (by omega) H2.out (by omega) (by omega) (Rep.E.mono (fun b hb => by omega) HREP.out)

set_option maxRecDepth 100000 in
set_option maxHeartbeats 4000000 in
theorem unary_any (n : Nat) (u nt : PS → Ex × PS) (hgu : PM.Good u) (hu : ∀ P g w, Reads P g w 182 #[.pointer (some ⟨P, 0, none⟩)] n u) (hge : PM.Good (PM.exprF nt)) (he : ∀ P g w, Reads P g w 55 #[.pointer (some ⟨P, 0, none⟩)] n (PM.exprF nt)) (P g : Nat) (w0 : World) :
    Reads P g w0 182 #[.pointer (some ⟨P, 0, none⟩)] (n + 1) (PM.unaryF u nt) := by
  intro w s _ h hn h0 h64
  have hPl := h.lt
  have hgP := h.ne
  obtain ⟨tk, htk⟩ : ∃ tk, s.now = tk := ⟨_, rfl⟩
  have HT := Lib.hid htk
  have HP : Hid (PR (((w.alloc (.cells #[.pointer (some ⟨P, 0, none⟩)] 48)).alloc (.cells z7.toArray 82)).alloc (.cells (Lx.tokC tk).toArray 45)) P g s) := Lib.hid (((h.alloc _).alloc _).alloc _)
  have HF0 : Hid (Fr [some P] w (((w.alloc (.cells #[.pointer (some ⟨P, 0, none⟩)] 48)).alloc (.cells z7.toArray 82)).alloc (.cells (Lx.tokC tk).toArray 45))) := Lib.hid ((((Fr.refl [some P] w).alloc _).alloc _).alloc _)
  have HBX : Hid (Box (((w.alloc (.cells #[.pointer (some ⟨P, 0, none⟩)] 48)).alloc (.cells z7.toArray 82)).alloc (.cells (Lx.tokC tk).toArray 45)) P w.heap.size) :=
    Lib.hid ⟨(Blk.alloc (Blk.alloc (Blk.new w 48 [.pointer (some ⟨P, 0, none⟩)]) (.cells z7.toArray 82)) _).cell 0, by simp; omega, by omega⟩
  have HB : Hid (Blk (((w.alloc (.cells #[.pointer (some ⟨P, 0, none⟩)] 48)).alloc (.cells z7.toArray 82)).alloc (.cells (Lx.tokC tk).toArray 45)) (w.heap.size + 1) 82 z7) :=
    Lib.hid (Blk.alloc (by have := Blk.new (w.alloc (.cells #[.pointer (some ⟨P, 0, none⟩)] 48)) 82 z7; rwa [World.size_alloc] at this) _)
  have HK : Hid (Blk (((w.alloc (.cells #[.pointer (some ⟨P, 0, none⟩)] 48)).alloc (.cells z7.toArray 82)).alloc (.cells (Lx.tokC tk).toArray 45)) (w.heap.size + 1 + 1) 45 (Lx.tokC tk)) :=
    Lib.hid (by have := Blk.new ((w.alloc (.cells #[.pointer (some ⟨P, 0, none⟩)] 48)).alloc (.cells z7.toArray 82)) 45 (Lx.tokC tk); rwa [World.size_alloc, World.size_alloc] at this)
  obtain ⟨off, cap, hat⟩ := h.at
  obtain ⟨c0, c1, c2, c3, f0, f1, f2, f3, t0, t1, t2, t3, hcap, hpos, hlim⟩ := hat
  rw [htk] at t0 t1 t2 t3
  have hpi : (0 : Int) < (s.l.length : Int) := by omega
  have hgl : g < w.heap.size := by omega
  have HGU := Lib.hid hgu
  have HU := Lib.hid hu
  have HGE := Lib.hid hge
  have HE := Lib.hid he
  clear h hgu hu hge he htk c1 c2 c3 f0 f1 f2 f3
  go_enter Tryz.func182, Tryz.ntmps182
  go_wp2_with fail
  refine (is_any P g s [45] _ HP.out).mono ?_
  rintro e w1 ⟨rfl, h1, hf1⟩
  have H1 := Lib.hid h1
  have hbx := (HBX.out.keep (hf1.mono (by simp))).cell
  have HBX1 := Lib.hid (HBX.out.keep (hf1.mono (by simp)))
  have HB1 := Lib.hid (HB.out.keep hf1 (by simp))
  have HK1 := Lib.hid (HK.out.keep hf1 (by simp))
  have HF1 : Hid (Fr [some P] w w1) := Lib.hid (HF0.out.trans' hf1 (by simp))
  have hl1 := HB1.out.lt
  have hs1 := hf1.size
  simp only [World.size_alloc] at hs1
  clear h1 hf1 c0 t0 t1 t2 t3 hcap hpos hlim hpi
  cases hi : PM.is [45] s
  case true =>
    have HM : Hid (PM.unaryF u nt s = PM.nests [45] (fun s => (PM.un 3 (u s).1, (u s).2)) s) := Lib.hid (by rw [PM.unaryF, if_pos hi])
    have hk6 := is_kind hi
    have hnd : (PM.needs [[45]] s).l.length ≤ n := by
      rw [PM.needs, PM.needs, PM.need, if_pos hi]
      simp [PM.skip]
      omega
    have HC1 := Lib.hid (nests_any P g s [45] 185 #[] #[.pointer (some ⟨w.heap.size, 0, none⟩)] n (fun s => (PM.un 3 (u s).1, (u s).2)) w1 H1.out h0 h64 (fun w => by kernel_rfl) (unary1_any n u HU.out P g w.heap.size w1 HBX1.out) hnd (fun s => (HGU.out s).1))
    clear hi hk6 hnd
    go_wp2_with fail
    refine HC1.out.mono ?_
    rintro e w2 ⟨hx, h2, hf2⟩
    obtain ⟨op, kind, int, t, tb, nm, va, vl, vc, rfl, hrep⟩ := ex_cells hx
    have HREP := Lib.hid hrep
    have H2 := Lib.hid h2
    have HB2 := Lib.hid (HB1.out.keep hf2 (by simp; omega))
    have HF2 := Lib.hid (HF1.out.trans hf2)
    obtain ⟨y0, y1, y2, y3, y4, y5, y6, k0, k1, k2, k3, k4, k5, k6⟩ := c7_of HB2.out
    clear hx h2 hf2 hrep hbx
    go_wp2_with fail
    refine bodyPost_ret (ret_cell7 rfl _ (w.heap.size + 1) rfl _ _ _ _ _ _ _ _ (blkPut7 HB2.out rfl _ _ _ _ _ _ _)) rfl ?_
    rw [HM.out]
    exact ex_end HF2.out (frPut7 (Fr.refl [some (w.heap.size + 1)] _) (.inl (by simp)) _ _ _ _ _ _ _) (by omega) H2.out (by omega) (by omega) (Rep.E.mono (fun b hb => by omega) HREP.out)
  case false =>
    have HI1 := Lib.hid hi
    clear hi
    go_wp2_with fail
    refine (is_any P g s [40] _ H1.out).mono ?_
    rintro e w1' ⟨rfl, h1, hf1⟩
    have H1' := Lib.hid h1
    have hbx' := (HBX1.out.keep (hf1.mono (by simp))).cell
    have HBX1' := Lib.hid (HBX1.out.keep (hf1.mono (by simp)))
    have HB1' := Lib.hid (HB1.out.keep hf1 (by simp))
    have HK1' := Lib.hid (HK1.out.keep hf1 (by simp))
    have HF1' : Hid (Fr [some P] w w1') := Lib.hid (HF1.out.trans' hf1 (by simp))
    have hl1' := HB1'.out.lt
    clear h1 hf1 hbx H1 HBX1 HB1 HK1 HF1 hl1 hs1
    cases hi : PM.is [40] s
    case true =>
      have HM : Hid (PM.unaryF u nt s = PM.nests [40] (fun s => ((PM.exprF nt s).1, PM.needs [[41]] (PM.exprF nt s).2)) s) := Lib.hid (by rw [PM.unaryF, if_neg (by rw [HI1.out]; decide), if_pos hi])
      have hk6 := is_kind hi
      have hnd : (PM.needs [[40]] s).l.length ≤ n := by
        rw [PM.needs, PM.needs, PM.need, if_pos hi]
        simp [PM.skip]
        omega
      have HC1 := Lib.hid (nests_any P g s [40] 186 #[] #[.pointer (some ⟨w.heap.size, 0, none⟩)] n (fun s => ((PM.exprF nt s).1, PM.needs [[41]] (PM.exprF nt s).2)) w1' H1'.out h0 h64 (fun w => by kernel_rfl) (unary2_any n (PM.exprF nt) HE.out P g w.heap.size w1' HBX1'.out) hnd (fun s => (PM.calm_needs [[41]] _).1.trans (HGE.out s).1))
      clear hi hk6 hnd
      go_wp2_with fail
      refine HC1.out.mono ?_
      rintro e w2 ⟨hx, h2, hf2⟩
      obtain ⟨op, kind, int, t, tb, nm, va, vl, vc, rfl, hrep⟩ := ex_cells hx
      have HREP := Lib.hid hrep
      have H2 := Lib.hid h2
      have HB2 := Lib.hid (HB1'.out.keep hf2 (by simp; omega))
      have HF2 := Lib.hid (HF1'.out.trans hf2)
      obtain ⟨y0, y1, y2, y3, y4, y5, y6, k0, k1, k2, k3, k4, k5, k6⟩ := c7_of HB2.out
      clear hx h2 hf2 hrep hbx'
      go_wp2_with fail
      refine bodyPost_ret (ret_cell7 rfl _ (w.heap.size + 1) rfl _ _ _ _ _ _ _ _ (blkPut7 HB2.out rfl _ _ _ _ _ _ _)) rfl ?_
      rw [HM.out]
      exact ex_end HF2.out (frPut7 (Fr.refl [some (w.heap.size + 1)] _) (.inl (by simp)) _ _ _ _ _ _ _) (by omega) H2.out (by omega) (by omega) (Rep.E.mono (fun b hb => by omega) HREP.out)
    case false =>
      have HI2 := Lib.hid hi
      clear hi
      have b0 : w1'.cell? ⟨w.heap.size + 1 + 1, 0, none⟩ = some (.int .i64 tk.kind) := HK1'.out.cell 0
      by_cases hk3 : tk.kind = 3
      · have hk3b : (tk.kind == 3) = true := by rw [hk3]; rfl
        obtain ⟨⟨tw, s2⟩, hws⟩ : ∃ r, PM.word 3 s = r := ⟨_, rfl⟩
        have HM : Hid (PM.unaryF u nt s = (.mk 1 1 tw.int [] [] [] [], s2)) := Lib.hid (by rw [PM.unaryF, if_neg (by rw [HI1.out]; decide), if_neg (by rw [HI2.out]; decide), if_pos (by rw [HT.out]; exact hk3), hws])
        have HWS := Lib.hid hws
        clear hk3 hws
        go_wp2_with fail
        refine (word_any P g s 3 (by decide) w1' H1'.out).mono ?_
        rintro e w2 ⟨rfl, h2, hf2⟩
        rw [HWS.out] at h2 ⊢
        have H2 := Lib.hid h2
        have HB2 := Lib.hid (HB1'.out.keep hf2 (by simp; omega))
        have HF2 := Lib.hid (HF1'.out.trans hf2)
        simp only [tokV, tokA]
        have hfd := fun w => field_int tw.kind tw.int tw.pos ⟨tw.text.toArray⟩ w
        obtain ⟨y0, y1, y2, y3, y4, y5, y6, k0, k1, k2, k3, k4, k5, k6⟩ := c7_of HB2.out
        clear h2 hf2 hbx' hk3b
        go_wp2_with fail
        refine bodyPost_ret (ret_cell7 rfl _ (w.heap.size + 1) rfl _ _ _ _ _ _ _ _ (blkPut7 HB2.out rfl _ _ _ _ _ _ _)) rfl ?_
        rw [HM.out]
        exact ex_end HF2.out (frPut7 (Fr.refl [some (w.heap.size + 1)] _) (.inl (by simp)) _ _ _ _ _ _ _) (by omega) H2.out (by omega) (by omega) (.mk 1 1 tw.int [] [] [] [] _ Rep.Es.nil)
      · have hk3b : (tk.kind == 3) = false := by simp [hk3]
        have HK3 := Lib.hid hk3
        clear hk3
        by_cases hk4 : tk.kind = 4
        · have hk4b : (tk.kind == 4) = true := by rw [hk4]; rfl
          obtain ⟨⟨tw, s2⟩, hws⟩ : ∃ r, PM.word 4 s = r := ⟨_, rfl⟩
          have HM : Hid (PM.unaryF u nt s = (.mk 1 2 0 tw.text [] [] [], s2)) := Lib.hid (by rw [PM.unaryF, if_neg (by rw [HI1.out]; decide), if_neg (by rw [HI2.out]; decide), if_neg (by rw [HT.out]; exact HK3.out), if_pos (by rw [HT.out]; exact hk4), hws])
          have HWS := Lib.hid hws
          clear hk4 hws
          go_wp2_with fail
          refine (word_any P g s 4 (by decide) w1' H1'.out).mono ?_
          rintro e w2 ⟨rfl, h2, hf2⟩
          rw [HWS.out] at h2 ⊢
          have H2 := Lib.hid h2
          have HB2 := Lib.hid (HB1'.out.keep hf2 (by simp; omega))
          have HF2 := Lib.hid (HF1'.out.trans hf2)
          simp only [tokV, tokA]
          have hfd := fun w => field_text tw.kind tw.int tw.pos ⟨tw.text.toArray⟩ w
          obtain ⟨y0, y1, y2, y3, y4, y5, y6, k0, k1, k2, k3, k4, k5, k6⟩ := c7_of HB2.out
          clear h2 hf2 hbx' hk3b hk4b
          go_wp2_with fail
          refine bodyPost_ret (ret_cell7 rfl _ (w.heap.size + 1) rfl _ _ _ _ _ _ _ _ (blkPut7 HB2.out rfl _ _ _ _ _ _ _)) rfl ?_
          rw [HM.out]
          exact ex_end HF2.out (frPut7 (Fr.refl [some (w.heap.size + 1)] _) (.inl (by simp)) _ _ _ _ _ _ _) (by omega) H2.out (by omega) (by omega) (.mk 1 2 0 tw.text [] [] [] _ Rep.Es.nil)
        · have hk4b : (tk.kind == 4) = false := by simp [hk4]
          have HM : Hid (PM.unaryF u nt s = PM.column s) := Lib.hid (by rw [PM.unaryF, if_neg (by rw [HI1.out]; decide), if_neg (by rw [HI2.out]; decide), if_neg (by rw [HT.out]; exact HK3.out), if_neg (by rw [HT.out]; exact hk4)])
          clear hk4
          go_wp2_with fail
          refine (column_any P g w1'.heap.size s w1' H1'.out).mono ?_
          rintro e w2 ⟨hx, h2, hf2⟩
          obtain ⟨op, kind, int, t, tb, nm, va, vl, vc, rfl, hrep⟩ := ex_cells hx
          have HREP := Lib.hid hrep
          have H2 := Lib.hid h2
          have HB2 := Lib.hid (HB1'.out.keep hf2 (by simp; omega))
          have HF2 := Lib.hid (HF1'.out.trans hf2)
          obtain ⟨y0, y1, y2, y3, y4, y5, y6, k0, k1, k2, k3, k4, k5, k6⟩ := c7_of HB2.out
          clear hx h2 hf2 hrep hbx' hk3b hk4b
          go_wp2_with fail
          refine bodyPost_ret (ret_cell7 rfl _ (w.heap.size + 1) rfl _ _ _ _ _ _ _ _ (blkPut7 HB2.out rfl _ _ _ _ _ _ _)) rfl ?_
          rw [HM.out]
          exact ex_end HF2.out (frPut7 (Fr.refl [some (w.heap.size + 1)] _) (.inl (by simp)) _ _ _ _ _ _ _) (by omega) H2.out (by omega) (by omega) (Rep.E.mono (fun b hb => by omega) HREP.out)

/-- a unary and a not read just so many words -/
theorem lev_any : ∀ (n : Nat) (P g : Nat) (w : World), Reads P g w 182 #[.pointer (some ⟨P, 0, none⟩)] n (PM.lev n).1 ∧ Reads P g w 135 #[.pointer (some ⟨P, 0, none⟩)] n (PM.lev n).2
  | 0, P, g, w => ⟨fun w' s _ h hn => absurd h.wf.pos (by omega), fun w' s _ h hn => absurd h.wf.pos (by omega)⟩
  | n + 1, P, g, w => by
    have hg := PM.good_lev n
    have hu := fun P g w => (lev_any n P g w).1
    have hnt := fun P g w => (lev_any n P g w).2
    have ha := fun P g w => and_any n _ hg.2 hnt P g w
    have he := fun P g w => expr_any n _ (PM.good_rows hg.2 _) ha P g w
    have hu1 := fun P g w => unary_any n (PM.lev n).1 (PM.lev n).2 hg.1 hu (PM.good_expr hg.2) he P g w
    have hgu := PM.good_unary hg.1 hg.2
    have ht := fun P g w => term_any (n + 1) _ hgu hu1 P g w
    have hs := fun P g w => sum_any (n + 1) _ (PM.good_rows hgu _) ht P g w
    have hc := fun P g w => comp_any (n + 1) _ (PM.good_sum hgu) hs P g w
    exact ⟨hu1 P g w, not_any n _ (PM.lev n).2 hc hg.2 hnt P g w⟩
/-- an expression -/
theorem expr_all (n P g : Nat) (w : World) : Reads P g w 55 #[.pointer (some ⟨P, 0, none⟩)] n (PM.expr n) :=
  expr_any n _ (PM.good_rows (PM.good_lev n).2 _) (fun P g w => and_any n _ (PM.good_lev n).2 (fun P g w => (lev_any n P g w).2) P g w) P g w
end Px
end Go.Proofs.YtmdnhinpaflamaaGreatDoor
namespace Go.Proofs.YtmdnhinpaflamaaGreatDoor
open Go.RowKit
namespace Px
open PM (PS B Ex)

/-- how things of a kind lie in memory: their cells; A: in which blocks what they are of may lie -/
structure Kd (α : Type) where
  size : Nat
  E : (Nat → Prop) → World → α → List Value → Prop
  keep : ∀ {A : Nat → Prop} {X : List (Option Nat)} {w w' : World} {x : α} {cs : List Value}, Fr X w w' → (∀ g, A g → some g ∉ X) → E A w x cs → E A w' x cs
  mono : ∀ {A A' : Nat → Prop} {w : World} {x : α} {cs : List Value}, (∀ g, A g → A' g) → E A w x cs → E A' w x cs
  live : ∀ {A : Nat → Prop} {w : World} {x : α} {cs : List Value}, E A w x cs → E (fun g => A g ∧ g < w.heap.size) w x cs
  len : ∀ {A : Nat → Prop} {w : World} {x : α} {cs : List Value}, E A w x cs → cs.length = size
  one : ∀ {A : Nat → Prop} {w : World} {x : α} {cs : List Value}, E A w x cs → ∀ u ∈ cs, u.oneCell' = true

variable {α : Type} {K : Kd α} {A : Nat → Prop} {w w' : World}
inductive RL (K : Kd α) (A : Nat → Prop) (w : World) : List α → List Value → Prop
  | nil : RL K A w [] []
  | snoc (l : List α) (e : α) (xs ys : List Value) (h : RL K A w l xs) (k : K.E A w e ys) : RL K A w (l ++ [e]) (xs ++ ys)
theorem RL.keep {X : List (Option Nat)} {l : List α} {cs : List Value} (hf : Fr X w w') (hX : ∀ g, A g → some g ∉ X) (h : RL K A w l cs) : RL K A w' l cs := by
  induction h with
  | nil => exact .nil
  | snoc l e xs ys _ k ih => exact .snoc l e xs ys ih (K.keep hf hX k)
theorem RL.mono {A' : Nat → Prop} {l : List α} {cs : List Value} (hA : ∀ g, A g → A' g) (h : RL K A w l cs) : RL K A' w l cs := by
  induction h with
  | nil => exact .nil
  | snoc l e xs ys _ k ih => exact .snoc l e xs ys ih (K.mono hA k)
theorem RL.live {l : List α} {cs : List Value} (h : RL K A w l cs) : RL K (fun g => A g ∧ g < w.heap.size) w l cs := by
  induction h with
  | nil => exact .nil
  | snoc l e xs ys _ k ih => exact .snoc l e xs ys ih (K.live k)
/-- a list that is returned: it lies in blocks from b on -/
def LsR (K : Kd α) (T : TypeId) (b : Nat) (w : World) (v : Value) (l : List α) : Prop :=
  ∃ cs, RL K (fun g => b ≤ g) w l cs ∧ Row w T K.size v l.length cs ∧ ∀ g, v.ownBlock = some g → b ≤ g
/-- a reader of one thing, where its words are at most n -/
def OneR (K : Kd α) (ret : List Value → Value) (P g : Nat) (w : World) (k : Nat) (args : Array Value) (n : Nat) (f : PS → α × PS) : Prop :=
  ∀ (w' : World) (s : PS), Fr [some P] w w' → PR w' P g s → s.l.length ≤ n → 0 ≤ s.deep → s.deep ≤ 64 →
    Calls Tryz.prog k args w' fun e w'' => (∃ cs, e = .returned (ret cs) ∧ K.E (fun b => w'.heap.size ≤ b) w'' (f s).1 cs) ∧ PR w'' P g (f s).2 ∧ Fr [some P] w' w''

/-- what the loop keeps -/
def LI (K : Kd α) (T : TypeId) (w : World) (P g n : Nat) (f : PS → α × PS) (res : List α × PS) (v : Value) (wr : World) : Prop :=
  ∃ (fuel : Nat) (acc : List α) (s' : PS) (cs : List Value), Hid (PM.more f fuel acc s' = res) ∧ s'.l.length ≤ fuel ∧ acc.length + s'.l.length ≤ 1001 ∧ s'.l.length ≤ n ∧ 0 ≤ s'.deep ∧ s'.deep ≤ 64 ∧ Hid (PR wr P g s') ∧
    Hid (RL K (fun b => w.heap.size ≤ b ∧ v.ownBlock ≠ some b) wr acc cs) ∧ Hid (Row wr T K.size v acc.length cs) ∧ Hid (∀ b, v.ownBlock = some b → w.heap.size ≤ b) ∧ Hid (Fr [some P] w wr)

/-- one is there: the list of one -/
theorem LI.start {T : TypeId} {w w1 : World} {P g n : Nat} {f : PS → α × PS} {s : PS} {cs : List Value} (hg : PM.Good f) (hn : s.l.length ≤ n) (hb : s.l.length ≤ 1000) (h0 : 0 ≤ s.deep) (h64 : s.deep ≤ 64) (hP : PR w1 P g (f s).2)
    (hx : K.E (fun b => w.heap.size ≤ b) w1 (f s).1 cs) (hF : Fr [some P] w w1) : LI K T w P g n f (PM.list f s) (.slice (some ⟨w1.heap.size, 0, none⟩) 1 1) (w1.alloc (.cells cs.toArray T)) := by
  have hgs := hg s
  have hl := K.len hx
  refine ⟨(f s).2.l.length, [(f s).1], (f s).2, cs, rfl, Nat.le_refl _, by simp; omega, by omega, by omega, by omega, hP.alloc _, ?_, ?_, ?_, hF.alloc _⟩
  · have h := RL.snoc (K := K) (A := fun b => w.heap.size ≤ b ∧ (Value.slice (some ⟨w1.heap.size, 0, none⟩) 1 1).ownBlock ≠ some b) (w := w1.alloc (.cells cs.toArray T)) [] (f s).1 [] cs .nil
      (K.mono (fun g hg => ⟨hg.1, by simp [Value.ownBlock]; omega⟩) (K.keep ((Fr.refl [] w1).alloc _) (fun g _ => by simp) (K.live hx)))
    exact h
  · refine ⟨by simp [hl], .inr ⟨w1.heap.size, 0, 1, cs, rfl, Blk.new w1 T cs, Nat.le_refl _, by simp [maxLen], by simp [hl], ?_⟩⟩
    rw [List.drop_zero, List.take_of_length_le (by simp [hl])]
  · intro b hb
    simp only [Value.ownBlock, Option.some.injEq] at hb
    subst hb
    exact hF.size

/-- one more -/
theorem LI.step {T : TypeId} {w wr w1 w2 w4 : World} {P g n fu : Nat} {f : PS → α × PS} {res : List α × PS} {acc : List α} {x : α} {s2 : PS} {cs ys : List Value} {v v' : Value} (hres : PM.more f fu (acc ++ [x]) s2 = res) (hfu : s2.l.length ≤ fu) (hb : acc.length + s2.l.length ≤ 1000) (hn : s2.l.length ≤ n) (h0 : 0 ≤ s2.deep) (h64 : s2.deep ≤ 64)
    (hPw : P < w.heap.size) (hR : RL K (fun b => w.heap.size ≤ b ∧ v.ownBlock ≠ some b) wr acc cs) (hrow : Row wr T K.size v acc.length cs) (hown : ∀ b, v.ownBlock = some b → w.heap.size ≤ b) (hF : Fr [some P] w wr)
    (h1 : Fr [some P] wr w1) (h2 : Fr [some P] w1 w2) (hx : K.E (fun b => w1.heap.size ≤ b) w2 x ys) (hP : PR w2 P g s2)
    (hrow' : Row w4 T K.size v' (acc.length + 1) (cs ++ ys)) (hf4 : Fr [v.ownBlock] (w2.alloc (.cells ys.toArray T)) w4) (hown' : v'.ownBlock = v.ownBlock ∨ ∃ k, w2.heap.size + 1 ≤ k ∧ v'.ownBlock = some k) :
    LI K T w P g n f res v' w4 ∧ meaL P w4 = s2.l.length := by
  have hgP := hP.ne
  have hvP : ∀ q, q ≤ P → some q ∉ [v.ownBlock] := by
    intro q hq hm
    simp only [List.mem_singleton] at hm
    have := hown q hm.symm
    omega
  have hvl : ∀ b, v.ownBlock = some b → b < wr.heap.size := fun b hb => hrow.block_lt hb
  have hs1 := h1.size
  have hs2 := h2.size
  have hsF := hF.size
  have hP4 : PR w4 P g s2 := (hP.alloc _).keep hf4 (hvP P (Nat.le_refl _)) (hvP g (by omega))
  have h12 : Fr [some P] wr (w2.alloc (.cells ys.toArray T)) := (h1.trans h2).alloc _
  have hv' : ∀ b, v'.ownBlock = some b → v.ownBlock = some b ∨ w2.heap.size < b := by
    intro b hb
    rcases hown' with h | ⟨k, hk, h⟩
    · exact .inl (h ▸ hb)
    · rw [h] at hb
      simp at hb hk
      omega
  have hRa : RL K (fun b => w.heap.size ≤ b ∧ v'.ownBlock ≠ some b) w4 acc cs := by
    refine RL.mono (fun b hb => ⟨hb.1.1, fun h => ?_⟩) (RL.keep (A := fun b => (w.heap.size ≤ b ∧ v.ownBlock ≠ some b) ∧ b < wr.heap.size) hf4 (fun b hb => by simp; exact fun h => hb.1.2 h.symm) (RL.keep h12 (fun b hb => by simp; omega) hR.live))
    rcases hv' b h with h | h
    · exact hb.1.2 h
    · have := hb.2
      omega
  have hRx : K.E (fun b => w.heap.size ≤ b ∧ v'.ownBlock ≠ some b) w4 x ys := by
    refine K.mono (fun b hb => ⟨by omega, fun h => ?_⟩) (K.keep (A := fun b => w1.heap.size ≤ b ∧ b < w2.heap.size) hf4 (fun b hb => ?_) (K.keep ((Fr.refl [] w2).alloc _) (fun b _ => by simp) (K.live hx)))
    · rcases hv' b h with h | h
      · have := hvl b h
        omega
      · omega
    · simp
      intro h
      have := hvl b h.symm
      omega
  refine ⟨⟨fu, acc ++ [x], s2, cs ++ ys, hres, hfu, by simp; omega, hn, h0, h64, hP4, .snoc _ _ _ _ hRa hRx, ?_, ?_, ?_⟩, meaL_of hP4⟩
  · rw [List.length_append]
    exact hrow'
  · intro b hb
    rcases hv' b hb with h | h
    · exact hown b h
    · omega
  · refine (hF.trans h12).trans' hf4 (fun i hi => .inr ?_)
    simp at hi
    exact hown i hi.symm
/-- none more -/
theorem LI.done {T : TypeId} {w wr : World} {acc : List α} {v : Value} {cs : List Value} (hR : RL K (fun b => w.heap.size ≤ b ∧ v.ownBlock ≠ some b) wr acc cs) (hrow : Row wr T K.size v acc.length cs) (hown : ∀ b, v.ownBlock = some b → w.heap.size ≤ b) : LsR K T w.heap.size wr v acc :=
  ⟨cs, RL.mono (fun _ h => h.1) hR, hrow, hown⟩

/-- expressions -/
def kEx : Kd Ex where
  size := 7
  E := Rep.E 82
  keep := fun h1 h2 h3 => Rep.E.keep h1 h2 h3
  mono := fun h1 h2 => Rep.E.mono h1 h2
  live := fun h => Rep.E.live h
  len := fun h => h.length
  one := fun h => by
    cases h with
    | mk op kind int t tb n args v hv =>
      cases hv with
      | mk _ _ xs h1 h2 h3 =>
        rcases h2.form with ⟨rfl, _, _⟩ | ⟨g, off, cap, rfl, _, _⟩
        · simp [Rep.str, Value.oneCell']
        · simp [Rep.str, Value.oneCell']
/-- things without a part of their own in memory -/
def kFlat (cells : α → List Value) (size : Nat) (hl : ∀ x, (cells x).length = size) (h1 : ∀ x, ∀ u ∈ cells x, u.oneCell' = true) : Kd α where
  size := size
  E := fun _ _ x cs => cs = cells x
  keep := fun _ _ h => h
  mono := fun _ h => h
  live := fun h => h
  len := fun h => by subst h; exact hl _
  one := fun h => by subst h; exact h1 _
def colC (c : PM.Col) : List Value := [.string ⟨c.name.toArray⟩, .int .i64 c.kind, .string ⟨c.ref.toArray⟩]
def itC (i : PM.It) : List Value := [.int .i64 i.agg, .string ⟨i.table.toArray⟩, .string ⟨i.name.toArray⟩]
def u16C (n : Int) : List Value := [.int .u16 n]
def kCol : Kd PM.Col := kFlat colC 3 (fun _ => rfl) (fun _ => by simp [colC, Value.oneCell'])
def kIt : Kd PM.It := kFlat itC 3 (fun _ => rfl) (fun _ => by simp [itC, Value.oneCell'])
def kTag : Kd Int := kFlat u16C 1 (fun _ => rfl) (fun _ => by simp [u16C, Value.oneCell'])
theorem flat_list {cells : α → List Value} {size : Nat} {hl : ∀ x, (cells x).length = size} {h1 : ∀ x, ∀ u ∈ cells x, u.oneCell' = true} {l : List α} {cs : List Value} (h : RL (kFlat cells size hl h1) A w l cs) : cs = l.flatMap cells := by
  induction h with
  | nil => rfl
  | snoc l e xs ys _ k ih => rw [List.flatMap_append, ih, show ys = cells e from k]; simp
theorem ex_list {l : List Ex} {cs : List Value} (h : RL kEx A w l cs) : Rep.L 82 A w l cs := by
  induction h with
  | nil => exact .nil
  | snoc l e xs ys _ k ih => exact ih.snoc k
theorem ex_es {b : Nat} {w : World} {v : Value} {l : List Ex} (h : LsR kEx 82 b w v l) : Rep.Es 82 (fun g => b ≤ g) w l v := by
  obtain ⟨cs, h1, h2, h3⟩ := h
  exact .mk l v cs (ex_list h1) h2 h3
/-- a reader of expressions is a reader of one -/
def agg (cs : List Value) : Value := .agg cs.toArray
def hd (cs : List Value) : Value := cs.headD undef
theorem Reads.one {P g : Nat} {w : World} {k : Nat} {args : Array Value} {n : Nat} {f : PS → Ex × PS} (h : Reads P g w k args n f) : OneR kEx agg P g w k args n f := h
end Px
end Go.Proofs.YtmdnhinpaflamaaGreatDoor
namespace Go.Proofs.YtmdnhinpaflamaaGreatDoor
open Go.RowKit
namespace Px
open PM (PS B Ex)

theorem info_ex : (Tryz.prog.info? 82).map (fun i => (i.zero, i.size, i.bytes)) = some (some (.agg z7.toArray), 7, 96) := by kernel_rfl
theorem info_col : (Tryz.prog.info? 57).map (fun i => (i.zero, i.size, i.bytes)) = some (some (.agg #[.string ⟨#[]⟩, .int .i64 0, .string ⟨#[]⟩]), 3, 40) := by kernel_rfl
theorem info_item : (Tryz.prog.info? 60).map (fun i => (i.zero, i.size, i.bytes)) = some (some (.agg #[.int .i64 0, .string ⟨#[]⟩, .string ⟨#[]⟩]), 3, 40) := by kernel_rfl
theorem info_u16 : (Tryz.prog.info? 58).map (fun i => (i.zero, i.size, i.bytes)) = some (some (.int .u16 0), 1, 2) := by kernel_rfl
theorem lim96 {n b : Nat} (h : n ≤ 1000) (hb : b ≤ 96) : n + 1 ≤ maxLen ∧ (n + 1) * b ≤ 140737488355328 := by
  refine ⟨by unfold maxLen; omega, ?_⟩
  have : (n + 1) * b ≤ 1001 * 96 := Nat.mul_le_mul (by omega) hb
  omega

theorem ex_form {A : Nat → Prop} {w : World} {x : Ex} {cs : List Value} (h : kEx.E A w x cs) : ∃ (op kind int : Int) (t tb n : B) (a : Option Addr) (len cap : Nat), cs = [.int .i64 op, .int .i64 kind, .int .i64 int, .string ⟨t.toArray⟩, .string ⟨tb.toArray⟩, .string ⟨n.toArray⟩, .slice a len cap] := by
  cases h with
  | mk op kind int t tb n args v hv =>
    cases hv with
    | mk _ _ xs h1 h2 h3 =>
      rcases h2.form with ⟨rfl, _, _⟩ | ⟨g, off, cap, rfl, _, _⟩
      · exact ⟨_, _, _, _, _, _, _, _, _, rfl⟩
      · exact ⟨_, _, _, _, _, _, _, _, _, rfl⟩
theorem col_form {A : Nat → Prop} {w : World} {x : PM.Col} {cs : List Value} (h : kCol.E A w x cs) : ∃ (a : B) (b : Int) (c : B), cs = [.string ⟨a.toArray⟩, .int .i64 b, .string ⟨c.toArray⟩] := ⟨_, _, _, h⟩
theorem item_form {A : Nat → Prop} {w : World} {x : PM.It} {cs : List Value} (h : kIt.E A w x cs) : ∃ (a : Int) (b c : B), cs = [.int .i64 a, .string ⟨b.toArray⟩, .string ⟨c.toArray⟩] := ⟨_, _, _, h⟩
theorem u16_form {A : Nat → Prop} {w : World} {x : Int} {cs : List Value} (h : kTag.E A w x cs) : ∃ a : Int, cs = [.int .u16 a] := ⟨_, h⟩

set_option maxRecDepth 100000 in
set_option maxHeartbeats 2000000 in
theorem list_ex (P g : Nat) (s : PS) (k : Nat) (fst cap : Array Value) (n : Nat) (f : PS → Ex × PS) (hg : PM.Good f) (w : World) (h : PR w P g s) (h0 : 0 ≤ s.deep) (h64 : s.deep ≤ 64) (hn : s.l.length ≤ n) (hb : s.l.length ≤ 1000)
    (hrun : ∀ w : World, Sem.run Tryz.prog (callFunc k (fst ++ cap)) w = .ok (.enter k (fst ++ cap)) w) (hf : OneR kEx agg P g w k (fst ++ cap) n f) :
    Calls Tryz.prog 54 #[.pointer (some ⟨P, 0, none⟩), .func (.func k) fst cap] w fun e w' => (∃ v, e = .returned v ∧ LsR kEx 82 w.heap.size w' v (PM.list f s).1) ∧ PR w' P g (PM.list f s).2 ∧ Fr [some P] w w' := by
  have hPl := h.lt
  have HPL := Lib.hid hPl
  have HRUN := Lib.hid hrun
  have HREAD := Lib.hid hf
  have HG := Lib.hid hg
  have HC1 := Lib.hid (hf w s (Fr.refl _ _) h hn h0 h64)
  have HN := Lib.hid (And.intro hn (And.intro hb (And.intro h0 h64)))
  obtain ⟨i0, hi, hz0, hz1, hz2⟩ := info_parts info_ex
  clear h hrun hf hg hn hb h0 h64
  go_enter Tryz.func54, Tryz.ntmps54
  go_wp2_with fail
  rw [HRUN.out, Oper.upon_enter]
  refine HC1.out.mono ?_
  rintro e w1 ⟨⟨cs, rfl, hx⟩, h1, hf1⟩
  have HX := Lib.hid hx
  obtain ⟨op1, kind1, int1, t1, tb1, nm1, va1, vl1, vc1, rfl⟩ := ex_form hx
  have HST := Lib.hid (LI.start (K := kEx) (T := 82) (n := n) HG.out HN.out.1 HN.out.2.1 HN.out.2.2.1 HN.out.2.2.2 h1 HX.out hf1)
  clear hx h1 hf1 HC1
  simp only [agg]
  go_wp2_with fail
  go_loopw [5] (fun v wr => LI kEx 82 w P g n f (PM.list f s) v wr) (fun _ wr => meaL P wr)
  case atStart => exact HST.out
  case round =>
    clear HST HX
    obtain ⟨fuel, acc, s', cs, HRES, hfu, hbb, hnn, hd0, hd64, HR, HL, HROW, HOWN, HF⟩ := hrel
    have hpos := HR.out.wf.pos
    have HMEA := Lib.hid (meaL_of HR.out)
    obtain ⟨fu, rfl⟩ : ∃ fu, fuel = fu + 1 := ⟨fuel - 1, by omega⟩
    go_wp2_with fail
    refine (skips_any P g s' [44] wr HR.out).mono ?_
    rintro e w2 ⟨rfl, h2, hf2⟩
    have H2 := Lib.hid h2
    have HF2 := Lib.hid hf2
    clear h2 hf2
    cases hi : PM.is [44] s'
    · have HD : Hid ((acc, s') = PM.list f s) := Lib.hid (by rw [← HRES.out, PM.more, if_neg (by rw [hi]; decide)])
      have hsk : skipd [44] s' = s' := by rw [skipd, hi]; rfl
      rw [hsk] at H2
      clear hi hsk
      go_wp2_with fail
      go_ret
      rw [← HD.out]
      have hne : ∀ q, q ≤ P → some q ∉ [u5.ownBlock] := by
        intro q hq hm
        simp only [List.mem_singleton] at hm
        have := HOWN.out q hm.symm
        have := HPL.out
        omega
      refine ⟨⟨_, rfl, LI.done (RL.keep HF2.out (fun b hb => by have := HPL.out; simp; omega) HL.out) (HROW.out.keep HF2.out (fun b hb => by have := HOWN.out b hb; have := HPL.out; simp; omega)) HOWN.out⟩, H2.out, HF.out.trans HF2.out⟩
    · have hsk : skipd [44] s' = PM.skip s' := by rw [skipd, hi]; rfl
      have hkk := is_kind hi
      have h2l := WF.two HR.out.wf hkk
      have hls : (PM.skip s').l.length = s'.l.length - 1 := by simp [PM.skip]
      rw [hsk] at H2
      have HD : Hid (PM.more f fu (acc ++ [(f (PM.skip s')).1]) (f (PM.skip s')).2 = PM.list f s) := Lib.hid (by rw [← HRES.out, PM.more, if_pos hi])
      have hgs := HG.out (PM.skip s')
      have HGS := Lib.hid hgs
      have HC2 := Lib.hid (HREAD.out w2 (PM.skip s') (HF.out.trans HF2.out) H2.out (by omega) hd0 hd64)
      have hlim := lim96 (n := acc.length) (b := 96) (by omega) (by omega)
      obtain ⟨hmx, hby⟩ := hlim
      have HLS := Lib.hid hls
      clear hi hsk hkk hgs hls
      go_wp2_with fail
      rw [HRUN.out, Oper.upon_enter]
      refine HC2.out.mono ?_
      rintro e w3 ⟨⟨ys, rfl, hx⟩, h3, hf3⟩
      have HX3 := Lib.hid hx
      obtain ⟨op3, kind3, int3, t3, tb3, nm3, va3, vl3, vc3, rfl⟩ := ex_form hx
      have H3 := Lib.hid h3
      have HF3 := Lib.hid hf3
      clear hx h3 hf3 HC2
      have HROW3 := Lib.hid ((HROW.out.keep (HF2.out.trans HF3.out) (fun b hb => by have := HOWN.out b hb; have := HPL.out; simp; omega)).keep ((Fr.refl [] w3).alloc (.cells #[.int .i64 op3, .int .i64 kind3, .int .i64 int3, .string ⟨t3.toArray⟩, .string ⟨tb3.toArray⟩, .string ⟨nm3.toArray⟩, .slice va3 vl3 vc3] 82)) (by simp))
      simp only [agg]
      go_wp2_with (at_builtin; refine wpList_append_row rfl _ _ 25 rfl 82 i0 (.agg z7.toArray) 7 96 Tryz.underlying25 hi hz0 hz1 hz2 rfl (by decide) u5 acc.length cs rfl HROW3.out ⟨w3.heap.size, 0, none⟩ 1 1 [.int .i64 op3, .int .i64 kind3, .int .i64 int3, .string ⟨t3.toArray⟩, .string ⟨tb3.toArray⟩, .string ⟨nm3.toArray⟩, .slice va3 vl3 vc3] rfl rfl ?c1 ?c2 hmx hby ?_)
      case c1 => exact Lx.four_new w3 82 [.int .i64 op3, .int .i64 kind3, .int .i64 int3, .string ⟨t3.toArray⟩, .string ⟨tb3.toArray⟩, .string ⟨nm3.toArray⟩, .slice va3 vl3 vc3]
      case c2 => exact (kEx).one HX3.out
      intro v' w4 hr' hf' hb'
      obtain ⟨st1, st2⟩ := LI.step (K := kEx) (T := 82) (w := w) (n := n) (v := u5) (v' := v') HD.out (by have := HGS.out; have := HLS.out; omega) (by have := HGS.out; have := HLS.out; omega) (by have := HGS.out; have := HLS.out; omega) (by have := HGS.out; rw [HGS.out.1]; exact hd0) (by rw [HGS.out.1]; exact hd64) HPL.out HL.out HROW.out HOWN.out HF.out HF2.out HF3.out HX3.out H3.out hr' hf' hb'
      have HSTEP := Lib.hid st1
      have HME : Hid (meaL P w4 < meaL P wr) := Lib.hid (by rw [st2, HMEA.out]; have := HGS.out; have := HLS.out; omega)
      clear hr' hf' hb' st1 st2
      go_wp2_with fail
      go_roundw
      case rel => exact HSTEP.out
      case measure => exact HME.out

set_option maxRecDepth 100000 in
set_option maxHeartbeats 2000000 in
theorem list_col (P g : Nat) (s : PS) (k : Nat) (fst cap : Array Value) (n : Nat) (f : PS → PM.Col × PS) (hg : PM.Good f) (w : World) (h : PR w P g s) (h0 : 0 ≤ s.deep) (h64 : s.deep ≤ 64) (hn : s.l.length ≤ n) (hb : s.l.length ≤ 1000)
    (hrun : ∀ w : World, Sem.run Tryz.prog (callFunc k (fst ++ cap)) w = .ok (.enter k (fst ++ cap)) w) (hf : OneR kCol agg P g w k (fst ++ cap) n f) :
    Calls Tryz.prog 100 #[.pointer (some ⟨P, 0, none⟩), .func (.func k) fst cap] w fun e w' => (∃ v, e = .returned v ∧ LsR kCol 57 w.heap.size w' v (PM.list f s).1) ∧ PR w' P g (PM.list f s).2 ∧ Fr [some P] w w' := by
  have hPl := h.lt
  have HPL := Lib.hid hPl
  have HRUN := Lib.hid hrun
  have HREAD := Lib.hid hf
  have HG := Lib.hid hg
  have HC1 := Lib.hid (hf w s (Fr.refl _ _) h hn h0 h64)
  have HN := Lib.hid (And.intro hn (And.intro hb (And.intro h0 h64)))
  obtain ⟨i0, hi, hz0, hz1, hz2⟩ := info_parts info_col
  clear h hrun hf hg hn hb h0 h64
  go_enter Tryz.func100, Tryz.ntmps100
  go_wp2_with fail
  rw [HRUN.out, Oper.upon_enter]
  refine HC1.out.mono ?_
  rintro e w1 ⟨⟨cs, rfl, hx⟩, h1, hf1⟩
  have HX := Lib.hid hx
  obtain ⟨a1, b1, c1, rfl⟩ := col_form hx
  have HST := Lib.hid (LI.start (K := kCol) (T := 57) (n := n) HG.out HN.out.1 HN.out.2.1 HN.out.2.2.1 HN.out.2.2.2 h1 HX.out hf1)
  clear hx h1 hf1 HC1
  simp only [agg]
  go_wp2_with fail
  go_loopw [5] (fun v wr => LI kCol 57 w P g n f (PM.list f s) v wr) (fun _ wr => meaL P wr)
  case atStart => exact HST.out
  case round =>
    clear HST HX
    obtain ⟨fuel, acc, s', cs, HRES, hfu, hbb, hnn, hd0, hd64, HR, HL, HROW, HOWN, HF⟩ := hrel
    have hpos := HR.out.wf.pos
    have HMEA := Lib.hid (meaL_of HR.out)
    obtain ⟨fu, rfl⟩ : ∃ fu, fuel = fu + 1 := ⟨fuel - 1, by omega⟩
    go_wp2_with fail
    refine (skips_any P g s' [44] wr HR.out).mono ?_
    rintro e w2 ⟨rfl, h2, hf2⟩
    have H2 := Lib.hid h2
    have HF2 := Lib.hid hf2
    clear h2 hf2
    cases hi : PM.is [44] s'
    · have HD : Hid ((acc, s') = PM.list f s) := Lib.hid (by rw [← HRES.out, PM.more, if_neg (by rw [hi]; decide)])
      have hsk : skipd [44] s' = s' := by rw [skipd, hi]; rfl
      rw [hsk] at H2
      clear hi hsk
      go_wp2_with fail
      go_ret
      rw [← HD.out]
      have hne : ∀ q, q ≤ P → some q ∉ [u5.ownBlock] := by
        intro q hq hm
        simp only [List.mem_singleton] at hm
        have := HOWN.out q hm.symm
        have := HPL.out
        omega
      refine ⟨⟨_, rfl, LI.done (RL.keep HF2.out (fun b hb => by have := HPL.out; simp; omega) HL.out) (HROW.out.keep HF2.out (fun b hb => by have := HOWN.out b hb; have := HPL.out; simp; omega)) HOWN.out⟩, H2.out, HF.out.trans HF2.out⟩
    · have hsk : skipd [44] s' = PM.skip s' := by rw [skipd, hi]; rfl
      have hkk := is_kind hi
      have h2l := WF.two HR.out.wf hkk
      have hls : (PM.skip s').l.length = s'.l.length - 1 := by simp [PM.skip]
      rw [hsk] at H2
      have HD : Hid (PM.more f fu (acc ++ [(f (PM.skip s')).1]) (f (PM.skip s')).2 = PM.list f s) := Lib.hid (by rw [← HRES.out, PM.more, if_pos hi])
      have hgs := HG.out (PM.skip s')
      have HGS := Lib.hid hgs
      have HC2 := Lib.hid (HREAD.out w2 (PM.skip s') (HF.out.trans HF2.out) H2.out (by omega) hd0 hd64)
      have hlim := lim96 (n := acc.length) (b := 40) (by omega) (by omega)
      obtain ⟨hmx, hby⟩ := hlim
      have HLS := Lib.hid hls
      clear hi hsk hkk hgs hls
      go_wp2_with fail
      rw [HRUN.out, Oper.upon_enter]
      refine HC2.out.mono ?_
      rintro e w3 ⟨⟨ys, rfl, hx⟩, h3, hf3⟩
      have HX3 := Lib.hid hx
      obtain ⟨a3, b3, c3, rfl⟩ := col_form hx
      have H3 := Lib.hid h3
      have HF3 := Lib.hid hf3
      clear hx h3 hf3 HC2
      have HROW3 := Lib.hid ((HROW.out.keep (HF2.out.trans HF3.out) (fun b hb => by have := HOWN.out b hb; have := HPL.out; simp; omega)).keep ((Fr.refl [] w3).alloc (.cells #[.string ⟨a3.toArray⟩, .int .i64 b3, .string ⟨c3.toArray⟩] 57)) (by simp))
      simp only [agg]
      go_wp2_with (at_builtin; refine wpList_append_row rfl _ _ 23 rfl 57 i0 (.agg #[.string ⟨#[]⟩, .int .i64 0, .string ⟨#[]⟩]) 3 40 Tryz.underlying23 hi hz0 hz1 hz2 rfl (by decide) u5 acc.length cs rfl HROW3.out ⟨w3.heap.size, 0, none⟩ 1 1 [.string ⟨a3.toArray⟩, .int .i64 b3, .string ⟨c3.toArray⟩] rfl rfl ?c1 ?c2 hmx hby ?_)
      case c1 => exact Lx.four_new w3 57 [.string ⟨a3.toArray⟩, .int .i64 b3, .string ⟨c3.toArray⟩]
      case c2 => exact (kCol).one HX3.out
      intro v' w4 hr' hf' hb'
      obtain ⟨st1, st2⟩ := LI.step (K := kCol) (T := 57) (w := w) (n := n) (v := u5) (v' := v') HD.out (by have := HGS.out; have := HLS.out; omega) (by have := HGS.out; have := HLS.out; omega) (by have := HGS.out; have := HLS.out; omega) (by have := HGS.out; rw [HGS.out.1]; exact hd0) (by rw [HGS.out.1]; exact hd64) HPL.out HL.out HROW.out HOWN.out HF.out HF2.out HF3.out HX3.out H3.out hr' hf' hb'
      have HSTEP := Lib.hid st1
      have HME : Hid (meaL P w4 < meaL P wr) := Lib.hid (by rw [st2, HMEA.out]; have := HGS.out; have := HLS.out; omega)
      clear hr' hf' hb' st1 st2
      go_wp2_with fail
      go_roundw
      case rel => exact HSTEP.out
      case measure => exact HME.out

set_option maxRecDepth 100000 in
set_option maxHeartbeats 2000000 in
theorem list_item (P g : Nat) (s : PS) (k : Nat) (fst cap : Array Value) (n : Nat) (f : PS → PM.It × PS) (hg : PM.Good f) (w : World) (h : PR w P g s) (h0 : 0 ≤ s.deep) (h64 : s.deep ≤ 64) (hn : s.l.length ≤ n) (hb : s.l.length ≤ 1000)
    (hrun : ∀ w : World, Sem.run Tryz.prog (callFunc k (fst ++ cap)) w = .ok (.enter k (fst ++ cap)) w) (hf : OneR kIt agg P g w k (fst ++ cap) n f) :
    Calls Tryz.prog 106 #[.pointer (some ⟨P, 0, none⟩), .func (.func k) fst cap] w fun e w' => (∃ v, e = .returned v ∧ LsR kIt 60 w.heap.size w' v (PM.list f s).1) ∧ PR w' P g (PM.list f s).2 ∧ Fr [some P] w w' := by
  have hPl := h.lt
  have HPL := Lib.hid hPl
  have HRUN := Lib.hid hrun
  have HREAD := Lib.hid hf
  have HG := Lib.hid hg
  have HC1 := Lib.hid (hf w s (Fr.refl _ _) h hn h0 h64)
  have HN := Lib.hid (And.intro hn (And.intro hb (And.intro h0 h64)))
  obtain ⟨i0, hi, hz0, hz1, hz2⟩ := info_parts info_item
  clear h hrun hf hg hn hb h0 h64
  go_enter Tryz.func106, Tryz.ntmps106
  go_wp2_with fail
  rw [HRUN.out, Oper.upon_enter]
  refine HC1.out.mono ?_
  rintro e w1 ⟨⟨cs, rfl, hx⟩, h1, hf1⟩
  have HX := Lib.hid hx
  obtain ⟨a1, b1, c1, rfl⟩ := item_form hx
  have HST := Lib.hid (LI.start (K := kIt) (T := 60) (n := n) HG.out HN.out.1 HN.out.2.1 HN.out.2.2.1 HN.out.2.2.2 h1 HX.out hf1)
  clear hx h1 hf1 HC1
  simp only [agg]
  go_wp2_with fail
  go_loopw [5] (fun v wr => LI kIt 60 w P g n f (PM.list f s) v wr) (fun _ wr => meaL P wr)
  case atStart => exact HST.out
  case round =>
    clear HST HX
    obtain ⟨fuel, acc, s', cs, HRES, hfu, hbb, hnn, hd0, hd64, HR, HL, HROW, HOWN, HF⟩ := hrel
    have hpos := HR.out.wf.pos
    have HMEA := Lib.hid (meaL_of HR.out)
    obtain ⟨fu, rfl⟩ : ∃ fu, fuel = fu + 1 := ⟨fuel - 1, by omega⟩
    go_wp2_with fail
    refine (skips_any P g s' [44] wr HR.out).mono ?_
    rintro e w2 ⟨rfl, h2, hf2⟩
    have H2 := Lib.hid h2
    have HF2 := Lib.hid hf2
    clear h2 hf2
    cases hi : PM.is [44] s'
    · have HD : Hid ((acc, s') = PM.list f s) := Lib.hid (by rw [← HRES.out, PM.more, if_neg (by rw [hi]; decide)])
      have hsk : skipd [44] s' = s' := by rw [skipd, hi]; rfl
      rw [hsk] at H2
      clear hi hsk
      go_wp2_with fail
      go_ret
      rw [← HD.out]
      have hne : ∀ q, q ≤ P → some q ∉ [u5.ownBlock] := by
        intro q hq hm
        simp only [List.mem_singleton] at hm
        have := HOWN.out q hm.symm
        have := HPL.out
        omega
      refine ⟨⟨_, rfl, LI.done (RL.keep HF2.out (fun b hb => by have := HPL.out; simp; omega) HL.out) (HROW.out.keep HF2.out (fun b hb => by have := HOWN.out b hb; have := HPL.out; simp; omega)) HOWN.out⟩, H2.out, HF.out.trans HF2.out⟩
    · have hsk : skipd [44] s' = PM.skip s' := by rw [skipd, hi]; rfl
      have hkk := is_kind hi
      have h2l := WF.two HR.out.wf hkk
      have hls : (PM.skip s').l.length = s'.l.length - 1 := by simp [PM.skip]
      rw [hsk] at H2
      have HD : Hid (PM.more f fu (acc ++ [(f (PM.skip s')).1]) (f (PM.skip s')).2 = PM.list f s) := Lib.hid (by rw [← HRES.out, PM.more, if_pos hi])
      have hgs := HG.out (PM.skip s')
      have HGS := Lib.hid hgs
      have HC2 := Lib.hid (HREAD.out w2 (PM.skip s') (HF.out.trans HF2.out) H2.out (by omega) hd0 hd64)
      have hlim := lim96 (n := acc.length) (b := 40) (by omega) (by omega)
      obtain ⟨hmx, hby⟩ := hlim
      have HLS := Lib.hid hls
      clear hi hsk hkk hgs hls
      go_wp2_with fail
      rw [HRUN.out, Oper.upon_enter]
      refine HC2.out.mono ?_
      rintro e w3 ⟨⟨ys, rfl, hx⟩, h3, hf3⟩
      have HX3 := Lib.hid hx
      obtain ⟨a3, b3, c3, rfl⟩ := item_form hx
      have H3 := Lib.hid h3
      have HF3 := Lib.hid hf3
      clear hx h3 hf3 HC2
      have HROW3 := Lib.hid ((HROW.out.keep (HF2.out.trans HF3.out) (fun b hb => by have := HOWN.out b hb; have := HPL.out; simp; omega)).keep ((Fr.refl [] w3).alloc (.cells #[.int .i64 a3, .string ⟨b3.toArray⟩, .string ⟨c3.toArray⟩] 60)) (by simp))
      simp only [agg]
      go_wp2_with (at_builtin; refine wpList_append_row rfl _ _ 26 rfl 60 i0 (.agg #[.int .i64 0, .string ⟨#[]⟩, .string ⟨#[]⟩]) 3 40 Tryz.underlying26 hi hz0 hz1 hz2 rfl (by decide) u5 acc.length cs rfl HROW3.out ⟨w3.heap.size, 0, none⟩ 1 1 [.int .i64 a3, .string ⟨b3.toArray⟩, .string ⟨c3.toArray⟩] rfl rfl ?c1 ?c2 hmx hby ?_)
      case c1 => exact Lx.four_new w3 60 [.int .i64 a3, .string ⟨b3.toArray⟩, .string ⟨c3.toArray⟩]
      case c2 => exact (kIt).one HX3.out
      intro v' w4 hr' hf' hb'
      obtain ⟨st1, st2⟩ := LI.step (K := kIt) (T := 60) (w := w) (n := n) (v := u5) (v' := v') HD.out (by have := HGS.out; have := HLS.out; omega) (by have := HGS.out; have := HLS.out; omega) (by have := HGS.out; have := HLS.out; omega) (by have := HGS.out; rw [HGS.out.1]; exact hd0) (by rw [HGS.out.1]; exact hd64) HPL.out HL.out HROW.out HOWN.out HF.out HF2.out HF3.out HX3.out H3.out hr' hf' hb'
      have HSTEP := Lib.hid st1
      have HME : Hid (meaL P w4 < meaL P wr) := Lib.hid (by rw [st2, HMEA.out]; have := HGS.out; have := HLS.out; omega)
      clear hr' hf' hb' st1 st2
      go_wp2_with fail
      go_roundw
      case rel => exact HSTEP.out
      case measure => exact HME.out

set_option maxRecDepth 100000 in
set_option maxHeartbeats 2000000 in
theorem list_u16 (P g : Nat) (s : PS) (k : Nat) (fst cap : Array Value) (n : Nat) (f : PS → Int × PS) (hg : PM.Good f) (w : World) (h : PR w P g s) (h0 : 0 ≤ s.deep) (h64 : s.deep ≤ 64) (hn : s.l.length ≤ n) (hb : s.l.length ≤ 1000)
    (hrun : ∀ w : World, Sem.run Tryz.prog (callFunc k (fst ++ cap)) w = .ok (.enter k (fst ++ cap)) w) (hf : OneR kTag hd P g w k (fst ++ cap) n f) :
    Calls Tryz.prog 58 #[.pointer (some ⟨P, 0, none⟩), .func (.func k) fst cap] w fun e w' => (∃ v, e = .returned v ∧ LsR kTag 58 w.heap.size w' v (PM.list f s).1) ∧ PR w' P g (PM.list f s).2 ∧ Fr [some P] w w' := by
  have hPl := h.lt
  have HPL := Lib.hid hPl
  have HRUN := Lib.hid hrun
  have HREAD := Lib.hid hf
  have HG := Lib.hid hg
  have HC1 := Lib.hid (hf w s (Fr.refl _ _) h hn h0 h64)
  have HN := Lib.hid (And.intro hn (And.intro hb (And.intro h0 h64)))
  obtain ⟨i0, hi, hz0, hz1, hz2⟩ := info_parts info_u16
  clear h hrun hf hg hn hb h0 h64
  go_enter Tryz.func58, Tryz.ntmps58
  go_wp2_with fail
  rw [HRUN.out, Oper.upon_enter]
  refine HC1.out.mono ?_
  rintro e w1 ⟨⟨cs, rfl, hx⟩, h1, hf1⟩
  have HX := Lib.hid hx
  obtain ⟨a1, rfl⟩ := u16_form hx
  have HST := Lib.hid (LI.start (K := kTag) (T := 58) (n := n) HG.out HN.out.1 HN.out.2.1 HN.out.2.2.1 HN.out.2.2.2 h1 HX.out hf1)
  clear hx h1 hf1 HC1
  simp only [hd, List.headD_cons]
  go_wp2_with fail
  go_loopw [5] (fun v wr => LI kTag 58 w P g n f (PM.list f s) v wr) (fun _ wr => meaL P wr)
  case atStart => exact HST.out
  case round =>
    clear HST HX
    obtain ⟨fuel, acc, s', cs, HRES, hfu, hbb, hnn, hd0, hd64, HR, HL, HROW, HOWN, HF⟩ := hrel
    have hpos := HR.out.wf.pos
    have HMEA := Lib.hid (meaL_of HR.out)
    obtain ⟨fu, rfl⟩ : ∃ fu, fuel = fu + 1 := ⟨fuel - 1, by omega⟩
    go_wp2_with fail
    refine (skips_any P g s' [44] wr HR.out).mono ?_
    rintro e w2 ⟨rfl, h2, hf2⟩
    have H2 := Lib.hid h2
    have HF2 := Lib.hid hf2
    clear h2 hf2
    cases hi : PM.is [44] s'
    · have HD : Hid ((acc, s') = PM.list f s) := Lib.hid (by rw [← HRES.out, PM.more, if_neg (by rw [hi]; decide)])
      have hsk : skipd [44] s' = s' := by rw [skipd, hi]; rfl
      rw [hsk] at H2
      clear hi hsk
      go_wp2_with fail
      go_ret
      rw [← HD.out]
      have hne : ∀ q, q ≤ P → some q ∉ [u5.ownBlock] := by
        intro q hq hm
        simp only [List.mem_singleton] at hm
        have := HOWN.out q hm.symm
        have := HPL.out
        omega
      refine ⟨⟨_, rfl, LI.done (RL.keep HF2.out (fun b hb => by have := HPL.out; simp; omega) HL.out) (HROW.out.keep HF2.out (fun b hb => by have := HOWN.out b hb; have := HPL.out; simp; omega)) HOWN.out⟩, H2.out, HF.out.trans HF2.out⟩
    · have hsk : skipd [44] s' = PM.skip s' := by rw [skipd, hi]; rfl
      have hkk := is_kind hi
      have h2l := WF.two HR.out.wf hkk
      have hls : (PM.skip s').l.length = s'.l.length - 1 := by simp [PM.skip]
      rw [hsk] at H2
      have HD : Hid (PM.more f fu (acc ++ [(f (PM.skip s')).1]) (f (PM.skip s')).2 = PM.list f s) := Lib.hid (by rw [← HRES.out, PM.more, if_pos hi])
      have hgs := HG.out (PM.skip s')
      have HGS := Lib.hid hgs
      have HC2 := Lib.hid (HREAD.out w2 (PM.skip s') (HF.out.trans HF2.out) H2.out (by omega) hd0 hd64)
      have hlim := lim96 (n := acc.length) (b := 2) (by omega) (by omega)
      obtain ⟨hmx, hby⟩ := hlim
      have HLS := Lib.hid hls
      clear hi hsk hkk hgs hls
      go_wp2_with fail
      rw [HRUN.out, Oper.upon_enter]
      refine HC2.out.mono ?_
      rintro e w3 ⟨⟨ys, rfl, hx⟩, h3, hf3⟩
      have HX3 := Lib.hid hx
      obtain ⟨a3, rfl⟩ := u16_form hx
      have H3 := Lib.hid h3
      have HF3 := Lib.hid hf3
      clear hx h3 hf3 HC2
      have HROW3 := Lib.hid ((HROW.out.keep (HF2.out.trans HF3.out) (fun b hb => by have := HOWN.out b hb; have := HPL.out; simp; omega)).keep ((Fr.refl [] w3).alloc (.cells #[.int .u16 a3] 58)) (by simp))
      simp only [hd, List.headD_cons]
      go_wp2_with (at_builtin; refine wpList_append_row rfl _ _ 24 rfl 58 i0 (.int .u16 0) 1 2 Tryz.underlying24 hi hz0 hz1 hz2 rfl (by decide) u5 acc.length cs rfl HROW3.out ⟨w3.heap.size, 0, none⟩ 1 1 [.int .u16 a3] rfl rfl ?c1 ?c2 hmx hby ?_)
      case c1 => exact Lx.four_new w3 58 [.int .u16 a3]
      case c2 => exact (kTag).one HX3.out
      intro v' w4 hr' hf' hb'
      obtain ⟨st1, st2⟩ := LI.step (K := kTag) (T := 58) (w := w) (n := n) (v := u5) (v' := v') HD.out (by have := HGS.out; have := HLS.out; omega) (by have := HGS.out; have := HLS.out; omega) (by have := HGS.out; have := HLS.out; omega) (by have := HGS.out; rw [HGS.out.1]; exact hd0) (by rw [HGS.out.1]; exact hd64) HPL.out HL.out HROW.out HOWN.out HF.out HF2.out HF3.out HX3.out H3.out hr' hf' hb'
      have HSTEP := Lib.hid st1
      have HME : Hid (meaL P w4 < meaL P wr) := Lib.hid (by rw [st2, HMEA.out]; have := HGS.out; have := HLS.out; omega)
      clear hr' hf' hb' st1 st2
      go_wp2_with fail
      go_roundw
      case rel => exact HSTEP.out
      case measure => exact HME.out
end Px
end Go.Proofs.YtmdnhinpaflamaaGreatDoor
