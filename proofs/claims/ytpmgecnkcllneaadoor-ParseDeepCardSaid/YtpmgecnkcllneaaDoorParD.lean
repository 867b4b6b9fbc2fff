/- parse: tag, column. -/
import Derived.Test.YtpmgecnkcllneaaDoorParC
import Derived.Deep.RegionWith
namespace Go.Proofs.YtpmgecnkcllneaaDoor
open Go.RowKit

namespace Px
open LexM (Tok)
open PM (PS B Ex)
open Lx (toksC tokC tokV tokA)

/-- an expression that is returned -/
def ExR (b : Nat) (w : World) (e : Ending) (x : Ex) : Prop := ∃ cs, e = .returned (.agg cs.toArray) ∧ Rep.E 40 (fun g => b ≤ g) w x cs
def z7 : List Value := [.int .i64 0, .int .i64 0, .int .i64 0, .string ⟨#[]⟩, .string ⟨#[]⟩, .string ⟨#[]⟩, .slice none 0 0]
theorem ret_cell7 {fn : Func} {n : Nat} (h : fn.results = #[.cell n 40]) (tmps : Array Value) (T : Nat) (h2 : tmps.getD n undef = .pointer (some ⟨T, 0, none⟩)) (w : World) (a b c d e f g : Value) (hb : Blk w T 40 [a, b, c, d, e, f, g]) :
    (results fn tmps).run Tryd.prog w = .ok (.agg #[a, b, c, d, e, f, g]) w := by
  have c0 := hb.cell 0
  have c1 := hb.cell 1
  have c2 := hb.cell 2
  have c3 := hb.cell 3
  have c4 := hb.cell 4
  have c5 := hb.cell 5
  have c6 := hb.cell 6
  simp only [List.getElem?_cons_zero, List.getElem?_cons_succ] at c0 c1 c2 c3 c4 c5 c6
  have h2' : tmps[n]?.getD undef = .pointer (some ⟨T, 0, none⟩) := by simpa using h2
  simp [results, h, h2', go_sem, c0, c1, c2, c3, c4, c5, c6]

theorem conv16 (i : Int) (w : World) : (convert 2 97 (.int .i64 i)).run Tryd.prog w = .ok (.int .u16 (i % 65536)) w := by
  have h : IntKind.u16.wrap i = i % 65536 := by simp [IntKind.wrap, IntKind.bits, IntKind.signed]
  have k : (convert 2 97 (.int .i64 i)).run Tryd.prog w = .ok (.int .u16 (IntKind.u16.wrap i)) w := by kernel_rfl
  rw [k, h]

set_option maxRecDepth 100000 in
set_option maxHeartbeats 1000000 in
theorem tag_any (P g : Nat) (s : PS) (w : World) (h : PR w P g s) :
    Calls Tryd.prog 39 #[.pointer (some ⟨P, 0, none⟩)] w fun e w' => e = .returned (.int .u16 (PM.tag s).1) ∧ PR w' P g (PM.tag s).2 ∧ Fr [some P] w w' := by
  obtain ⟨off, cap, hat⟩ := h.at
  obtain ⟨c0, c1, c2, c3, f0, f1, f2, f3, t0, t1, t2, t3, hcap, hpos, hlim⟩ := hat
  have HP := Lib.hid h
  clear h f0 f1 f2 f3 c1 c2 c3 t1 t3
  have hpi : (0 : Int) < (s.l.length : Int) := by omega
  obtain ⟨k, hk⟩ : ∃ k, s.now.kind = k := ⟨_, rfl⟩
  obtain ⟨i, hi⟩ : ∃ i, s.now.int = i := ⟨_, rfl⟩
  rw [hk] at t0
  rw [hi] at t2
  by_cases hb : k = 3 ∧ 65535 < i
  · have hm : PM.tag s = ((PM.word 3 (PM.fails 3 s)).1.int % 65536, (PM.word 3 (PM.fails 3 s)).2) := by
      rw [PM.tag, if_pos (by rw [hk, hi]; exact hb)]
    have HM := Lib.hid hm
    obtain ⟨hk3, hi3⟩ := hb
    have e1 : (k == 3) = true := by rw [hk3]; rfl
    clear hm hk hi hk3
    go_enter Tryd.func39, Tryd.ntmps39
    go_wp2_with fail
    refine (fails_any P g s 3 w HP.out).mono ?_
    rintro e w1 ⟨rfl, h1, hf1⟩
    have H1 := Lib.hid h1
    have HF1 := Lib.hid hf1
    clear h1 hf1
    go_wp2_with fail
    refine (word_any P g (PM.fails 3 s) 3 (by decide) w1 H1.out).mono ?_
    rintro e w2 ⟨rfl, h2, hf2⟩
    obtain ⟨⟨t, s'⟩, hws⟩ : ∃ x, PM.word 3 (PM.fails 3 s) = x := ⟨_, rfl⟩
    rw [hws] at h2 HM ⊢
    have H2 := Lib.hid h2
    have HF2 : Hid (Fr [some P] w w2) := HF1.out.trans hf2
    clear h2 hf2 hws
    simp only [tokV, tokA]
    have hfd := fun w => field_int t.kind t.int t.pos ⟨t.text.toArray⟩ w
    have hcv := fun w => conv16 t.int w
    go_wp2_with fail
    go_ret
    rw [HM.out]
    exact ⟨rfl, H2.out, HF2.out⟩
  · have hm : PM.tag s = ((PM.word 3 s).1.int % 65536, (PM.word 3 s).2) := by
      rw [PM.tag, if_neg (by rw [hk, hi]; exact hb)]
    have HM := Lib.hid hm
    have hor : (k == 3) = false ∨ ((k == 3) = true ∧ i ≤ 65535) := by
      by_cases h1 : k = 3
      · right
        refine ⟨by rw [h1]; rfl, ?_⟩
        rcases (by omega : i ≤ 65535 ∨ 65535 < i) with h | h
        · exact h
        · exact absurd ⟨h1, h⟩ hb
      · left
        rw [beq_eq_false_iff_ne]
        exact h1
    clear hm hk hi hb
    rcases hor with e1 | ⟨e1, e2⟩
    all_goals
      go_enter Tryd.func39, Tryd.ntmps39
      go_wp2_with fail
      refine (word_any P g s 3 (by decide) w HP.out).mono ?_
      rintro e w2 ⟨rfl, h2, hf2⟩
      obtain ⟨⟨t, s'⟩, hws⟩ : ∃ x, PM.word 3 s = x := ⟨_, rfl⟩
      rw [hws] at h2 HM ⊢
      have H2 := Lib.hid h2
      have HF2 := Lib.hid hf2
      clear h2 hf2 hws
      simp only [tokV, tokA]
      have hfd := fun w => field_int t.kind t.int t.pos ⟨t.text.toArray⟩ w
      have hcv := fun w => conv16 t.int w
      go_wp2_with fail
      go_ret
      rw [HM.out]
      exact ⟨rfl, H2.out, HF2.out⟩

def put7 (w : World) (T : Nat) (a b c d e f g : Value) : World := ((((((w.setCell ⟨T, 0, none⟩ a).setCell ⟨T, 1, none⟩ b).setCell ⟨T, 2, none⟩ c).setCell ⟨T, 3, none⟩ d).setCell ⟨T, 4, none⟩ e).setCell ⟨T, 5, none⟩ f).setCell ⟨T, 6, none⟩ g
theorem frPut7 {X : List (Option Nat)} {z w : World} {T : Nat} (h : Fr X z w) (hT : some T ∈ X ∨ z.heap.size ≤ T) (a b c d e f g : Value) : Fr X z (put7 w T a b c d e f g) :=
  ((((((h.setCell (p := ⟨T, 0, none⟩) hT a).setCell (p := ⟨T, 1, none⟩) hT b).setCell (p := ⟨T, 2, none⟩) hT c).setCell (p := ⟨T, 3, none⟩) hT d).setCell (p := ⟨T, 4, none⟩) hT e).setCell (p := ⟨T, 5, none⟩) hT f).setCell (p := ⟨T, 6, none⟩) hT g
theorem blkPut7 {w : World} {T : Nat} {l : List Value} (h : Blk w T 40 l) (hl : l.length = 7) (a b c d e f g : Value) : Blk (put7 w T a b c d e f g) T 40 [a, b, c, d, e, f, g] := by
  obtain ⟨x0, x1, x2, x3, x4, x5, x6, rfl⟩ : ∃ x0 x1 x2 x3 x4 x5 x6, l = [x0, x1, x2, x3, x4, x5, x6] := by
    rcases l with _ | ⟨x0, _ | ⟨x1, _ | ⟨x2, _ | ⟨x3, _ | ⟨x4, _ | ⟨x5, _ | ⟨x6, _ | _⟩⟩⟩⟩⟩⟩⟩ <;> simp at hl
    exact ⟨x0, x1, x2, x3, x4, x5, x6, rfl⟩
  exact ((((((h.set 0 a).set 1 b).set 2 c).set 3 d).set 4 e).set 5 f).set 6 g
/-- what a walk is told of seven cells -/
structure C7 (w : World) (T : Nat) (a b c d e f g : Value) : Prop where
  c0 : w.cell? ⟨T, 0, none⟩ = some a
  c1 : w.cell? ⟨T, 1, none⟩ = some b
  c2 : w.cell? ⟨T, 2, none⟩ = some c
  c3 : w.cell? ⟨T, 3, none⟩ = some d
  c4 : w.cell? ⟨T, 4, none⟩ = some e
  c5 : w.cell? ⟨T, 5, none⟩ = some f
  c6 : w.cell? ⟨T, 6, none⟩ = some g
  f0 : w.frozen? ⟨T, 0, none⟩ = false
  f1 : w.frozen? ⟨T, 1, none⟩ = false
  f2 : w.frozen? ⟨T, 2, none⟩ = false
  f3 : w.frozen? ⟨T, 3, none⟩ = false
  f4 : w.frozen? ⟨T, 4, none⟩ = false
  f5 : w.frozen? ⟨T, 5, none⟩ = false
  f6 : w.frozen? ⟨T, 6, none⟩ = false
theorem c7_of {w : World} {T : Nat} {a b c d e f g : Value} (h : Blk w T 40 [a, b, c, d, e, f, g]) : C7 w T a b c d e f g :=
  ⟨h.cell 0, h.cell 1, h.cell 2, h.cell 3, h.cell 4, h.cell 5, h.cell 6, h.free 0, h.free 1, h.free 2, h.free 3, h.free 4, h.free 5, h.free 6⟩

/-- the column's cells: a block known whole -/
def colCells (t n : B) : List Value := [.int .i64 2, .int .i64 0, .int .i64 0, .string ⟨#[]⟩, .string ⟨t.toArray⟩, .string ⟨n.toArray⟩, .slice none 0 0]
theorem col_rep (A : Nat → Prop) (w : World) (t n : B) : Rep.E 40 A w (PM.colEx t n) (colCells t n) := .mk 2 0 0 [] t n [] _ Rep.Es.nil

set_option maxRecDepth 100000 in
set_option maxHeartbeats 1000000 in
theorem column_any (P g b : Nat) (s : PS) (w : World) (h : PR w P g s) :
    Calls Tryd.prog 59 #[.pointer (some ⟨P, 0, none⟩)] w fun e w' => ExR b w' e (PM.column s).1 ∧ PR w' P g (PM.column s).2 ∧ Fr [some P] w w' := by
  have hPl := h.lt
  have hgP := h.ne
  have HP := Lib.hid h
  clear h
  go_enter Tryd.func59, Tryd.ntmps59
  go_wp2_with fail
  refine (name_any P g s _ (HP.out.alloc _)).mono ?_
  rintro e w1 ⟨rfl, h1, hf1⟩
  obtain ⟨⟨n, s1⟩, hn⟩ : ∃ x, PM.name s = x := ⟨_, rfl⟩
  rw [hn] at h1 ⊢
  have HB1 := Lib.hid ((Blk.new w 40 z7).keep hf1 (by simp; omega))
  have HF1 : Hid (Fr [some P] w w1) := ((Fr.refl [some P] w).alloc _).trans hf1
  have H1 := Lib.hid h1
  have HN := Lib.hid hn
  have hl1 := h1.lt
  have hl2 := HB1.out.lt
  clear h1 hf1 hn
  go_wp2_with fail
  refine (skips_any P g s1 [46] _ (H1.out.alloc _)).mono ?_
  rintro e w2 ⟨rfl, h2, hf2⟩
  have HX2 := Lib.hid ((Blk.new w1 40 (colCells [] n)).keep hf2 (by simp; omega))
  have HB2 := Lib.hid ((Blk.alloc HB1.out _).keep hf2 (by simp; omega))
  have HF2 : Hid (Fr [some P] w w2) := (HF1.out.alloc _).trans hf2
  have H2 := Lib.hid h2
  have hs1 := hf2.size
  have hl3 := HX2.out.lt
  have hl4 := HB2.out.lt
  have hl5 := h2.lt
  clear h2 hf2
  have hne1 : ¬ w1.heap.size = w.heap.size := by omega
  have hne2 : ¬ w.heap.size = w1.heap.size := by omega
  obtain ⟨x0, x1, x2, x3, x4, x5, x6, g0, g1, g2, g3, g4, g5, g6⟩ := c7_of HX2.out
  obtain ⟨y0, y1, y2, y3, y4, y5, y6, k0, k1, k2, k3, k4, k5, k6⟩ := c7_of HB2.out
  cases hi : PM.is [46] s1
  · have e1 : skipd [46] s1 = s1 := by rw [skipd, hi]; rfl
    have hm : PM.column s = (PM.colEx [] n, s1) := by
      rw [PM.column, HN.out]
      simp only [hi, Bool.false_eq_true, if_false]
    rw [e1] at H2
    have HM := Lib.hid hm
    clear hm e1
    go_wp2_with fail
    refine bodyPost_ret (ret_cell7 rfl _ w.heap.size rfl _ _ _ _ _ _ _ _ (blkPut7 HB2.out rfl _ _ _ _ _ _ _)) rfl ⟨?_, ?_, frPut7 HF2.out (.inr (Nat.le_refl _)) _ _ _ _ _ _ _⟩
    all_goals rw [HM.out]
    · exact ⟨colCells [] n, rfl, col_rep _ _ [] n⟩
    · exact H2.out.keep (frPut7 (Fr.refl [some w.heap.size] _) (.inl (by simp)) _ _ _ _ _ _ _) (by simp; omega) (by simp; omega)
  · have e1 : skipd [46] s1 = PM.skip s1 := by rw [skipd, hi]; rfl
    obtain ⟨⟨m, s2⟩, hmn⟩ : ∃ x, PM.name (PM.skip s1) = x := ⟨_, rfl⟩
    have hm : PM.column s = (PM.colEx n m, s2) := by
      rw [PM.column, HN.out]
      simp only [hi, if_true, hmn]
    rw [e1] at H2
    have HM := Lib.hid hm
    have HMN := Lib.hid hmn
    have H2D : Hid (PR w2.drew P g (PM.skip s1)) := H2.out.keep (Fr.drew (Fr.refl [] w2)) (by simp) (by simp)
    have HX2D : Hid (Blk w2.drew w1.heap.size 40 (colCells [] n)) := HX2.out
    have HB2D : Hid (Blk w2.drew w.heap.size 40 z7) := HB2.out
    have HF2D : Hid (Fr [some P] w w2.drew) := HF2.out.drew
    have HLS : Hid (P < w1.heap.size ∧ P < w.heap.size ∧ g < P ∧ w.heap.size < w1.heap.size) := ⟨by omega, by omega, by omega, by omega⟩
    clear hm e1 hmn hi y0 y1 y2 y3 y4 y5 y6 k0 k1 k2 k3 k4 k5 k6
    go_wp2_with fail
    go_region_with (
      go_at_call 33
      refine (name_any P g (PM.skip s1) _ ?_).mono ?_
      exact H2D.out
      rintro e w3 ⟨rfl, h3, hf3⟩
      rw [HMN.out] at h3 ⊢
      have H3 := Lib.hid h3
      have HF3 := Lib.hid (HF2D.out.trans hf3)
      have HX3 := Lib.hid (HX2D.out.keep hf3 (by simp; have := HLS.out; omega))
      have HB3 := Lib.hid (HB2D.out.keep hf3 (by simp; have := HLS.out; omega))
      obtain ⟨v0, v1, v2, v3, v4, v5, v6, r0, r1, r2, r3, r4, r5, r6⟩ := c7_of HX3.out
      clear h3 hf3)
    all_goals
      have hls := HLS.out
      have hs3 := HF3.out.size
      have hl6 := HX3.out.lt
      have hl7 := HB3.out.lt
      obtain ⟨y0, y1, y2, y3, y4, y5, y6, k0, k1, k2, k3, k4, k5, k6⟩ := c7_of HB3.out
      have hp1 : ¬ P = w1.heap.size := by omega
      have hp2 : ¬ P = w.heap.size := by omega
      go_wp2_with fail
      refine bodyPost_ret (ret_cell7 rfl _ w.heap.size rfl _ _ _ _ _ _ _ _ (blkPut7 ((HB3.out.keep (frSet (P := w1.heap.size) _) (by simp; omega)).keep (frSet (P := w1.heap.size) _) (by simp; omega)) rfl _ _ _ _ _ _ _)) rfl ⟨?_, ?_, ?_⟩
      all_goals try rw [HM.out]
      · exact ⟨colCells n m, rfl, col_rep _ _ n m⟩
      · refine ((H3.out.keep (frSet (P := w1.heap.size) _) (by simp; omega) (by simp; omega)).keep (frSet (P := w1.heap.size) _) (by simp; omega) (by simp; omega)).keep (frPut7 (Fr.refl [some w.heap.size] _) (.inl (by simp)) _ _ _ _ _ _ _) (by simp; omega) (by simp; omega)
      · exact frPut7 ((HF3.out.trans' (frSet (P := w1.heap.size) _) (fun i hi => .inr (by simp at hi; omega))).trans' (frSet (P := w1.heap.size) _) (fun i hi => .inr (by simp at hi; omega))) (.inr (Nat.le_refl _)) _ _ _ _ _ _ _
end Px
end Go.Proofs.YtpmgecnkcllneaaDoor
