/- parse: the parser's small functions. -/
import Derived.Test.YtpmgecnkcllneaaDoorLexI
import Derived.Test.YtpmgecnkcllneaaDoorRep
import Derived.Test.YtpmgecnkcllneaaDoorSeqQ
namespace Go.Proofs.YtpmgecnkcllneaaDoor
open Go.RowKit

namespace Px
open LexM (Tok)
open PM (PS B)
open Lx (toksC tokC)

/-- the words end with their end -/
def WF (s : PS) : Prop := ∃ t, s.l.getLast? = some t ∧ t.kind = 6
theorem WF.ne {s : PS} (h : WF s) : s.l ≠ [] := by
  rintro e
  obtain ⟨t, h1, _⟩ := h
  rw [e] at h1
  cases h1
theorem WF.pos {s : PS} (h : WF s) : 0 < s.l.length := List.length_pos_iff.2 h.ne
theorem WF.skip {s : PS} (h : WF s) (hk : s.now.kind ≠ 6) : WF (PM.skip s) := by
  obtain ⟨t, h1, h2⟩ := h
  obtain ⟨l, d, p, e⟩ := s
  cases l with
  | nil => cases h1
  | cons a r =>
    cases r with
    | nil =>
      simp only [List.getLast?_singleton, Option.some.injEq] at h1
      subst h1
      exact absurd h2 hk
    | cons b r =>
      refine ⟨t, ?_, h2⟩
      rw [List.getLast?_cons_cons] at h1
      exact h1
theorem WF.fails {s : PS} (x : Int) (h : WF s) : WF (PM.fails x s) := by
  unfold PM.fails
  split
  · exact h
  · exact h

/-- the parser lies in block P, its words in block g -/
structure PR (w : World) (P g : Nat) (s : PS) : Prop where
  row : ∃ off cap, Blk w P 64 [.slice (some ⟨g, off, none⟩) s.l.length cap, .int .i64 s.deep, .int .i64 s.pos, .int .i64 s.e] ∧ Row w 67 4 (.slice (some ⟨g, off, none⟩) s.l.length cap) s.l.length (toksC s.l) ∧ s.l.length ≤ cap ∧ cap ≤ maxLen
  ne : g < P
  wf : WF s
theorem PR.keep {w w' : World} {P g : Nat} {s : PS} {X : List (Option Nat)} (h : PR w P g s) (hf : Fr X w w') (hP : some P ∉ X) (hg : some g ∉ X) : PR w' P g s := by
  obtain ⟨⟨off, cap, h1, h2, h3, h4⟩, hne, hw⟩ := h
  refine ⟨⟨off, cap, h1.keep hf hP, h2.keep hf (fun k hk => ?_), h3, h4⟩, hne, hw⟩
  simp only [Value.ownBlock, Option.some.injEq] at hk
  subst hk
  exact hg
theorem PR.alloc {w : World} {P g : Nat} {s : PS} (h : PR w P g s) (o : Obj) : PR (w.alloc o) P g s := h.keep ((Fr.refl [] w).alloc o) (by simp) (by simp)
theorem PR.lt {w : World} {P g : Nat} {s : PS} (h : PR w P g s) : P < w.heap.size := by
  obtain ⟨⟨off, cap, h1, _⟩, _, _⟩ := h
  exact h1.lt
/-- what the walk is told of it -/
structure At (w : World) (P g : Nat) (s : PS) (off cap : Nat) : Prop where
  c0 : w.cell? ⟨P, 0, none⟩ = some (.slice (some ⟨g, off, none⟩) s.l.length cap)
  c1 : w.cell? ⟨P, 1, none⟩ = some (.int .i64 s.deep)
  c2 : w.cell? ⟨P, 2, none⟩ = some (.int .i64 s.pos)
  c3 : w.cell? ⟨P, 3, none⟩ = some (.int .i64 s.e)
  f0 : w.frozen? ⟨P, 0, none⟩ = false
  f1 : w.frozen? ⟨P, 1, none⟩ = false
  f2 : w.frozen? ⟨P, 2, none⟩ = false
  f3 : w.frozen? ⟨P, 3, none⟩ = false
  t0 : w.cell? ⟨g, off, none⟩ = some (.int .i64 s.now.kind)
  t1 : w.cell? ⟨g, off + 1, none⟩ = some (.string ⟨s.now.text.toArray⟩)
  t2 : w.cell? ⟨g, off + 2, none⟩ = some (.int .i64 s.now.int)
  t3 : w.cell? ⟨g, off + 3, none⟩ = some (.int .i64 s.now.pos)
  hcap : s.l.length ≤ cap
  hpos : 0 < s.l.length
  hlim : cap ≤ maxLen
theorem PR.at {w : World} {P g : Nat} {s : PS} (h : PR w P g s) : ∃ off cap, At w P g s off cap := by
  obtain ⟨⟨off, cap, h1, h2, h3, h4⟩, _, hw⟩ := h
  have hpos := hw.pos
  obtain ⟨a, r, ha⟩ : ∃ a r, s.l = a :: r := by
    cases hl : s.l with
    | nil => rw [hl] at hpos; cases hpos
    | cons a r => exact ⟨a, r, rfl⟩
  have hnow : s.now = a := by unfold PS.now; rw [ha]; rfl
  have hc : ∀ i u, (tokC a)[i]? = some u → w.cell? ⟨g, off + i, none⟩ = some u := by
    intro i u hi
    have e : (toksC s.l)[i]? = some u := by
      rw [ha, show toksC (a :: r) = tokC a ++ toksC r from rfl, List.getElem?_append_left (List.getElem?_eq_some_iff.1 hi).1]
      exact hi
    rw [h2.cells i (List.getElem?_eq_some_iff.1 e).1, List.getD_eq_getElem?_getD, e]
    rfl
  refine ⟨off, cap, h1.cell 0, h1.cell 1, h1.cell 2, h1.cell 3, h1.free 0, h1.free 1, h1.free 2, h1.free 3, ?_, ?_, ?_, ?_, h3, hpos, h4⟩
  all_goals rw [hnow]
  · exact hc 0 _ rfl
  · exact hc 1 _ rfl
  · exact hc 2 _ rfl
  · exact hc 3 _ rfl

theorem frSet {w : World} {P i : Nat} (v : Value) : Fr [some P] w (w.setCell ⟨P, i, none⟩ v) := (Fr.refl [some P] w).setCell (p := ⟨P, i, none⟩) (.inl (by simp)) v
theorem PR.setErr {w : World} {P g : Nat} {s : PS} (h : PR w P g s) (x p : Int) : PR ((w.setCell ⟨P, 3, none⟩ (.int .i64 x)).setCell ⟨P, 2, none⟩ (.int .i64 p)) P g { s with e := x, pos := p } := by
  obtain ⟨⟨off, cap, h1, h2, h3, h4⟩, hne, hw⟩ := h
  refine ⟨⟨off, cap, (h1.set 3 _).set 2 _, (h2.keep (frSet (P := P) _) (fun k hk => ?_)).keep (frSet (P := P) _) (fun k hk => ?_), h3, h4⟩, hne, hw⟩
  all_goals
    simp only [Value.ownBlock, Option.some.injEq] at hk
    subst hk
    simp
    omega
theorem PR.setDeep {w : World} {P g : Nat} {s : PS} (h : PR w P g s) (d : Int) : PR (w.setCell ⟨P, 1, none⟩ (.int .i64 d)) P g { s with deep := d } := by
  obtain ⟨⟨off, cap, h1, h2, h3, h4⟩, hne, hw⟩ := h
  refine ⟨⟨off, cap, h1.set 1 _, h2.keep (frSet (P := P) _) (fun k hk => ?_), h3, h4⟩, hne, hw⟩
  simp only [Value.ownBlock, Option.some.injEq] at hk
  subst hk
  simp
  omega
theorem PR.setSkip {w : World} {P g off cap : Nat} {s : PS} (h : PR w P g s) (hc : w.cell? ⟨P, 0, none⟩ = some (.slice (some ⟨g, off, none⟩) s.l.length cap)) (hk : s.now.kind ≠ 6) : PR (w.setCell ⟨P, 0, none⟩ (.slice (some ⟨g, off + 4, none⟩) (s.l.length - 1) (cap - 1))) P g (PM.skip s) := by
  have hws := h.wf.skip hk
  obtain ⟨⟨off', cap', h1, h2, h3, h4⟩, hne, hw⟩ := h
  have e : (Value.slice (some ⟨g, off', none⟩) s.l.length cap') = .slice (some ⟨g, off, none⟩) s.l.length cap := by
    have := (h1.cell 0).symm.trans hc
    simpa using this
  simp only [Value.slice.injEq, Option.some.injEq, Addr.mk.injEq, true_and, and_true] at e
  obtain ⟨rfl, rfl⟩ := e
  have hpos := hw.pos
  have hl : (PM.skip s).l.length = s.l.length - 1 := by simp [PM.skip]
  have hr := h2.cut (lo := 1) (hi := s.l.length) (mx := cap') hpos (Nat.le_refl _) h3 (Nat.le_refl _)
  have ht : ((toksC s.l).drop (1 * 4)).take ((s.l.length - 1) * 4) = toksC (PM.skip s).l := by
    cases hs : s.l with
    | nil => rw [hs] at hpos; cases hpos
    | cons a r =>
      have e4 : toksC (a :: r) = tokC a ++ toksC r := rfl
      rw [e4, show 1 * 4 = (tokC a).length from rfl, List.drop_left]
      simp only [PM.skip, hs, List.tail_cons, List.length_cons, Nat.add_sub_cancel]
      rw [← Lx.toksC_length, List.take_length]
  rw [ht] at hr
  refine ⟨⟨off' + 4, cap' - 1, ?_, ?_, by rw [hl]; omega, by omega⟩, hne, hws⟩
  · rw [hl]; exact h1.set 0 _
  · rw [hl]
    refine Row.keep hr (frSet (P := P) _) (fun k hk => ?_)
    simp only [Value.ownBlock, Option.some.injEq] at hk
    subst hk
    simp
    omega

set_option maxRecDepth 100000 in
set_option maxHeartbeats 1000000 in
theorem fails_any (P g : Nat) (s : PS) (x : Int) (w : World) (h : PR w P g s) :
    Calls Tryd.prog 18 #[.pointer (some ⟨P, 0, none⟩), .int .i64 x] w fun e w' => e = .returned (.tuple #[]) ∧ PR w' P g (PM.fails x s) ∧ Fr [some P] w w' := by
  obtain ⟨off, cap, hat⟩ := h.at
  obtain ⟨c0, c1, c2, c3, f0, f1, f2, f3, t0, t1, t2, t3, hcap, hpos, hlim⟩ := hat
  have HP := Lib.hid h
  clear h
  have hpi : (0 : Int) < (s.l.length : Int) := by omega
  obtain ⟨e, he⟩ : ∃ e, s.e = e := ⟨_, rfl⟩
  rw [he] at c3
  have HE := Lib.hid he
  clear he
  by_cases h0 : e = 0
  · subst h0
    go_enter Tryd.func18, Tryd.ntmps18
    go_wp2_with fail
    go_end0
    refine ⟨rfl, ?_, (frSet _).trans (frSet _)⟩
    rw [PM.fails, if_pos HE.out]
    exact HP.out.setErr x _
  · have hb : (e == 0) = false := by simp [h0]
    have H0 := Lib.hid h0
    clear h0
    go_enter Tryd.func18, Tryd.ntmps18
    go_wp2_with fail
    go_end0
    refine ⟨rfl, ?_, Fr.refl _ _⟩
    rw [PM.fails, if_neg (by rw [HE.out]; exact H0.out)]
    exact HP.out

set_option maxRecDepth 100000 in
set_option maxHeartbeats 1000000 in
theorem is_any (P g : Nat) (s : PS) (wd : B) (w : World) (h : PR w P g s) :
    Calls Tryd.prog 50 #[.pointer (some ⟨P, 0, none⟩), .string ⟨wd.toArray⟩] w fun e w' => e = .returned (.bool (PM.is wd s)) ∧ PR w' P g s ∧ Fr [] w w' := by
  obtain ⟨off, cap, hat⟩ := h.at
  obtain ⟨c0, c1, c2, c3, f0, f1, f2, f3, t0, t1, t2, t3, hcap, hpos, hlim⟩ := hat
  have hPl := h.lt
  have HP := Lib.hid h
  clear h f0 f1 f2 f3 c1 c2
  have hpi : (0 : Int) < (s.l.length : Int) := by omega
  have hne : ¬ P = w.heap.size := by omega
  have hne' : ¬ w.heap.size = P := by omega
  obtain ⟨e, he⟩ : ∃ e, s.e = e := ⟨_, rfl⟩
  obtain ⟨k, hk⟩ : ∃ k, s.now.kind = k := ⟨_, rfl⟩
  obtain ⟨tb, htb⟩ : ∃ tb, ByteArray.mk s.now.text.toArray = tb := ⟨_, rfl⟩
  obtain ⟨wb, hwb⟩ : ∃ wb, ByteArray.mk wd.toArray = wb := ⟨_, rfl⟩
  rw [he] at c3
  rw [hk] at t0
  rw [htb] at t1
  rw [hwb]
  have hv : PM.is wd s = (e == 0 && (k == 2 || k == 5) && tb.toList == wb.toList) := by
    have e1 : (s.now.text == wd) = (tb.toList == wb.toList) := by
      by_cases h : s.now.text = wd
      · rw [show (s.now.text == wd) = true by rw [h]; exact beq_self_eq_true _, ← htb, ← hwb, h]
        exact (beq_self_eq_true _).symm
      · rw [beq_eq_false_iff_ne.2 h, eq_comm, ← htb, ← hwb, Lib.bytes_beq_false_iff]
        intro e
        exact h (congrArg (fun b : ByteArray => b.data.toList) e)
    rw [PM.is, PM.wordy, he, hk, e1]
  rw [hv]
  clear hv htb hwb hk he
  obtain ⟨b, hb⟩ : ∃ b, (tb.toList == wb.toList) = b := ⟨_, rfl⟩
  rw [hb]
  cases he0 : (e == 0)
  · go_enter Tryd.func50, Tryd.ntmps50
    go_wp2_with fail
    go_ret
    exact ⟨rfl, HP.out.alloc _, (Fr.refl [] w).alloc _⟩
  · cases hk2 : (k == 2)
    · cases hk5 : (k == 5)
      · go_enter Tryd.func50, Tryd.ntmps50
        go_wp2_with fail
        go_ret
        exact ⟨rfl, HP.out.alloc _, (Fr.refl [] w).alloc _⟩
      · go_enter Tryd.func50, Tryd.ntmps50
        go_wp2_with fail
        go_ret
        exact ⟨rfl, HP.out.alloc _, (Fr.refl [] w).alloc _⟩
    · go_enter Tryd.func50, Tryd.ntmps50
      go_wp2_with fail
      go_ret
      exact ⟨rfl, HP.out.alloc _, (Fr.refl [] w).alloc _⟩
end Px
end Go.Proofs.YtpmgecnkcllneaaDoor
