/- parse: word, name, tag, column. -/
import Derived.Test.YtpmgecnkcllneaaDoorParB
namespace Go.Proofs.YtpmgecnkcllneaaDoor
open Go.RowKit

namespace Px
open LexM (Tok)
open PM (PS B)
open Lx (toksC tokC tokV tokA zcells blkPut4 frPut4 cells_of)

theorem ret_cell4 {fn : Func} {n : Nat} (h : fn.results = #[.cell n 67]) (tmps : Array Value) (T : Nat) (h2 : tmps.getD n undef = .pointer (some ⟨T, 0, none⟩)) (w : World) (a b c d : Value) (hb : Blk w T 67 [a, b, c, d]) :
    (results fn tmps).run Tryd.prog w = .ok (.agg #[a, b, c, d]) w := by
  have c0 := hb.cell 0
  have c1 := hb.cell 1
  have c2 := hb.cell 2
  have c3 := hb.cell 3
  simp only [List.getElem?_cons_zero, List.getElem?_cons_succ] at c0 c1 c2 c3
  have h2' : tmps[n]?.getD undef = .pointer (some ⟨T, 0, none⟩) := by simpa using h2
  simp [results, h, h2', go_sem, c0, c1, c2, c3]

set_option maxRecDepth 100000 in
set_option maxHeartbeats 1000000 in
theorem word_any (P g : Nat) (s : PS) (k : Int) (hk6 : k ≠ 6) (w : World) (h : PR w P g s) :
    Calls Tryd.prog 54 #[.pointer (some ⟨P, 0, none⟩), .int .i64 k] w fun e w' => e = .returned (tokV (PM.word k s).1) ∧ PR w' P g (PM.word k s).2 ∧ Fr [some P] w w' := by
  obtain ⟨off, cap, hat⟩ := h.at
  obtain ⟨c0, c1, c2, c3, f0, f1, f2, f3, t0, t1, t2, t3, hcap, hpos, hlim⟩ := hat
  have hPl := h.lt
  have h0ne := h.ne
  have HP := Lib.hid h
  have HC0 := Lib.hid c0
  clear h f1 f2 f3 c1 c2
  have hpi : (0 : Int) < (s.l.length : Int) := by omega
  have hne : ¬ P = w.heap.size := by omega
  have hne' : ¬ w.heap.size = P := by omega
  have hgl : g < w.heap.size := by omega
  have hgn : ¬ g = w.heap.size := by omega
  have hgn' : ¬ w.heap.size = g := by omega
  have hgm : ¬ g = w.heap.size + 1 := by omega
  have hgm' : ¬ w.heap.size + 1 = g := by omega
  have hnf : ¬ P = w.heap.size + 1 := by omega
  have hnf' : ¬ w.heap.size + 1 = P := by omega
  obtain ⟨e, he⟩ : ∃ e, s.e = e := ⟨_, rfl⟩
  obtain ⟨t, ht⟩ : ∃ t, s.now = t := ⟨_, rfl⟩
  rw [he] at c3
  rw [ht] at t0 t1 t2 t3
  have HE := Lib.hid he
  have HT := Lib.hid ht
  have HK6 := Lib.hid hk6
  have HBZ : Hid (∀ o : Obj, Blk ((w.alloc (.cells zcells.toArray 67)).alloc o) w.heap.size 67 zcells) := fun o => Blk.alloc (Blk.new w 67 zcells) o
  clear he ht hk6
  by_cases hgo : e = 0 ∧ t.kind = k
  · obtain ⟨he0, hkk⟩ := hgo
    have hm : PM.word k s = (s.now, PM.skip s) := by
      rw [PM.word, if_neg]
      rw [HE.out, HT.out]
      rintro (h1 | h1)
      · exact h1 he0
      · exact h1 hkk
    have HM := Lib.hid hm
    have e1 : (e != 0) = false := by rw [he0]; rfl
    have e2 : (t.kind != k) = false := by rw [hkk]; simp
    have hk6' : s.now.kind ≠ 6 := by rw [HT.out, hkk]; exact HK6.out
    have h2 := WF.two HP.out.wf hk6'
    have hpi2 : (1 : Int) < (s.l.length : Int) := by omega
    have hci : (s.l.length : Int) ≤ (cap : Int) := by omega
    have hc1 : ¬ cap = 1 := by omega
    have HKK := Lib.hid hk6'
    have HSK := Lib.hid (((HP.out.alloc (.cells zcells.toArray 67)).alloc (.cells (tokC t).toArray 67)))
    obtain ⟨b0, b1, b2, b3, g0, g1, g2, g3⟩ := cells_of (HBZ.out (.cells (tokC t).toArray 67))
    clear hm he0 hkk hk6' h2 b0 b1 b2 b3 g0 g1 g2 g3
    go_enter Tryd.func54, Tryd.ntmps54
    go_wp2_with fail
    have HB : Blk ((w.setCell ⟨P, 0, none⟩ (.slice (some ⟨g, off + 4, none⟩) (s.l.length - 1) (cap - 1))).alloc (.cells (tokC t).toArray 67)) w.heap.size 67 (tokC t) := by
      have := Blk.new (w.setCell ⟨P, 0, none⟩ (.slice (some ⟨g, off + 4, none⟩) (s.l.length - 1) (cap - 1))) 67 (tokC t)
      rw [show (w.setCell ⟨P, 0, none⟩ (.slice (some ⟨g, off + 4, none⟩) (s.l.length - 1) (cap - 1))).heap.size = w.heap.size by simp [World.setCell]] at this
      exact this
    refine bodyPost_ret (ret_cell4 rfl _ w.heap.size rfl _ _ _ _ _ (Blk.alloc HB _)) rfl ⟨?_, ?_, ((frSet _).alloc _).alloc _⟩
    all_goals rw [HM.out]
    · rw [HT.out]; rfl
    · exact ((HP.out.setSkip HC0.out HKK.out).alloc _).alloc _
  · have hm : PM.word k s = (PM.zeroTok, PM.fails 5 s) := by
      rw [PM.word, if_pos]
      rw [HE.out, HT.out]
      by_cases h1 : e = 0
      · right
        intro h2
        exact hgo ⟨h1, h2⟩
      · exact .inl h1
    have HM := Lib.hid hm
    have hor : (e != 0) = true ∨ ((e != 0) = false ∧ (t.kind != k) = true) := by
      by_cases h1 : e = 0
      · right
        refine ⟨by rw [h1]; rfl, ?_⟩
        rw [bne_iff_ne]
        intro h2
        exact hgo ⟨h1, h2⟩
      · left
        rw [bne_iff_ne]
        exact h1
    clear hm hgo
    rcases hor with e1 | ⟨e1, e2⟩
    all_goals
      go_enter Tryd.func54, Tryd.ntmps54
      go_wp2_with fail
      refine (fails_any P g s 5 _ ((HP.out.alloc (.cells zcells.toArray 67)).alloc _)).mono ?_
      rintro e w1 ⟨rfl, h1, hf1⟩
      have HB1 := Lib.hid ((HBZ.out (.cells (tokC t).toArray 67)).keep hf1 (by simp; omega))
      have H1 := Lib.hid h1
      have HF1 : Hid (Fr [some P] w w1) := (((Fr.refl [some P] w).alloc _).alloc _).trans hf1
      have HBL := Lib.hid HB1.out.lt
      obtain ⟨b0, b1, b2, b3, g0, g1, g2, g3⟩ := cells_of HB1.out
      clear h1 hf1
      go_wp2_with fail
      refine bodyPost_ret (ret_cell4 rfl _ w.heap.size rfl _ _ _ _ _ (blkPut4 HB1.out rfl _ _ _ _)) rfl ⟨?_, ?_, frPut4 HF1.out (.inr (Nat.le_refl _)) _ _ _ _⟩
      all_goals rw [HM.out]
      · rfl
      · exact H1.out.keep (frPut4 (Fr.refl [some w.heap.size] _) (.inl (by simp)) _ _ _ _) (by simp; omega) (by simp; omega)

theorem field_text (k i p : Int) (b : ByteArray) (w : World) : (Instr.field 67 (.agg #[.int .i64 k, .string b, .int .i64 i, .int .i64 p]) 1).run Tryd.prog w = .ok (.string b) w := by kernel_rfl
theorem field_int (k i p : Int) (b : ByteArray) (w : World) : (Instr.field 67 (.agg #[.int .i64 k, .string b, .int .i64 i, .int .i64 p]) 2).run Tryd.prog w = .ok (.int .i64 i) w := by kernel_rfl

set_option maxRecDepth 100000 in
set_option maxHeartbeats 1000000 in
theorem name_any (P g : Nat) (s : PS) (w : World) (h : PR w P g s) :
    Calls Tryd.prog 33 #[.pointer (some ⟨P, 0, none⟩)] w fun e w' => e = .returned (.string ⟨(PM.name s).1.toArray⟩) ∧ PR w' P g (PM.name s).2 ∧ Fr [some P] w w' := by
  have HP := Lib.hid h
  clear h
  go_enter Tryd.func33, Tryd.ntmps33
  go_wp2_with fail
  refine (word_any P g s 1 (by decide) w HP.out).mono ?_
  rintro e w1 ⟨rfl, h1, hf1⟩
  have H1 := Lib.hid h1
  have HF1 := Lib.hid hf1
  clear h1 hf1
  obtain ⟨⟨t, s'⟩, hws⟩ : ∃ x, PM.word 1 s = x := ⟨_, rfl⟩
  have hn : PM.name s = (t.text, s') := by rw [PM.name, hws]
  rw [hws] at H1 ⊢
  have HN := Lib.hid hn
  clear hws hn
  simp only [tokV, tokA]
  have hfd := fun w => field_text t.kind t.int t.pos ⟨t.text.toArray⟩ w
  go_wp2_with fail
  go_ret
  rw [HN.out]
  exact ⟨rfl, H1.out, HF1.out⟩
end Px
end Go.Proofs.YtpmgecnkcllneaaDoor
