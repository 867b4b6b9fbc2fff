/- plan: what of an expression is looked at first. -/
import Derived.Test.YtmdnhinpaflamaaDoorPnC
namespace Go.Proofs.YtmdnhinpaflamaaDoor
open Go.RowKit
set_option linter.unusedVariables false
set_option linter.unusedSimpArgs false
namespace Pn
open PM (Ex B Col)
open Px (ColS colC z7 put7 frPut7 blkPut7 ret_cell7 c7_of)
/-- what the loop keeps: an expression at hand, of which the first is looked for -/
def FiI (x : Ex) (A : Nat → Prop) (w : World) (k : Nat) (wr : World) : Prop :=
  ∃ (op kind int : Int) (text table name : B) (args : List Ex) (a : Option Addr) (n c : Nat), Hid (first (.mk op kind int text table name args) = first x) ∧ SizeOf.sizeOf (Ex.mk op kind int text table name args) ≤ k ∧
    Hid (Blk wr w.heap.size 41 [.int .i64 op, .int .i64 kind, .int .i64 int, .string ⟨text.toArray⟩, .string ⟨table.toArray⟩, .string ⟨name.toArray⟩, .slice a n c]) ∧
    Hid (Rep.Es 41 (fun g => A g ∧ g < w.heap.size) wr args (.slice a n c)) ∧
    Hid (Blk wr (w.heap.size + 1) 41 z7) ∧ Hid (Fr [] w wr)
theorem es_len {A : Nat → Prop} {w : World} {l : List Ex} {a : Option Addr} {n c : Nat} (h : Rep.Es 41 A w l (.slice a n c)) : n = l.length := by
  cases h with
  | mk _ _ xs hl hr hb =>
    rcases hr.form with ⟨h1, h0, _⟩ | ⟨g, off, cap, h1, hc, hm⟩
    · simp only [Value.slice.injEq] at h1
      rw [h1.2.1]
      exact h0.symm
    · simp only [Value.slice.injEq] at h1
      exact h1.2.1
set_option maxRecDepth 100000 in
set_option maxHeartbeats 2000000 in
theorem pfirst_any (x : Ex) (A : Nat → Prop) (w : World) (cs : List Value) (h : Rep.E 41 A w x cs) :
    Calls Tryd.prog 34 #[.agg cs.toArray] w fun e w' => (∃ ys, e = .returned (.agg ys.toArray) ∧ Rep.E 41 A w' (first x) ys) ∧ Fr [] w w' := by
  obtain ⟨op, kind, int, text, table, name, args, a, n, c, rfl, rfl, hes⟩ := Sm.e_cells h
  have HES := Lib.hid (Rep.Es.live hes)
  clear hes h
  have HF0 := Lib.hid (((Fr.refl [] w).alloc (.cells #[.int .i64 op, .int .i64 kind, .int .i64 int, .string ⟨text.toArray⟩, .string ⟨table.toArray⟩, .string ⟨name.toArray⟩, .slice a n c] 41)).alloc (.cells z7.toArray 41))
  have HBX := Lib.hid ((Blk.new w 41 [.int .i64 op, .int .i64 kind, .int .i64 int, .string ⟨text.toArray⟩, .string ⟨table.toArray⟩, .string ⟨name.toArray⟩, .slice a n c]).alloc (.cells z7.toArray 41))
  have hbr := Blk.new (w.alloc (.cells #[.int .i64 op, .int .i64 kind, .int .i64 int, .string ⟨text.toArray⟩, .string ⟨table.toArray⟩, .string ⟨name.toArray⟩, .slice a n c] 41)) 41 z7
  rw [World.size_alloc] at hbr
  have HBR := Lib.hid hbr
  clear hbr
  go_enter Tryd.func34, Tryd.ntmps34
  go_wp2_with fail
  go_loopg [] (SizeOf.sizeOf (Ex.mk op kind int text table name args)) (fun k wr => FiI (.mk op kind int text table name args) A w k wr)
  case atStart => exact ⟨op, kind, int, text, table, name, args, a, n, c, Lib.hid rfl, Nat.le_refl _, HBX, Lib.hid (Rep.Es.keep HF0.out (by simp) HES.out), HBR, HF0⟩
  case round =>
    obtain ⟨yo, yk, yi, yz, yt, yn, ya, a1, n1, c1, HE, hsz, HB, HS, HR, HF⟩ := hrel
    have hbl := HB.out.lt
    have hbl2 := HR.out.lt
    obtain ⟨e0, e1, e2, e3, e4, e5, e6, q0, q1, q2, q3, q4, q5, q6⟩ := c7_of HB.out
    have hn1 := es_len HS.out
    by_cases hg : yo = 14 ∧ 0 < ya.length
    · obtain ⟨h14, hpos⟩ := hg
      subst h14
      obtain ⟨y, r, rfl⟩ : ∃ y r, ya = y :: r := by cases ya with | nil => simp at hpos | cons y r => exact ⟨y, r, rfl⟩
      obtain ⟨g, off, cap, ys, hv, hcap, hA, hy, hc⟩ := Rep.Es.at HS.out 0 (by simp)
      simp only [Value.slice.injEq] at hv
      obtain ⟨rfl, rfl, rfl⟩ := hv
      simp only [List.getElem_cons_zero] at hy
      obtain ⟨so, sk, si, sz, st, sn, sa, a2, n2, c2, rfl, rfl, hes2⟩ := Sm.e_cells hy
      have z0 := hc 0 _ rfl
      have z1 := hc 1 _ rfl
      have z2 := hc 2 _ rfl
      have z3 := hc 3 _ rfl
      have z4 := hc 4 _ rfl
      have z5 := hc 5 _ rfl
      have z6 := hc 6 _ rfl
      simp only [Nat.zero_mul, Nat.add_zero] at z0 z1 z2 z3 z4 z5 z6
      have HSZ : Hid (SizeOf.sizeOf (Ex.mk so sk si sz st sn sa) < gk) := Lib.hid (by simp at hsz ⊢; omega)
      have HE2 : Hid (first (.mk so sk si sz st sn sa) = first (.mk op kind int text table name args)) := Lib.hid (by rw [← HE.out, first_go])
      have HES2 := Lib.hid hes2
      have hln : (0 : Int) < (r.length : Int) + 1 := by omega
      have hcp : ((r.length + 1 : Nat) : Int) ≤ c1 := by simp only [List.length_cons] at hcap; omega
      have hgl : g < w.heap.size := hA.2
      have hgn : ¬ w.heap.size = g := by omega
      simp only [List.length_cons] at *
      clear hc hy hes2 hsz hn1
      go_wp2_with fail
      go_roundg (SizeOf.sizeOf (Ex.mk so sk si sz st sn sa))
      case measure => exact HSZ.out
      case rel =>
        have hf7 := frPut7 (T := w.heap.size) (Fr.refl [some w.heap.size] wr) (.inl (by simp)) (.int .i64 so) (.int .i64 sk) (.int .i64 si) (.string ⟨sz.toArray⟩) (.string ⟨st.toArray⟩) (.string ⟨sn.toArray⟩) (.slice a2 n2 c2)
        exact ⟨so, sk, si, sz, st, sn, sa, a2, n2, c2, HE2, Nat.le_refl _, Lib.hid (blkPut7 HB.out rfl _ _ _ _ _ _ _), Lib.hid (Rep.Es.keep hf7 (fun g hg => by simp; omega) HES2.out), Lib.hid (HR.out.keep hf7 (by simp)), Lib.hid (frPut7 HF.out (.inr (Nat.le_refl _)) _ _ _ _ _ _ _)⟩
    · have HEND : Hid (first (.mk op kind int text table name args) = .mk yo yk yi yz yt yn ya) := Lib.hid (by
        rw [← HE.out, first_end]
        by_cases h : yo = 14
        · right
          cases ya with
          | nil => rfl
          | cons y r => exact absurd ⟨h, by simp⟩ hg
        · exact .inl h)
      obtain ⟨k0, k1, k2, k3, k4, k5, k6, f0, f1, f2, f3, f4, f5, f6⟩ := c7_of HR.out
      have hq : (¬ yo = 14) ∨ (yo = 14 ∧ (n1 : Int) = 0) := by
        by_cases h : yo = 14
        · exact .inr ⟨h, by rw [hn1]; have : ¬ 0 < ya.length := fun h2 => hg ⟨h, h2⟩; omega⟩
        · exact .inl h
      clear hg hsz hn1
      have hf7 := frPut7 (T := w.heap.size + 1) (Fr.refl [some (w.heap.size + 1)] wr) (.inl (by simp)) (.int .i64 yo) (.int .i64 yk) (.int .i64 yi) (.string ⟨yz.toArray⟩) (.string ⟨yt.toArray⟩) (.string ⟨yn.toArray⟩) (.slice a1 n1 c1)
      have HRES : Hid (Rep.E 41 A (put7 wr (w.heap.size + 1) (.int .i64 yo) (.int .i64 yk) (.int .i64 yi) (.string ⟨yz.toArray⟩) (.string ⟨yt.toArray⟩) (.string ⟨yn.toArray⟩) (.slice a1 n1 c1)) (first (.mk op kind int text table name args)) [.int .i64 yo, .int .i64 yk, .int .i64 yi, .string ⟨yz.toArray⟩, .string ⟨yt.toArray⟩, .string ⟨yn.toArray⟩, .slice a1 n1 c1]) := Lib.hid (by
        rw [HEND.out]
        exact .mk yo yk yi yz yt yn ya _ (Rep.Es.mono (fun g hg => hg.1) (Rep.Es.keep hf7 (fun g hg => by have := hg.2; simp; omega) HS.out)))
      have HFE : Hid (Fr [] w (put7 wr (w.heap.size + 1) (.int .i64 yo) (.int .i64 yk) (.int .i64 yi) (.string ⟨yz.toArray⟩) (.string ⟨yt.toArray⟩) (.string ⟨yn.toArray⟩) (.slice a1 n1 c1))) := Lib.hid (frPut7 HF.out (.inr (Nat.le_succ _)) _ _ _ _ _ _ _)
      clear hf7
      rcases hq with h | ⟨h, h2⟩
      · have hb : (yo == 14) = false := beq_eq_false_iff_ne.2 h
        clear h
        go_wp2_with fail
        exact bodyPost_ret (ret_cell7 rfl _ (w.heap.size + 1) rfl _ _ _ _ _ _ _ _ (blkPut7 HR.out rfl _ _ _ _ _ _ _)) rfl ⟨⟨_, rfl, HRES.out⟩, HFE.out⟩
      · obtain rfl : n1 = 0 := by omega
        subst h
        go_wp2_with fail
        exact bodyPost_ret (ret_cell7 rfl _ (w.heap.size + 1) rfl _ _ _ _ _ _ _ _ (blkPut7 HR.out rfl _ _ _ _ _ _ _)) rfl ⟨⟨_, rfl, HRES.out⟩, HFE.out⟩
set_option maxRecDepth 100000 in
set_option maxHeartbeats 2000000 in
theorem rfirst_any (x : Ex) (A : Nat → Prop) (w : World) (cs : List Value) (h : Rep.E 41 A w x cs) :
    Calls Tryd.prog 38 #[.agg cs.toArray] w fun e w' => (∃ ys, e = .returned (.agg ys.toArray) ∧ Rep.E 41 A w' (first x) ys) ∧ Fr [] w w' := by
  obtain ⟨op, kind, int, text, table, name, args, a, n, c, rfl, rfl, hes⟩ := Sm.e_cells h
  have HES := Lib.hid (Rep.Es.live hes)
  clear hes h
  have HF0 := Lib.hid (((Fr.refl [] w).alloc (.cells #[.int .i64 op, .int .i64 kind, .int .i64 int, .string ⟨text.toArray⟩, .string ⟨table.toArray⟩, .string ⟨name.toArray⟩, .slice a n c] 41)).alloc (.cells z7.toArray 41))
  have HBX := Lib.hid ((Blk.new w 41 [.int .i64 op, .int .i64 kind, .int .i64 int, .string ⟨text.toArray⟩, .string ⟨table.toArray⟩, .string ⟨name.toArray⟩, .slice a n c]).alloc (.cells z7.toArray 41))
  have hbr := Blk.new (w.alloc (.cells #[.int .i64 op, .int .i64 kind, .int .i64 int, .string ⟨text.toArray⟩, .string ⟨table.toArray⟩, .string ⟨name.toArray⟩, .slice a n c] 41)) 41 z7
  rw [World.size_alloc] at hbr
  have HBR := Lib.hid hbr
  clear hbr
  go_enter Tryd.func38, Tryd.ntmps38
  go_wp2_with fail
  go_loopg [] (SizeOf.sizeOf (Ex.mk op kind int text table name args)) (fun k wr => FiI (.mk op kind int text table name args) A w k wr)
  case atStart => exact ⟨op, kind, int, text, table, name, args, a, n, c, Lib.hid rfl, Nat.le_refl _, HBX, Lib.hid (Rep.Es.keep HF0.out (by simp) HES.out), HBR, HF0⟩
  case round =>
    obtain ⟨yo, yk, yi, yz, yt, yn, ya, a1, n1, c1, HE, hsz, HB, HS, HR, HF⟩ := hrel
    have hbl := HB.out.lt
    have hbl2 := HR.out.lt
    obtain ⟨e0, e1, e2, e3, e4, e5, e6, q0, q1, q2, q3, q4, q5, q6⟩ := c7_of HB.out
    have hn1 := es_len HS.out
    by_cases hg : yo = 14 ∧ 0 < ya.length
    · obtain ⟨h14, hpos⟩ := hg
      subst h14
      obtain ⟨y, r, rfl⟩ : ∃ y r, ya = y :: r := by cases ya with | nil => simp at hpos | cons y r => exact ⟨y, r, rfl⟩
      obtain ⟨g, off, cap, ys, hv, hcap, hA, hy, hc⟩ := Rep.Es.at HS.out 0 (by simp)
      simp only [Value.slice.injEq] at hv
      obtain ⟨rfl, rfl, rfl⟩ := hv
      simp only [List.getElem_cons_zero] at hy
      obtain ⟨so, sk, si, sz, st, sn, sa, a2, n2, c2, rfl, rfl, hes2⟩ := Sm.e_cells hy
      have z0 := hc 0 _ rfl
      have z1 := hc 1 _ rfl
      have z2 := hc 2 _ rfl
      have z3 := hc 3 _ rfl
      have z4 := hc 4 _ rfl
      have z5 := hc 5 _ rfl
      have z6 := hc 6 _ rfl
      simp only [Nat.zero_mul, Nat.add_zero] at z0 z1 z2 z3 z4 z5 z6
      have HSZ : Hid (SizeOf.sizeOf (Ex.mk so sk si sz st sn sa) < gk) := Lib.hid (by simp at hsz ⊢; omega)
      have HE2 : Hid (first (.mk so sk si sz st sn sa) = first (.mk op kind int text table name args)) := Lib.hid (by rw [← HE.out, first_go])
      have HES2 := Lib.hid hes2
      have hln : (0 : Int) < (r.length : Int) + 1 := by omega
      have hcp : ((r.length + 1 : Nat) : Int) ≤ c1 := by simp only [List.length_cons] at hcap; omega
      have hgl : g < w.heap.size := hA.2
      have hgn : ¬ w.heap.size = g := by omega
      simp only [List.length_cons] at *
      clear hc hy hes2 hsz hn1
      go_wp2_with fail
      go_roundg (SizeOf.sizeOf (Ex.mk so sk si sz st sn sa))
      case measure => exact HSZ.out
      case rel =>
        have hf7 := frPut7 (T := w.heap.size) (Fr.refl [some w.heap.size] wr) (.inl (by simp)) (.int .i64 so) (.int .i64 sk) (.int .i64 si) (.string ⟨sz.toArray⟩) (.string ⟨st.toArray⟩) (.string ⟨sn.toArray⟩) (.slice a2 n2 c2)
        exact ⟨so, sk, si, sz, st, sn, sa, a2, n2, c2, HE2, Nat.le_refl _, Lib.hid (blkPut7 HB.out rfl _ _ _ _ _ _ _), Lib.hid (Rep.Es.keep hf7 (fun g hg => by simp; omega) HES2.out), Lib.hid (HR.out.keep hf7 (by simp)), Lib.hid (frPut7 HF.out (.inr (Nat.le_refl _)) _ _ _ _ _ _ _)⟩
    · have HEND : Hid (first (.mk op kind int text table name args) = .mk yo yk yi yz yt yn ya) := Lib.hid (by
        rw [← HE.out, first_end]
        by_cases h : yo = 14
        · right
          cases ya with
          | nil => rfl
          | cons y r => exact absurd ⟨h, by simp⟩ hg
        · exact .inl h)
      obtain ⟨k0, k1, k2, k3, k4, k5, k6, f0, f1, f2, f3, f4, f5, f6⟩ := c7_of HR.out
      have hq : (¬ yo = 14) ∨ (yo = 14 ∧ (n1 : Int) = 0) := by
        by_cases h : yo = 14
        · exact .inr ⟨h, by rw [hn1]; have : ¬ 0 < ya.length := fun h2 => hg ⟨h, h2⟩; omega⟩
        · exact .inl h
      clear hg hsz hn1
      have hf7 := frPut7 (T := w.heap.size + 1) (Fr.refl [some (w.heap.size + 1)] wr) (.inl (by simp)) (.int .i64 yo) (.int .i64 yk) (.int .i64 yi) (.string ⟨yz.toArray⟩) (.string ⟨yt.toArray⟩) (.string ⟨yn.toArray⟩) (.slice a1 n1 c1)
      have HRES : Hid (Rep.E 41 A (put7 wr (w.heap.size + 1) (.int .i64 yo) (.int .i64 yk) (.int .i64 yi) (.string ⟨yz.toArray⟩) (.string ⟨yt.toArray⟩) (.string ⟨yn.toArray⟩) (.slice a1 n1 c1)) (first (.mk op kind int text table name args)) [.int .i64 yo, .int .i64 yk, .int .i64 yi, .string ⟨yz.toArray⟩, .string ⟨yt.toArray⟩, .string ⟨yn.toArray⟩, .slice a1 n1 c1]) := Lib.hid (by
        rw [HEND.out]
        exact .mk yo yk yi yz yt yn ya _ (Rep.Es.mono (fun g hg => hg.1) (Rep.Es.keep hf7 (fun g hg => by have := hg.2; simp; omega) HS.out)))
      have HFE : Hid (Fr [] w (put7 wr (w.heap.size + 1) (.int .i64 yo) (.int .i64 yk) (.int .i64 yi) (.string ⟨yz.toArray⟩) (.string ⟨yt.toArray⟩) (.string ⟨yn.toArray⟩) (.slice a1 n1 c1))) := Lib.hid (frPut7 HF.out (.inr (Nat.le_succ _)) _ _ _ _ _ _ _)
      clear hf7
      rcases hq with h | ⟨h, h2⟩
      · have hb : (yo == 14) = false := beq_eq_false_iff_ne.2 h
        clear h
        go_wp2_with fail
        exact bodyPost_ret (ret_cell7 rfl _ (w.heap.size + 1) rfl _ _ _ _ _ _ _ _ (blkPut7 HR.out rfl _ _ _ _ _ _ _)) rfl ⟨⟨_, rfl, HRES.out⟩, HFE.out⟩
      · obtain rfl : n1 = 0 := by omega
        subst h
        go_wp2_with fail
        exact bodyPost_ret (ret_cell7 rfl _ (w.heap.size + 1) rfl _ _ _ _ _ _ _ _ (blkPut7 HR.out rfl _ _ _ _ _ _ _)) rfl ⟨⟨_, rfl, HRES.out⟩, HFE.out⟩
end Pn
end Go.Proofs.YtmdnhinpaflamaaDoor
