/- plan: Choose. -/
import Derived.Test.YtmdnhinpaflamaaDoorPnF
namespace Go.Proofs.YtmdnhinpaflamaaDoor
open Go.RowKit
set_option linter.unusedVariables false
set_option linter.unusedSimpArgs false
namespace Pn
open PM (Ex B Col)
open Px (ColS colC z7 put7 frPut7 blkPut7 ret_cell7 c7_of)
set_option maxRecDepth 1000000 in
set_option maxHeartbeats 4000000 in
theorem find2_any (T : Tab) (p q : Ex) (tb xb lb lc : Nat) (hlc : 2 ≤ lc) (w : World) (hL : Blk w lb 87 [.int .i64 0, .int .i64 1, .int .i64 1, .int .i64 0])
    (hC : ∀ W, Fr [] w W → Calls Tryd.prog 36 #[.agg #[.int .i64 0, .int .i64 1], .pointer (some ⟨tb, 0, none⟩), .pointer (some ⟨xb, 0, none⟩)] W fun e w' => WayR (way T p q) e ∧ Fr [] W w')
    (hD : ∀ W, Fr [] w W → Calls Tryd.prog 36 #[.agg #[.int .i64 1, .int .i64 0], .pointer (some ⟨tb, 0, none⟩), .pointer (some ⟨xb, 0, none⟩)] W fun e w' => WayR (way T q p) e ∧ Fr [] W w') :
    Calls Tryd.prog 35 #[.slice (some ⟨lb, 0, none⟩) 2 lc, .func (.func 36) #[] #[.pointer (some ⟨tb, 0, none⟩), .pointer (some ⟨xb, 0, none⟩)]] w fun e w' => WayR (way2 T p q) e ∧ Fr [] w w' := by
  have HLB := Lib.hid hL
  have HC := Lib.hid (fun W h => (hC W h))
  have HD := Lib.hid (fun W h => (hD W h))
  have hlb := hL.lt
  have hlc' : (2 : Int) ≤ lc := by omega
  obtain ⟨o1, ho1⟩ : ∃ o, way T p q = o := ⟨_, rfl⟩
  obtain ⟨o2, ho2⟩ : ∃ o, way T q p = o := ⟨_, rfl⟩
  obtain ⟨o, ho⟩ : ∃ o, way2 T p q = o := ⟨_, rfl⟩
  have HO : Hid (o = o1.or o2) := Lib.hid (by rw [← ho, ← ho1, ← ho2]; rfl)
  rw [ho1] at HC
  rw [ho2] at HD
  rw [ho]
  clear hC hD hL ho1 ho2 ho
  have HB0 := Lib.hid ((Blk.new w 46 [.int .i64 0, .int .i64 0, .int .i64 0, .string ⟨#[]⟩]).alloc (.cells #[.int .i64 0, .int .i64 0, .int .i64 0, .string ⟨#[]⟩] 46))
  have hb1 := Blk.new (w.alloc (.cells #[.int .i64 0, .int .i64 0, .int .i64 0, .string ⟨#[]⟩] 46)) 46 [.int .i64 0, .int .i64 0, .int .i64 0, .string ⟨#[]⟩]
  rw [World.size_alloc] at hb1
  have HB1 := Lib.hid hb1
  have HF0 := Lib.hid (((Fr.refl [] w).alloc (.cells #[.int .i64 0, .int .i64 0, .int .i64 0, .string ⟨#[]⟩] 46)).alloc (.cells #[.int .i64 0, .int .i64 0, .int .i64 0, .string ⟨#[]⟩] 46))
  clear hb1
  go_enter Tryd.func35, Tryd.ntmps35
  go_wp2_with fail
  go_loopw [13] (fun i wr => ∃ k : Nat, i = .int .i64 k ∧ k ≤ 2 ∧ Hid (1 ≤ k → o1 = none) ∧ Hid (2 ≤ k → o2 = none) ∧ Hid (Blk wr w.heap.size 46 [.int .i64 0, .int .i64 0, .int .i64 0, .string ⟨#[]⟩]) ∧ Hid (Blk wr (w.heap.size + 1) 46 [.int .i64 0, .int .i64 0, .int .i64 0, .string ⟨#[]⟩]) ∧ Hid (Fr [] w wr)) (fun i _ => 2 - (intOf i).toNat)
  case atStart => exact ⟨0, rfl, Nat.zero_le _, Lib.hid (fun h => absurd h (by decide)), Lib.hid (fun h => absurd h (by decide)), HB0, HB1, HF0⟩
  case round =>
    obtain ⟨k, rfl, hk, HN1, HN2, HR0, HR1, HF⟩ := hrel
    have hs1 := HR1.out.lt
    rcases (by omega : k = 0 ∨ k = 1 ∨ k = 2) with rfl | rfl | rfl
    · have c0 := (HLB.out.keep HF.out (by simp)).cell 0
      have c1 := (HLB.out.keep HF.out (by simp)).cell 1
      simp only [List.getElem?_cons_zero, List.getElem?_cons_succ] at c0 c1
      have hlw : lb < wr.heap.size := Nat.lt_of_lt_of_le hlb HF.out.size
      go_wp2_with fail
      refine (HC.out _ (HF.out.alloc _)).mono ?_
      rintro e w2 ⟨⟨rp, rk, ri, rt, rb, rfl, hr⟩, hf2⟩
      have hfa := ((Fr.refl [] wr).alloc (.cells #[.int .i64 0, .int .i64 1] 87)).trans hf2
      have HR02 := Lib.hid (HR0.out.keep hfa (by simp))
      have HR12 := Lib.hid (HR1.out.keep hfa (by simp))
      have HF2 := Lib.hid (HF.out.trans hfa)
      have HRR := Lib.hid hr
      have hs2 := HR12.out.lt
      obtain ⟨p0, p1, p2, p3, q0, q1, q2, q3⟩ := c4_of HR02.out
      have hlt0 := HR02.out.lt
      have hne : ¬ w.heap.size = w2.heap.size := by omega
      have hne2 : ¬ w2.heap.size = w.heap.size := by omega
      clear hf2 hfa hr c0 c1
      cases rb
      · go_wp2_with fail
        go_roundw
        case rel => exact ⟨1, by go_num, by decide, Lib.hid (fun _ => (HRR.out.resolve_left (fun h => Bool.false_ne_true h.1)).2), Lib.hid (fun h => absurd h (by decide)), Lib.hid (HR02.out.alloc _), Lib.hid (HR12.out.alloc _), Lib.hid (HF2.out.alloc _)⟩
        case measure => simp only [intOf]; omega
      · go_wp2_with fail
        refine bodyPost_ret (ret_plan rfl _ w.heap.size rfl _ rfl _ _ _ _ _ (Blk.alloc (blkPut4 HR02.out _ _ _ _) _)) rfl ⟨⟨rp, rk, ri, rt, true, rfl, .inl ⟨rfl, ?_⟩⟩, (frPut4 HF2.out (.inr (Nat.le_refl _)) _ _ _ _).alloc _⟩
        have h := (HRR.out.resolve_right (fun h => Bool.false_ne_true h.1.symm)).2
        rw [HO.out, h, Option.some_or]
    · have c0 := (HLB.out.keep HF.out (by simp)).cell 2
      have c1 := (HLB.out.keep HF.out (by simp)).cell 3
      simp only [List.getElem?_cons_zero, List.getElem?_cons_succ] at c0 c1
      have hlw : lb < wr.heap.size := Nat.lt_of_lt_of_le hlb HF.out.size
      go_wp2_with fail
      refine (HD.out _ (HF.out.alloc _)).mono ?_
      rintro e w2 ⟨⟨rp, rk, ri, rt, rb, rfl, hr⟩, hf2⟩
      have hfa := ((Fr.refl [] wr).alloc (.cells #[.int .i64 1, .int .i64 0] 87)).trans hf2
      have HR02 := Lib.hid (HR0.out.keep hfa (by simp))
      have HR12 := Lib.hid (HR1.out.keep hfa (by simp))
      have HF2 := Lib.hid (HF.out.trans hfa)
      have HRR := Lib.hid hr
      have hs2 := HR12.out.lt
      obtain ⟨p0, p1, p2, p3, q0, q1, q2, q3⟩ := c4_of HR02.out
      have hlt0 := HR02.out.lt
      have hne : ¬ w.heap.size = w2.heap.size := by omega
      have hne2 : ¬ w2.heap.size = w.heap.size := by omega
      clear hf2 hfa hr c0 c1
      cases rb
      · go_wp2_with fail
        go_roundw
        case rel => exact ⟨2, by go_num, by decide, Lib.hid (fun _ => HN1.out (by decide)), Lib.hid (fun h => (HRR.out.resolve_left (fun h => Bool.false_ne_true h.1)).2), Lib.hid (HR02.out.alloc _), Lib.hid (HR12.out.alloc _), Lib.hid (HF2.out.alloc _)⟩
        case measure => simp only [intOf]; omega
      · go_wp2_with fail
        refine bodyPost_ret (ret_plan rfl _ w.heap.size rfl _ rfl _ _ _ _ _ (Blk.alloc (blkPut4 HR02.out _ _ _ _) _)) rfl ⟨⟨rp, rk, ri, rt, true, rfl, .inl ⟨rfl, ?_⟩⟩, (frPut4 HF2.out (.inr (Nat.le_refl _)) _ _ _ _).alloc _⟩
        have h := (HRR.out.resolve_right (fun h => Bool.false_ne_true h.1.symm)).2
        rw [HO.out, HN1.out (by decide), h, Option.none_or]
    · obtain ⟨p0, p1, p2, p3, q0, q1, q2, q3⟩ := c4_of HR0.out
      obtain ⟨r0, r1, r2, r3, -, -, -, -⟩ := c4_of HR1.out
      go_wp2_with fail
      refine bodyPost_ret (ret_plan rfl _ w.heap.size rfl _ rfl _ _ _ _ _ (blkPut4 HR0.out _ _ _ _)) rfl ⟨⟨0, 0, 0, [], false, rfl, .inr ⟨rfl, ?_⟩⟩, frPut4 HF.out (.inr (Nat.le_refl _)) _ _ _ _⟩
      rw [HO.out, HN1.out (by decide), HN2.out (by decide), Option.none_or]
end Pn
end Go.Proofs.YtmdnhinpaflamaaDoor
