/- The document's at, two. -/
import Derived.Test.YtmdnhinpaflamaaDoorPnP
import Derived.Deep.CutRange
namespace Go.Proofs.YtmdnhinpaflamaaDoor
open Go.RowKit
set_option linter.unusedVariables false
set_option linter.unusedSimpArgs false
namespace Pn
open PM (Ex B Col It)
open Gn (put3 frPut3 blkPut3 c3_of)
open Px (ItS itC c7_of)
/-- is a column the one that is named? -/
def mt (tb nm : B) (x : It) : Bool := x.name == nm && (tb == [] || tb == x.table)
/-- the place of the one that is named -/
def atF : List Bool → Int → Int → Int × Int
  | [], _, k => if k < 0 then (-1, 10) else (k, 0)
  | b :: r, i, k => if b then (if 0 ≤ k then (-1, 10) else atF r (i + 1) i) else atF r (i + 1) k
theorem drop_map {α β : Type} (f : α → β) (l : List α) (i : Nat) (h : i < l.length) : (l.drop i).map f = f l[i] :: (l.drop (i + 1)).map f := by
  rw [List.drop_eq_getElem_cons h, List.map_cons]
def AtR (r : Int × Int) (e : Ending) : Prop := e = .returned (.tuple #[.int .i64 r.1, .int .i64 r.2])
set_option maxRecDepth 1000000 in
set_option maxHeartbeats 4000000 in
theorem at_any (A : Nat → Prop) (vc : Value) (l : List It) (m : Nat) (hm : m ≤ l.length) (hl : l.length ≤ 20) (xo xk xi : Int) (xz tb nm : B) (xa : Option Addr) (xn xc : Nat) (w : World) (h : ItS A w vc l) :
    Calls Tryd.prog 79 #[vc, .int .i64 (m : Int), .agg #[.int .i64 xo, .int .i64 xk, .int .i64 xi, .string ⟨xz.toArray⟩, .string ⟨tb.toArray⟩, .string ⟨nm.toArray⟩, .slice xa xn xc]] w fun e w' => AtR (atF ((l.take m).map (mt tb nm)) 0 (-1)) e ∧ Fr [] w w' := by
  obtain ⟨ac, cc, rfl, hic⟩ := Gn.its_cells h
  have HIC := Lib.hid hic
  clear h hic
  have hli : (l.length : Int) ≤ 20 := by omega
  have hmi : (m : Int) ≤ l.length := by omega
  have HF0 := Lib.hid ((Fr.refl [] w).alloc (.cells #[.int .i64 xo, .int .i64 xk, .int .i64 xi, .string ⟨xz.toArray⟩, .string ⟨tb.toArray⟩, .string ⟨nm.toArray⟩, .slice xa xn xc] 41))
  have HXB := Lib.hid (Blk.new w 41 [.int .i64 xo, .int .i64 xk, .int .i64 xi, .string ⟨xz.toArray⟩, .string ⟨tb.toArray⟩, .string ⟨nm.toArray⟩, .slice xa xn xc])
  obtain ⟨tot, htot⟩ : ∃ z, atF ((l.take m).map (mt tb nm)) 0 (-1) = z := ⟨_, rfl⟩
  rw [htot]
  have HTOT := Lib.hid htot
  clear htot
  have hlm : (l.take m).length = m := by rw [List.length_take]; omega
  have HLM := Lib.hid hlm
  clear hlm
  go_enter Tryd.func79, Tryd.ntmps79
  go_wp2_with fail
  go_loopg [8, 9] m (fun g kk i wr => ∃ (k : Int) (j : Nat), kk = .int .i64 k ∧ i = .int .i64 j ∧ j ≤ m ∧ m - j ≤ g ∧ -1 ≤ k ∧ k < m ∧ Hid (atF (((l.take m).drop j).map (mt tb nm)) j k = tot) ∧ Hid (Fr [] (w.alloc (.cells #[.int .i64 xo, .int .i64 xk, .int .i64 xi, .string ⟨xz.toArray⟩, .string ⟨tb.toArray⟩, .string ⟨nm.toArray⟩, .slice xa xn xc] 41)) wr))
  case atStart =>
    refine ⟨-1, 0, rfl, rfl, Nat.zero_le _, by omega, by omega, by omega, Lib.hid (by rw [List.drop_zero]; exact HTOT.out), Lib.hid (Fr.refl [] _)⟩
  case round =>
    obtain ⟨k, j, rfl, rfl, hj, hgk, hk1, hk2, HA, HF⟩ := hrel
    have hmin : min (l.length : Int) (m : Int) = m := by omega
    by_cases hjm : j < m
    · have hjm' : (j : Int) < m := by omega
      have hjl : j < l.length := by omega
      have hjl' : (j : Int) < l.length := by omega
      obtain ⟨g, off, rfl, -, hg, hcap, c0, c1, c2⟩ := HIC.out j hjl
      have hci : (l.length : Int) ≤ cc := by omega
      have hstep : atF (((l.take m).drop j).map (mt tb nm)) j k = if mt tb nm l[j] then (if 0 ≤ k then (-1, 10) else atF (((l.take m).drop (j + 1)).map (mt tb nm)) ((j : Int) + 1) j) else atF (((l.take m).drop (j + 1)).map (mt tb nm)) ((j : Int) + 1) k := by
        rw [drop_map _ _ _ (by rw [HLM.out]; exact hjm), atF]
        rw [show (l.take m)[j]'(by rw [HLM.out]; exact hjm) = l[j] from List.getElem_take ..]
      have HST := Lib.hid (HA.out.symm.trans hstep)
      obtain ⟨x, hx⟩ : ∃ x, l[j] = x := ⟨_, rfl⟩
      rw [hx] at c0 c1 c2 HST
      obtain ⟨xg, xt, xnm⟩ := x
      have HK1 : Hid (∀ W, Fr [] wr W → W.cell? ⟨g, off + j * 3 + 1, none⟩ = some (.string ⟨xt.toArray⟩) ∧ W.cell? ⟨g, off + j * 3 + 2, none⟩ = some (.string ⟨xnm.toArray⟩)) := Lib.hid (fun W hW => ⟨((((Fr.refl [] w).alloc _).trans HF.out).trans hW |>.cell (p := ⟨g, off + j * 3 + 1, none⟩) hg (by simp)).trans c1, ((((Fr.refl [] w).alloc _).trans HF.out).trans hW |>.cell (p := ⟨g, off + j * 3 + 2, none⟩) hg (by simp)).trans c2⟩)
      have HX2 := Lib.hid (HXB.out.keep HF.out (by simp))
      have hxl := HX2.out.lt
      clear hx hstep c0 c1 c2
      go_upto_region 5 with fail
      go_cut [40] from 10 to 43 (fun s wc => wc = wr.drew ∧ ∃ b : Bool, s = .bool b ∧ Hid (b = mt tb nm ⟨xg, xt, xnm⟩))
      case first =>

        by_cases h1 : xnm = nm
        case neg =>
          have hb1 : (xnm == nm) = false := beq_eq_false_iff_ne.2 h1
          have HMT : Hid (false = mt tb nm ⟨xg, xt, xnm⟩) := Lib.hid (by unfold mt; rw [show ((⟨xg, xt, xnm⟩ : It).name == nm) = false from hb1]; rfl)
          clear h1
          refine Seq3.wp_region_text (fun i => true) (fun _ => none) (fun i => false) (fun W => Fr [] wr W) (by kernel_rfl) (by kernel_rfl) ((Fr.refl [] wr).drew) ?_
          refine Seq3.wpL_quiet rfl rfl rfl (fun K hK => ?_)
          go_big_quiet_op
          first | refine hK _ ?_ | refine ⟨_, by intros; rfl, hK _ ?_⟩
          clear hK K
          refine Seq3.wpL_quiet rfl rfl rfl (fun K hK => ?_)
          go_big_quiet_op
          first | refine hK _ ?_ | refine ⟨_, by intros; rfl, hK _ ?_⟩
          clear hK K
          refine Seq3.wpL_quiet rfl rfl rfl (fun K hK => ?_)
          go_big_quiet_op
          first | refine hK _ ?_ | refine ⟨_, by intros; rfl, hK _ ?_⟩
          clear hK K
          refine Seq3.wpL_quiet rfl rfl rfl (fun K hK => ?_)
          go_big_quiet_op
          first | refine hK _ ?_ | refine ⟨_, by intros; rfl, hK _ ?_⟩
          clear hK K
          refine Seq3.wpL_held (v := .string ⟨xnm.toArray⟩) rfl rfl (fun wz hz => ?_) ?_
          · have l0 := (HK1.out wz hz).2
            simp [go_sem, execOp, l0]
          simp only [Act.put, List.setIfInBounds_toArray, List.set_cons_succ, List.set_cons_zero]
          refine Seq3.wpL_quiet rfl rfl rfl (fun K hK => ?_)
          go_big_quiet_op
          first | refine hK _ ?_ | refine ⟨_, by intros; rfl, hK _ ?_⟩
          clear hK K
          refine Seq3.wpL_held (v := .string ⟨nm.toArray⟩) rfl rfl (fun wz hz => ?_) ?_
          · have l0 := (HX2.out.keep hz (by simp)).cell 5
            simp [go_sem, execOp, l0]
          simp only [Act.put, List.setIfInBounds_toArray, List.set_cons_succ, List.set_cons_zero]
          refine Seq3.wpL_held (v := .bool false) rfl rfl (fun wz hz => ?_) ?_
          · simp [go_sem, execOp, hb1]
          simp only [Act.put, List.setIfInBounds_toArray, List.set_cons_succ, List.set_cons_zero]
          refine Seq3.wpL_quiet rfl rfl rfl (fun K hK => ?_)
          go_big_quiet_op
          first | refine hK _ ?_ | refine ⟨_, by intros; rfl, hK _ ?_⟩
          clear hK K
          refine Seq3.wpL_skip ((Fr.refl [] wr).drew) rfl ?_
          simp only [Act.put, List.setIfInBounds_toArray, List.set_cons_succ, List.set_cons_zero]
          refine Seq3.wpL_skip ((Fr.refl [] wr).drew) rfl ?_
          simp only [Act.put, List.setIfInBounds_toArray, List.set_cons_succ, List.set_cons_zero]
          refine Seq3.wpL_skip ((Fr.refl [] wr).drew) rfl ?_
          simp only [Act.put, List.setIfInBounds_toArray, List.set_cons_succ, List.set_cons_zero]
          refine Seq3.wpL_skip ((Fr.refl [] wr).drew) rfl ?_
          simp only [Act.put, List.setIfInBounds_toArray, List.set_cons_succ, List.set_cons_zero]
          refine Seq3.wpL_skip ((Fr.refl [] wr).drew) rfl ?_
          simp only [Act.put, List.setIfInBounds_toArray, List.set_cons_succ, List.set_cons_zero]
          refine Seq3.wpL_skip ((Fr.refl [] wr).drew) rfl ?_
          simp only [Act.put, List.setIfInBounds_toArray, List.set_cons_succ, List.set_cons_zero]
          refine Seq3.wpL_skip ((Fr.refl [] wr).drew) rfl ?_
          simp only [Act.put, List.setIfInBounds_toArray, List.set_cons_succ, List.set_cons_zero]
          refine Seq3.wpL_skip ((Fr.refl [] wr).drew) rfl ?_
          simp only [Act.put, List.setIfInBounds_toArray, List.set_cons_succ, List.set_cons_zero]
          refine Seq3.wpL_skip ((Fr.refl [] wr).drew) rfl ?_
          simp only [Act.put, List.setIfInBounds_toArray, List.set_cons_succ, List.set_cons_zero]
          refine Seq3.wpL_skip ((Fr.refl [] wr).drew) rfl ?_
          simp only [Act.put, List.setIfInBounds_toArray, List.set_cons_succ, List.set_cons_zero]
          refine Seq3.wpL_skip ((Fr.refl [] wr).drew) rfl ?_
          simp only [Act.put, List.setIfInBounds_toArray, List.set_cons_succ, List.set_cons_zero]
          refine Seq3.wpL_skip ((Fr.refl [] wr).drew) rfl ?_
          simp only [Act.put, List.setIfInBounds_toArray, List.set_cons_succ, List.set_cons_zero]
          refine Seq3.wpL_skip ((Fr.refl [] wr).drew) rfl ?_
          simp only [Act.put, List.setIfInBounds_toArray, List.set_cons_succ, List.set_cons_zero]
          refine Seq3.wpL_held (v := .bool false) rfl rfl (fun wz hz => ?_) ?_
          · simp [go_sem, execOp]
          simp only [Act.put, List.setIfInBounds_toArray, List.set_cons_succ, List.set_cons_zero]
          refine Seq3.wpL_nil ?_
          go_wp2_with fail
          go_meet
          exact ⟨rfl, _, rfl, HMT⟩
        subst h1
        by_cases h2 : tb = []
        case pos =>
          subst h2
          have HMT : Hid (true = mt [] xnm ⟨xg, xt, xnm⟩) := Lib.hid (by simp [mt])
          refine Seq3.wp_region_text (fun i => true) (fun _ => none) (fun i => false) (fun W => Fr [] wr W) (by kernel_rfl) (by kernel_rfl) ((Fr.refl [] wr).drew) ?_
          refine Seq3.wpL_quiet rfl rfl rfl (fun K hK => ?_)
          go_big_quiet_op
          first | refine hK _ ?_ | refine ⟨_, by intros; rfl, hK _ ?_⟩
          clear hK K
          refine Seq3.wpL_quiet rfl rfl rfl (fun K hK => ?_)
          go_big_quiet_op
          first | refine hK _ ?_ | refine ⟨_, by intros; rfl, hK _ ?_⟩
          clear hK K
          refine Seq3.wpL_quiet rfl rfl rfl (fun K hK => ?_)
          go_big_quiet_op
          first | refine hK _ ?_ | refine ⟨_, by intros; rfl, hK _ ?_⟩
          clear hK K
          refine Seq3.wpL_quiet rfl rfl rfl (fun K hK => ?_)
          go_big_quiet_op
          first | refine hK _ ?_ | refine ⟨_, by intros; rfl, hK _ ?_⟩
          clear hK K
          refine Seq3.wpL_held (v := .string ⟨xnm.toArray⟩) rfl rfl (fun wz hz => ?_) ?_
          · have l0 := (HK1.out wz hz).2
            simp [go_sem, execOp, l0]
          simp only [Act.put, List.setIfInBounds_toArray, List.set_cons_succ, List.set_cons_zero]
          refine Seq3.wpL_quiet rfl rfl rfl (fun K hK => ?_)
          go_big_quiet_op
          first | refine hK _ ?_ | refine ⟨_, by intros; rfl, hK _ ?_⟩
          clear hK K
          refine Seq3.wpL_held (v := .string ⟨xnm.toArray⟩) rfl rfl (fun wz hz => ?_) ?_
          · have l0 := (HX2.out.keep hz (by simp)).cell 5
            simp [go_sem, execOp, l0]
          simp only [Act.put, List.setIfInBounds_toArray, List.set_cons_succ, List.set_cons_zero]
          refine Seq3.wpL_held (v := .bool true) rfl rfl (fun wz hz => ?_) ?_
          · simp [go_sem, execOp]
          simp only [Act.put, List.setIfInBounds_toArray, List.set_cons_succ, List.set_cons_zero]
          refine Seq3.wpL_quiet rfl rfl rfl (fun K hK => ?_)
          go_big_quiet_op
          first | refine hK _ ?_ | refine ⟨_, by intros; rfl, hK _ ?_⟩
          clear hK K
          refine Seq3.wpL_quiet rfl rfl rfl (fun K hK => ?_)
          go_big_quiet_op
          first | refine hK _ ?_ | refine ⟨_, by intros; rfl, hK _ ?_⟩
          clear hK K
          refine Seq3.wpL_held (v := .string ⟨#[]⟩) rfl rfl (fun wz hz => ?_) ?_
          · have l0 := (HX2.out.keep hz (by simp)).cell 4
            simp [go_sem, execOp, l0]
          simp only [Act.put, List.setIfInBounds_toArray, List.set_cons_succ, List.set_cons_zero]
          refine Seq3.wpL_held (v := .bool true) rfl rfl (fun wz hz => ?_) ?_
          · simp [go_sem, execOp]
          simp only [Act.put, List.setIfInBounds_toArray, List.set_cons_succ, List.set_cons_zero]
          refine Seq3.wpL_quiet rfl rfl rfl (fun K hK => ?_)
          go_big_quiet_op
          first | refine hK _ ?_ | refine ⟨_, by intros; rfl, hK _ ?_⟩
          clear hK K
          refine Seq3.wpL_skip ((Fr.refl [] wr).drew) rfl ?_
          simp only [Act.put, List.setIfInBounds_toArray, List.set_cons_succ, List.set_cons_zero]
          refine Seq3.wpL_skip ((Fr.refl [] wr).drew) rfl ?_
          simp only [Act.put, List.setIfInBounds_toArray, List.set_cons_succ, List.set_cons_zero]
          refine Seq3.wpL_skip ((Fr.refl [] wr).drew) rfl ?_
          simp only [Act.put, List.setIfInBounds_toArray, List.set_cons_succ, List.set_cons_zero]
          refine Seq3.wpL_skip ((Fr.refl [] wr).drew) rfl ?_
          simp only [Act.put, List.setIfInBounds_toArray, List.set_cons_succ, List.set_cons_zero]
          refine Seq3.wpL_skip ((Fr.refl [] wr).drew) rfl ?_
          simp only [Act.put, List.setIfInBounds_toArray, List.set_cons_succ, List.set_cons_zero]
          refine Seq3.wpL_skip ((Fr.refl [] wr).drew) rfl ?_
          simp only [Act.put, List.setIfInBounds_toArray, List.set_cons_succ, List.set_cons_zero]
          refine Seq3.wpL_skip ((Fr.refl [] wr).drew) rfl ?_
          simp only [Act.put, List.setIfInBounds_toArray, List.set_cons_succ, List.set_cons_zero]
          refine Seq3.wpL_skip ((Fr.refl [] wr).drew) rfl ?_
          simp only [Act.put, List.setIfInBounds_toArray, List.set_cons_succ, List.set_cons_zero]
          refine Seq3.wpL_held (v := .bool true) rfl rfl (fun wz hz => ?_) ?_
          · simp [go_sem, execOp]
          simp only [Act.put, List.setIfInBounds_toArray, List.set_cons_succ, List.set_cons_zero]
          refine Seq3.wpL_held (v := .bool true) rfl rfl (fun wz hz => ?_) ?_
          · simp [go_sem, execOp]
          simp only [Act.put, List.setIfInBounds_toArray, List.set_cons_succ, List.set_cons_zero]
          refine Seq3.wpL_nil ?_
          go_wp2_with fail
          go_meet
          exact ⟨rfl, _, rfl, HMT⟩
        have hb2 : (tb == []) = false := beq_eq_false_iff_ne.2 h2
        have hb2b : tb.isEmpty = false := by cases tb with | nil => exact absurd rfl h2 | cons => rfl
        by_cases h3 : tb = xt
        case pos =>
          subst h3
          have HMT : Hid (true = mt tb xnm ⟨xg, tb, xnm⟩) := Lib.hid (by simp [mt])
          clear h2
          refine Seq3.wp_region_text (fun i => true) (fun _ => none) (fun i => false) (fun W => Fr [] wr W) (by kernel_rfl) (by kernel_rfl) ((Fr.refl [] wr).drew) ?_
          refine Seq3.wpL_quiet rfl rfl rfl (fun K hK => ?_)
          go_big_quiet_op
          first | refine hK _ ?_ | refine ⟨_, by intros; rfl, hK _ ?_⟩
          clear hK K
          refine Seq3.wpL_quiet rfl rfl rfl (fun K hK => ?_)
          go_big_quiet_op
          first | refine hK _ ?_ | refine ⟨_, by intros; rfl, hK _ ?_⟩
          clear hK K
          refine Seq3.wpL_quiet rfl rfl rfl (fun K hK => ?_)
          go_big_quiet_op
          first | refine hK _ ?_ | refine ⟨_, by intros; rfl, hK _ ?_⟩
          clear hK K
          refine Seq3.wpL_quiet rfl rfl rfl (fun K hK => ?_)
          go_big_quiet_op
          first | refine hK _ ?_ | refine ⟨_, by intros; rfl, hK _ ?_⟩
          clear hK K
          refine Seq3.wpL_held (v := .string ⟨xnm.toArray⟩) rfl rfl (fun wz hz => ?_) ?_
          · have l0 := (HK1.out wz hz).2
            simp [go_sem, execOp, l0]
          simp only [Act.put, List.setIfInBounds_toArray, List.set_cons_succ, List.set_cons_zero]
          refine Seq3.wpL_quiet rfl rfl rfl (fun K hK => ?_)
          go_big_quiet_op
          first | refine hK _ ?_ | refine ⟨_, by intros; rfl, hK _ ?_⟩
          clear hK K
          refine Seq3.wpL_held (v := .string ⟨xnm.toArray⟩) rfl rfl (fun wz hz => ?_) ?_
          · have l0 := (HX2.out.keep hz (by simp)).cell 5
            simp [go_sem, execOp, l0]
          simp only [Act.put, List.setIfInBounds_toArray, List.set_cons_succ, List.set_cons_zero]
          refine Seq3.wpL_held (v := .bool true) rfl rfl (fun wz hz => ?_) ?_
          · simp [go_sem, execOp]
          simp only [Act.put, List.setIfInBounds_toArray, List.set_cons_succ, List.set_cons_zero]
          refine Seq3.wpL_quiet rfl rfl rfl (fun K hK => ?_)
          go_big_quiet_op
          first | refine hK _ ?_ | refine ⟨_, by intros; rfl, hK _ ?_⟩
          clear hK K
          refine Seq3.wpL_quiet rfl rfl rfl (fun K hK => ?_)
          go_big_quiet_op
          first | refine hK _ ?_ | refine ⟨_, by intros; rfl, hK _ ?_⟩
          clear hK K
          refine Seq3.wpL_held (v := .string ⟨tb.toArray⟩) rfl rfl (fun wz hz => ?_) ?_
          · have l0 := (HX2.out.keep hz (by simp)).cell 4
            simp [go_sem, execOp, l0]
          simp only [Act.put, List.setIfInBounds_toArray, List.set_cons_succ, List.set_cons_zero]
          refine Seq3.wpL_held (v := .bool false) rfl rfl (fun wz hz => ?_) ?_
          · simp [go_sem, execOp, hb2, hb2b]
          simp only [Act.put, List.setIfInBounds_toArray, List.set_cons_succ, List.set_cons_zero]
          refine Seq3.wpL_quiet rfl rfl rfl (fun K hK => ?_)
          go_big_quiet_op
          first | refine hK _ ?_ | refine ⟨_, by intros; rfl, hK _ ?_⟩
          clear hK K
          refine Seq3.wpL_quiet rfl rfl rfl (fun K hK => ?_)
          go_big_quiet_op
          first | refine hK _ ?_ | refine ⟨_, by intros; rfl, hK _ ?_⟩
          clear hK K
          refine Seq3.wpL_held (v := .string ⟨tb.toArray⟩) rfl rfl (fun wz hz => ?_) ?_
          · have l0 := (HX2.out.keep hz (by simp)).cell 4
            simp [go_sem, execOp, l0]
          simp only [Act.put, List.setIfInBounds_toArray, List.set_cons_succ, List.set_cons_zero]
          refine Seq3.wpL_quiet rfl rfl rfl (fun K hK => ?_)
          go_big_quiet_op
          first | refine hK _ ?_ | refine ⟨_, by intros; rfl, hK _ ?_⟩
          clear hK K
          refine Seq3.wpL_quiet rfl rfl rfl (fun K hK => ?_)
          go_big_quiet_op
          first | refine hK _ ?_ | refine ⟨_, by intros; rfl, hK _ ?_⟩
          clear hK K
          refine Seq3.wpL_quiet rfl rfl rfl (fun K hK => ?_)
          go_big_quiet_op
          first | refine hK _ ?_ | refine ⟨_, by intros; rfl, hK _ ?_⟩
          clear hK K
          refine Seq3.wpL_quiet rfl rfl rfl (fun K hK => ?_)
          go_big_quiet_op
          first | refine hK _ ?_ | refine ⟨_, by intros; rfl, hK _ ?_⟩
          clear hK K
          refine Seq3.wpL_held (v := .string ⟨tb.toArray⟩) rfl rfl (fun wz hz => ?_) ?_
          · have l0 := (HK1.out wz hz).1
            simp [go_sem, execOp, l0]
          simp only [Act.put, List.setIfInBounds_toArray, List.set_cons_succ, List.set_cons_zero]
          refine Seq3.wpL_held (v := .bool true) rfl rfl (fun wz hz => ?_) ?_
          · simp [go_sem, execOp]
          simp only [Act.put, List.setIfInBounds_toArray, List.set_cons_succ, List.set_cons_zero]
          refine Seq3.wpL_held (v := .bool true) rfl rfl (fun wz hz => ?_) ?_
          · simp [go_sem, execOp]
          simp only [Act.put, List.setIfInBounds_toArray, List.set_cons_succ, List.set_cons_zero]
          refine Seq3.wpL_held (v := .bool true) rfl rfl (fun wz hz => ?_) ?_
          · simp [go_sem, execOp]
          simp only [Act.put, List.setIfInBounds_toArray, List.set_cons_succ, List.set_cons_zero]
          refine Seq3.wpL_nil ?_
          go_wp2_with fail
          go_meet
          exact ⟨rfl, _, rfl, HMT⟩
        have hb3 : (tb == xt) = false := beq_eq_false_iff_ne.2 h3
        have HMT : Hid (false = mt tb xnm ⟨xg, xt, xnm⟩) := Lib.hid (by simp [mt, h2, h3])
        clear h2 h3
        refine Seq3.wp_region_text (fun i => true) (fun _ => none) (fun i => false) (fun W => Fr [] wr W) (by kernel_rfl) (by kernel_rfl) ((Fr.refl [] wr).drew) ?_
        refine Seq3.wpL_quiet rfl rfl rfl (fun K hK => ?_)
        go_big_quiet_op
        first | refine hK _ ?_ | refine ⟨_, by intros; rfl, hK _ ?_⟩
        clear hK K
        refine Seq3.wpL_quiet rfl rfl rfl (fun K hK => ?_)
        go_big_quiet_op
        first | refine hK _ ?_ | refine ⟨_, by intros; rfl, hK _ ?_⟩
        clear hK K
        refine Seq3.wpL_quiet rfl rfl rfl (fun K hK => ?_)
        go_big_quiet_op
        first | refine hK _ ?_ | refine ⟨_, by intros; rfl, hK _ ?_⟩
        clear hK K
        refine Seq3.wpL_quiet rfl rfl rfl (fun K hK => ?_)
        go_big_quiet_op
        first | refine hK _ ?_ | refine ⟨_, by intros; rfl, hK _ ?_⟩
        clear hK K
        refine Seq3.wpL_held (v := .string ⟨xnm.toArray⟩) rfl rfl (fun wz hz => ?_) ?_
        · have l0 := (HK1.out wz hz).2
          simp [go_sem, execOp, l0]
        simp only [Act.put, List.setIfInBounds_toArray, List.set_cons_succ, List.set_cons_zero]
        refine Seq3.wpL_quiet rfl rfl rfl (fun K hK => ?_)
        go_big_quiet_op
        first | refine hK _ ?_ | refine ⟨_, by intros; rfl, hK _ ?_⟩
        clear hK K
        refine Seq3.wpL_held (v := .string ⟨xnm.toArray⟩) rfl rfl (fun wz hz => ?_) ?_
        · have l0 := (HX2.out.keep hz (by simp)).cell 5
          simp [go_sem, execOp, l0]
        simp only [Act.put, List.setIfInBounds_toArray, List.set_cons_succ, List.set_cons_zero]
        refine Seq3.wpL_held (v := .bool true) rfl rfl (fun wz hz => ?_) ?_
        · simp [go_sem, execOp]
        simp only [Act.put, List.setIfInBounds_toArray, List.set_cons_succ, List.set_cons_zero]
        refine Seq3.wpL_quiet rfl rfl rfl (fun K hK => ?_)
        go_big_quiet_op
        first | refine hK _ ?_ | refine ⟨_, by intros; rfl, hK _ ?_⟩
        clear hK K
        refine Seq3.wpL_quiet rfl rfl rfl (fun K hK => ?_)
        go_big_quiet_op
        first | refine hK _ ?_ | refine ⟨_, by intros; rfl, hK _ ?_⟩
        clear hK K
        refine Seq3.wpL_held (v := .string ⟨tb.toArray⟩) rfl rfl (fun wz hz => ?_) ?_
        · have l0 := (HX2.out.keep hz (by simp)).cell 4
          simp [go_sem, execOp, l0]
        simp only [Act.put, List.setIfInBounds_toArray, List.set_cons_succ, List.set_cons_zero]
        refine Seq3.wpL_held (v := .bool false) rfl rfl (fun wz hz => ?_) ?_
        · simp [go_sem, execOp, hb2, hb2b]
        simp only [Act.put, List.setIfInBounds_toArray, List.set_cons_succ, List.set_cons_zero]
        refine Seq3.wpL_quiet rfl rfl rfl (fun K hK => ?_)
        go_big_quiet_op
        first | refine hK _ ?_ | refine ⟨_, by intros; rfl, hK _ ?_⟩
        clear hK K
        refine Seq3.wpL_quiet rfl rfl rfl (fun K hK => ?_)
        go_big_quiet_op
        first | refine hK _ ?_ | refine ⟨_, by intros; rfl, hK _ ?_⟩
        clear hK K
        refine Seq3.wpL_held (v := .string ⟨tb.toArray⟩) rfl rfl (fun wz hz => ?_) ?_
        · have l0 := (HX2.out.keep hz (by simp)).cell 4
          simp [go_sem, execOp, l0]
        simp only [Act.put, List.setIfInBounds_toArray, List.set_cons_succ, List.set_cons_zero]
        refine Seq3.wpL_quiet rfl rfl rfl (fun K hK => ?_)
        go_big_quiet_op
        first | refine hK _ ?_ | refine ⟨_, by intros; rfl, hK _ ?_⟩
        clear hK K
        refine Seq3.wpL_quiet rfl rfl rfl (fun K hK => ?_)
        go_big_quiet_op
        first | refine hK _ ?_ | refine ⟨_, by intros; rfl, hK _ ?_⟩
        clear hK K
        refine Seq3.wpL_quiet rfl rfl rfl (fun K hK => ?_)
        go_big_quiet_op
        first | refine hK _ ?_ | refine ⟨_, by intros; rfl, hK _ ?_⟩
        clear hK K
        refine Seq3.wpL_quiet rfl rfl rfl (fun K hK => ?_)
        go_big_quiet_op
        first | refine hK _ ?_ | refine ⟨_, by intros; rfl, hK _ ?_⟩
        clear hK K
        refine Seq3.wpL_held (v := .string ⟨xt.toArray⟩) rfl rfl (fun wz hz => ?_) ?_
        · have l0 := (HK1.out wz hz).1
          simp [go_sem, execOp, l0]
        simp only [Act.put, List.setIfInBounds_toArray, List.set_cons_succ, List.set_cons_zero]
        refine Seq3.wpL_held (v := .bool false) rfl rfl (fun wz hz => ?_) ?_
        · simp [go_sem, execOp, hb3]
        simp only [Act.put, List.setIfInBounds_toArray, List.set_cons_succ, List.set_cons_zero]
        refine Seq3.wpL_held (v := .bool false) rfl rfl (fun wz hz => ?_) ?_
        · simp [go_sem, execOp]
        simp only [Act.put, List.setIfInBounds_toArray, List.set_cons_succ, List.set_cons_zero]
        refine Seq3.wpL_held (v := .bool false) rfl rfl (fun wz hz => ?_) ?_
        · simp [go_sem, execOp]
        simp only [Act.put, List.setIfInBounds_toArray, List.set_cons_succ, List.set_cons_zero]
        refine Seq3.wpL_nil ?_
        go_wp2_with fail
        go_meet
        exact ⟨rfl, _, rfl, HMT⟩
      case rest =>
        obtain ⟨rfl, b, rfl, HB⟩ := hcut
        have HFc : Hid (Fr [] (w.alloc (.cells #[.int .i64 xo, .int .i64 xk, .int .i64 xi, .string ⟨xz.toArray⟩, .string ⟨tb.toArray⟩, .string ⟨nm.toArray⟩, .slice xa xn xc] 41)) wr.drew) := Lib.hid HF.out.drew
        cases b
        case true =>
          have HS2 := Lib.hid (HST.out.trans (if_pos HB.out.symm))
          by_cases hk0 : 0 ≤ k
          · go_wp2_with fail
            go_ret2
            exact ⟨by rw [HS2.out, if_pos hk0]; rfl, ((Fr.refl [] w).alloc _).trans HFc.out⟩
          · have HS3 := Lib.hid (HS2.out.trans (if_neg hk0))
            go_wp2_with fail
            go_roundg (m - (j + 1))
            case measure => omega
            case rel => exact ⟨j, j + 1, rfl, by go_num, hjm, Nat.le_refl _, by omega, by omega, Lib.hid HS3.out.symm, HFc⟩
        case false =>
          have HS2 := Lib.hid (HST.out.trans (if_neg (by rw [← HB.out]; decide)))
          go_wp2_with fail
          go_roundg (m - (j + 1))
          case measure => omega
          case rel => exact ⟨k, j + 1, rfl, by go_num, hjm, Nat.le_refl _, hk1, hk2, Lib.hid HS2.out.symm, HFc⟩
    · obtain rfl : j = m := by omega
      have HE : Hid (tot = if k < 0 then (-1, 10) else (k, 0)) := Lib.hid (by
        have := HA.out
        rw [List.drop_eq_nil_of_le (by rw [HLM.out]; exact Nat.le_refl _)] at this
        exact this.symm)
      by_cases hk0 : k < 0
      · go_wp2_with fail
        go_ret2
        exact ⟨by rw [HE.out, if_pos hk0]; rfl, ((Fr.refl [] w).alloc _).trans HF.out⟩
      · go_wp2_with fail
        go_ret2
        exact ⟨by rw [HE.out, if_neg (by omega)]; rfl, ((Fr.refl [] w).alloc _).trans HF.out⟩
end Pn
end Go.Proofs.YtmdnhinpaflamaaDoor
