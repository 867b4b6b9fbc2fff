/- plan: the ways that are looked at, one behind another. -/
import Derived.Test.YtmdnhinpaflamaaDoorPnE
namespace Go.Proofs.YtmdnhinpaflamaaDoor
open Go.RowKit
set_option linter.unusedVariables false
set_option linter.unusedSimpArgs false
namespace Pn
open PM (Ex B Col)
open Px (ColS colC z7 put7 frPut7 blkPut7 ret_cell7 c7_of)
/-- by the one and the other, or the other way about -/
def way2 (T : Tab) (p q : Ex) : Option (Int × Int × Int × B) := (way T p q).or (way T q p)
def wayX (T : Tab) : Ex → Option (Int × Int × Int × B)
  | .mk op _ _ _ _ _ args => if op = 8 then match args with | [p, q] => way2 T p q | _ => none else none
theorem wayX_no {T : Tab} {op kind int : Int} {text table name : B} {args : List Ex} (h : ¬ (op = 8 ∧ args.length = 2)) : wayX T (.mk op kind int text table name args) = none := by
  simp only [wayX]
  split
  · rename_i h1
    split
    · exact absurd ⟨h1, rfl⟩ h
    · rfl
  · rfl
/-- the way that an expression shows -/
def wayOf (T : Tab) (e : Ex) : Option (Int × Int × Int × B) := wayX T (first e)
set_option maxRecDepth 1000000 in
set_option maxHeartbeats 4000000 in
theorem cl2_any (tn : B) (l : List Col) (ix : List B) (A A2 : Nat → Prop) (a ia : Option Addr) (c ic : Nat) (hl : l.length ≤ 100) (hil : ix.length ≤ 100) (tb xb : Nat) (xo xk xi : Int) (xz xt xm : B) (xa : Option Addr) (xc : Nat) (p q : Ex) (i j : Nat) (hi : i < 2) (hj : j < 2) (w : World)
    (h : TR A w ⟨tn, l, ix⟩ a c ia ic) (hT : Blk w tb 27 [.string ⟨tn.toArray⟩, .slice a l.length c, .slice ia ix.length ic]) (hX : Blk w xb 41 [.int .i64 xo, .int .i64 xk, .int .i64 xi, .string ⟨xz.toArray⟩, .string ⟨xt.toArray⟩, .string ⟨xm.toArray⟩, .slice xa 2 xc]) (hE : Rep.Es 41 A2 w [p, q] (.slice xa 2 xc)) :
    Calls Tryd.prog 36 #[.agg #[.int .i64 i, .int .i64 j], .pointer (some ⟨tb, 0, none⟩), .pointer (some ⟨xb, 0, none⟩)] w fun e w' => WayR (way ⟨tn, l, ix⟩ [p, q][i] [p, q][j]) e ∧ Fr [] w w' := by
  have htb := hT.lt
  have hxb := hX.lt
  obtain ⟨gy, offy, capy, ysy, hvy, hcapy, -, hyy, hcy⟩ := Rep.Es.at hE i (by simpa using hi)
  simp only [Value.slice.injEq] at hvy
  obtain ⟨rfl, -, rfl⟩ := hvy
  generalize [p, q][i] = ey at hyy ⊢
  obtain ⟨yo, yk, yi, yz, yt, ym, yg, ya, yn, yc, rfl, rfl, -⟩ := Sm.e_cells hyy
  obtain ⟨gz, offz, capz, ysz, hvz, hcapz, -, hyz, hcz⟩ := Rep.Es.at hE j (by simpa using hj)
  simp only [Value.slice.injEq] at hvz
  simp only [Option.some.injEq, Addr.mk.injEq, and_true] at hvz
  obtain ⟨⟨rfl, rfl⟩, -, rfl⟩ := hvz
  generalize [p, q][j] = ez at hyz ⊢
  obtain ⟨zo, zk, zi, zz, zt, zm, zg, za, zn, zc, rfl, rfl, -⟩ := Sm.e_cells hyz
  have hgl : gy < w.heap.size := World.block_lt_of_cell? w _ (hcy 0 _ rfl)
  have HKy : Hid (∀ W, Fr [some (w.heap.size + 1)] w W → W.cell? ⟨gy, offy + i * 7, none⟩ = some (.int .i64 yo) ∧ W.cell? ⟨gy, offy + i * 7 + 1, none⟩ = some (.int .i64 yk) ∧ W.cell? ⟨gy, offy + i * 7 + 2, none⟩ = some (.int .i64 yi) ∧ W.cell? ⟨gy, offy + i * 7 + 3, none⟩ = some (.string ⟨yz.toArray⟩) ∧ W.cell? ⟨gy, offy + i * 7 + 4, none⟩ = some (.string ⟨yt.toArray⟩) ∧ W.cell? ⟨gy, offy + i * 7 + 5, none⟩ = some (.string ⟨ym.toArray⟩) ∧ W.cell? ⟨gy, offy + i * 7 + 6, none⟩ = some (.slice ya yn yc)) := Lib.hid (fun W hW => ⟨(hW.cell (p := ⟨gy, offy + i * 7, none⟩) hgl (by simp; omega)).trans (hcy 0 _ rfl), (hW.cell (p := ⟨gy, offy + i * 7 + 1, none⟩) hgl (by simp; omega)).trans (hcy 1 _ rfl), (hW.cell (p := ⟨gy, offy + i * 7 + 2, none⟩) hgl (by simp; omega)).trans (hcy 2 _ rfl), (hW.cell (p := ⟨gy, offy + i * 7 + 3, none⟩) hgl (by simp; omega)).trans (hcy 3 _ rfl), (hW.cell (p := ⟨gy, offy + i * 7 + 4, none⟩) hgl (by simp; omega)).trans (hcy 4 _ rfl), (hW.cell (p := ⟨gy, offy + i * 7 + 5, none⟩) hgl (by simp; omega)).trans (hcy 5 _ rfl), (hW.cell (p := ⟨gy, offy + i * 7 + 6, none⟩) hgl (by simp; omega)).trans (hcy 6 _ rfl)⟩)
  have HKz : Hid (∀ W, Fr [some (w.heap.size + 1)] w W → W.cell? ⟨gy, offy + j * 7, none⟩ = some (.int .i64 zo) ∧ W.cell? ⟨gy, offy + j * 7 + 1, none⟩ = some (.int .i64 zk) ∧ W.cell? ⟨gy, offy + j * 7 + 2, none⟩ = some (.int .i64 zi) ∧ W.cell? ⟨gy, offy + j * 7 + 3, none⟩ = some (.string ⟨zz.toArray⟩) ∧ W.cell? ⟨gy, offy + j * 7 + 4, none⟩ = some (.string ⟨zt.toArray⟩) ∧ W.cell? ⟨gy, offy + j * 7 + 5, none⟩ = some (.string ⟨zm.toArray⟩) ∧ W.cell? ⟨gy, offy + j * 7 + 6, none⟩ = some (.slice za zn zc)) := Lib.hid (fun W hW => ⟨(hW.cell (p := ⟨gy, offy + j * 7, none⟩) hgl (by simp; omega)).trans (hcz 0 _ rfl), (hW.cell (p := ⟨gy, offy + j * 7 + 1, none⟩) hgl (by simp; omega)).trans (hcz 1 _ rfl), (hW.cell (p := ⟨gy, offy + j * 7 + 2, none⟩) hgl (by simp; omega)).trans (hcz 2 _ rfl), (hW.cell (p := ⟨gy, offy + j * 7 + 3, none⟩) hgl (by simp; omega)).trans (hcz 3 _ rfl), (hW.cell (p := ⟨gy, offy + j * 7 + 4, none⟩) hgl (by simp; omega)).trans (hcz 4 _ rfl), (hW.cell (p := ⟨gy, offy + j * 7 + 5, none⟩) hgl (by simp; omega)).trans (hcz 5 _ rfl), (hW.cell (p := ⟨gy, offy + j * 7 + 6, none⟩) hgl (by simp; omega)).trans (hcz 6 _ rfl)⟩)
  have HT := Lib.hid hT
  have HX := Lib.hid hX
  have HTR := Lib.hid h
  have hi' : (i : Int) < 2 := by omega
  have hj' : (j : Int) < 2 := by omega
  have hcx : (2 : Int) ≤ xc := by simp at hcapy; omega
  clear hcy hcz hyy hyz hcapy hcapz h hT hX hE
  have hf0 : Fr [] w ((w.alloc (.cells #[.int .i64 (i : Int), .int .i64 (j : Int)] 87)).alloc (.cells #[.int .i64 0, .int .i64 0, .int .i64 0, .string ⟨#[]⟩] 46)) := ((Fr.refl [] w).alloc _).alloc _
  have HBX := Lib.hid ((Blk.new w 87 [.int .i64 (i : Int), .int .i64 (j : Int)]).alloc (.cells #[.int .i64 0, .int .i64 0, .int .i64 0, .string ⟨#[]⟩] 46))
  have hbp := Blk.new (w.alloc (.cells #[.int .i64 (i : Int), .int .i64 (j : Int)] 87)) 46 [.int .i64 0, .int .i64 0, .int .i64 0, .string ⟨#[]⟩]
  rw [World.size_alloc] at hbp
  have HBP := Lib.hid hbp
  have HF0 := Lib.hid hf0
  clear hbp hf0
  go_enter Tryd.func36, Tryd.ntmps36
  go_upto_region 1 with fail
  generalize (w.alloc (.cells #[.int .i64 (i : Int), .int .i64 (j : Int)] 87)).alloc (.cells #[.int .i64 0, .int .i64 0, .int .i64 0, .string ⟨#[]⟩] 46) = w0 at HBX HBP HF0 ⊢
  refine Seq3.wp_region_text (fun i => i != 13 && i != 16) (fun _ => none) (fun i => false) (fun W => Fr [some (w.heap.size + 1)] w0 W) (by kernel_rfl) (by kernel_rfl) (Fr.drew (Fr.refl _ w0)) ?_
  refine Seq3.wpL_held (v := .agg #[.string ⟨tn.toArray⟩, .slice a l.length c, .slice ia ix.length ic]) rfl rfl (fun wz hz => ?_) ?_
  · have l0 := (HT.out.keep ((HF0.out.mono (by simp)).trans hz) (by simp <;> omega)).cell 0
    have l1 := (HT.out.keep ((HF0.out.mono (by simp)).trans hz) (by simp <;> omega)).cell 1
    have l2 := (HT.out.keep ((HF0.out.mono (by simp)).trans hz) (by simp <;> omega)).cell 2
    simp [go_sem, execOp, l0, l1, l2]
  simp only [Act.put, List.setIfInBounds_toArray, List.set_cons_succ, List.set_cons_zero]
  refine Seq3.wpL_quiet rfl rfl rfl (fun K hK => ?_)
  go_big_quiet_op
  first | refine hK _ ?_ | refine ⟨_, by intros; rfl, hK _ ?_⟩
  clear hK K
  refine Seq3.wpL_held (v := .slice (some ⟨gy, offy, none⟩) 2 xc) rfl rfl (fun wz hz => ?_) ?_
  · have l0 := (HX.out.keep ((HF0.out.mono (by simp)).trans hz) (by simp <;> omega)).cell 6
    simp [go_sem, execOp, l0]
  simp only [Act.put, List.setIfInBounds_toArray, List.set_cons_succ, List.set_cons_zero]
  refine Seq3.wpL_quiet rfl rfl rfl (fun K hK => ?_)
  go_big_quiet_op
  first | refine hK _ ?_ | refine ⟨_, by intros; rfl, hK _ ?_⟩
  clear hK K
  refine Seq3.wpL_held (v := .int .i64 (i : Int)) rfl rfl (fun wz hz => ?_) ?_
  · have l0 := (HBX.out.keep hz (by simp <;> omega)).cell 0
    simp [go_sem, execOp, l0]
  simp only [Act.put, List.setIfInBounds_toArray, List.set_cons_succ, List.set_cons_zero]
  refine Seq3.wpL_quiet rfl rfl rfl (fun K hK => ?_)
  go_big_quiet_op
  first | refine hK _ ?_ | refine ⟨_, by intros; rfl, hK _ ?_⟩
  clear hK K
  refine Seq3.wpL_held (v := .agg #[.int .i64 yo, .int .i64 yk, .int .i64 yi, .string ⟨yz.toArray⟩, .string ⟨yt.toArray⟩, .string ⟨ym.toArray⟩, .slice ya yn yc]) rfl rfl (fun wz hz => ?_) ?_
  · obtain ⟨i0, i1, i2, i3, i4, i5, i6⟩ := HKy.out wz ((HF0.out.mono (by simp)).trans hz)
    simp [go_sem, execOp, i0, i1, i2, i3, i4, i5, i6]
  simp only [Act.put, List.setIfInBounds_toArray, List.set_cons_succ, List.set_cons_zero]
  refine Seq3.wpL_quiet rfl rfl rfl (fun K hK => ?_)
  go_big_quiet_op
  first | refine hK _ ?_ | refine ⟨_, by intros; rfl, hK _ ?_⟩
  clear hK K
  refine Seq3.wpL_held (v := .slice (some ⟨gy, offy, none⟩) 2 xc) rfl rfl (fun wz hz => ?_) ?_
  · have l0 := (HX.out.keep ((HF0.out.mono (by simp)).trans hz) (by simp <;> omega)).cell 6
    simp [go_sem, execOp, l0]
  simp only [Act.put, List.setIfInBounds_toArray, List.set_cons_succ, List.set_cons_zero]
  refine Seq3.wpL_quiet rfl rfl rfl (fun K hK => ?_)
  go_big_quiet_op
  first | refine hK _ ?_ | refine ⟨_, by intros; rfl, hK _ ?_⟩
  clear hK K
  refine Seq3.wpL_held (v := .int .i64 (j : Int)) rfl rfl (fun wz hz => ?_) ?_
  · have l0 := (HBX.out.keep hz (by simp <;> omega)).cell 1
    simp [go_sem, execOp, l0]
  simp only [Act.put, List.setIfInBounds_toArray, List.set_cons_succ, List.set_cons_zero]
  refine Seq3.wpL_quiet rfl rfl rfl (fun K hK => ?_)
  go_big_quiet_op
  first | refine hK _ ?_ | refine ⟨_, by intros; rfl, hK _ ?_⟩
  clear hK K
  refine Seq3.wpL_held (v := .agg #[.int .i64 zo, .int .i64 zk, .int .i64 zi, .string ⟨zz.toArray⟩, .string ⟨zt.toArray⟩, .string ⟨zm.toArray⟩, .slice za zn zc]) rfl rfl (fun wz hz => ?_) ?_
  · obtain ⟨i0, i1, i2, i3, i4, i5, i6⟩ := HKz.out wz ((HF0.out.mono (by simp)).trans hz)
    simp [go_sem, execOp, i0, i1, i2, i3, i4, i5, i6]
  simp only [Act.put, List.setIfInBounds_toArray, List.set_cons_succ, List.set_cons_zero]
  refine Seq3.wpL_call rfl rfl (by first | kernel_rfl | simp [go_sem, execOp]) (by_any tn l ix A a ia c ic hl hil yo yk yi zo zk zi yz yt ym zz zt zm yg zg ya za yn yc zn zc w0.drew (HTR.out.keep HF0.out.drew (by simp))) ?_
  rintro e w2 ⟨⟨rp, rk, ri, rt, rb, rfl, hr⟩, hf2⟩
  have HF2 := Lib.hid ((Fr.drew (Fr.refl [] w0)).trans hf2)
  have HR := Lib.hid hr
  refine ⟨_, rfl, HF2.out.mono (by simp), ?_⟩
  simp only [Act.put, List.setIfInBounds_toArray, List.set_cons_succ, List.set_cons_zero]
  refine Seq3.wpL_held (v := .agg #[.int .i64 rp, .int .i64 rk, .int .i64 ri, .string ⟨rt.toArray⟩]) rfl rfl (fun wz hz => ?_) ?_
  · simp [go_sem, execOp]
  simp only [Act.put, List.setIfInBounds_toArray, List.set_cons_succ, List.set_cons_zero]
  refine Seq3.wpL_held (v := .bool rb) rfl rfl (fun wz hz => ?_) ?_
  · simp [go_sem, execOp]
  simp only [Act.put, List.setIfInBounds_toArray, List.set_cons_succ, List.set_cons_zero]
  obtain ⟨p0, p1, p2, p3, q0, q1, q2, q3⟩ := c4_of (HBP.out.keep HF2.out (by simp))
  refine Seq3.wpL_store (w' := put4 w2 (w.heap.size + 1) (.int .i64 rp) (.int .i64 rk) (.int .i64 ri) (.string ⟨rt.toArray⟩)) rfl rfl (by first | (simp [go_sem, execOp, put4, p0, p1, p2, p3, q0, q1, q2, q3]; done) | (simp [go_sem, execOp, put4, p0, p1, p2, p3, q0, q1, q2, q3]; rfl)) (frPut4 (HF2.out.mono (by simp)) (.inl (by simp)) _ _ _ _) ?_
  simp only [Act.put, List.setIfInBounds_toArray, List.set_cons_succ, List.set_cons_zero]
  refine Seq3.wpL_quiet rfl rfl rfl (fun K hK => ?_)
  go_big_quiet_op
  first | refine hK _ ?_ | refine ⟨_, by intros; rfl, hK _ ?_⟩
  clear hK K
  refine Seq3.wpL_nil ?_
  go_wp2_with fail
  exact bodyPost_ret (ret_plan rfl _ (w.heap.size + 1) rfl _ rfl _ _ _ _ _ (blkPut4 (HBP.out.keep HF2.out (by simp)) _ _ _ _)) rfl ⟨⟨rp, rk, ri, rt, rb, rfl, HR.out⟩, frPut4 (HF0.out.trans HF2.out) (.inr (by omega)) _ _ _ _⟩
end Pn
end Go.Proofs.YtmdnhinpaflamaaDoor
