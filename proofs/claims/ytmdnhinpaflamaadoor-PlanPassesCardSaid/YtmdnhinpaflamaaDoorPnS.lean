/- The document's Eval: of two things. -/
import Derived.Test.YtmdnhinpaflamaaDoorPnR
namespace Go.Proofs.YtmdnhinpaflamaaDoor
open Go.RowKit
set_option linter.unusedVariables false
set_option linter.unusedSimpArgs false
namespace Pn
open PM (Ex B Col It)
open Gn (put3 frPut3 blkPut3 c3_of)
open Px (ItS itC c7_of)
/-- what Eval of two things returns -/
def BinP (op : Int) (Px Py : Int → Int → B → Int → Prop) (k i : Int) (t : B) (er : Int) : Prop :=
  Fine i t ∧ ∃ (kx ix : Int) (tx : B) (ex : Int), Px kx ix tx ex ∧ (ex = 0 → op = 14 → ix = 0 → k = 3 ∧ i = 0 ∧ er = 0) ∧
    (ex = 0 → op = 8 → ∃ (ky iy : Int) (ty : B) (ey : Int), Py ky iy ty ey ∧ (ey = 0 → kx = 1 → ky = 1 → k = 3 ∧ i = (if ix = iy then 1 else 0) ∧ er = 0))
/-- what Eval does with an expression, wherever it lies -/
def EvA (vc vv : Value) (w : World) (x : Ex) (P : Int → Int → B → Int → Prop) : Prop :=
  ∀ (A : Nat → Prop) (W : World) (cs : List Value), Fr [] w W → Rep.E 41 A W x cs → Calls Tryd.prog 44 #[vc, vv, .agg cs.toArray] W fun e w' => EvR P e ∧ Fr [] W w'
set_option maxRecDepth 1000000 in
set_option maxHeartbeats 4000000 in
theorem ev_bin (vc vv : Value) (Px Py : Int → Int → B → Int → Prop) (hPx : ∀ k i t x, Px k i t x → Fine i t) (hPy : ∀ k i t x, Py k i t x → Fine i t) (op : Int) (xk xi : Int) (xz xt xm : B) (x y : Ex) (xa : Option Addr) (xn xc : Nat) (h5 : 5 ≤ op) (h13 : op ≤ 13) (A : Nat → Prop) (w : World) (h : Rep.Es 41 A w [x, y] (.slice xa xn xc)) (hx : EvA vc vv w x Px) (hy : EvA vc vv w y Py) :
    Calls Tryd.prog 44 #[vc, vv, .agg #[.int .i64 op, .int .i64 xk, .int .i64 xi, .string ⟨xz.toArray⟩, .string ⟨xt.toArray⟩, .string ⟨xm.toArray⟩, .slice xa xn xc]] w fun e w' => EvR (BinP op Px Py) e ∧ Fr [] w w' := by
  obtain ⟨gp, offp, capp, ysp, hvp, hcapp, -, hyp, hcp⟩ := Rep.Es.at h 0 (by simp)
  simp only [Value.slice.injEq] at hvp
  obtain ⟨rfl, rfl, rfl⟩ := hvp
  simp only [List.getElem_cons_zero, List.getElem_cons_succ] at hyp
  have HYp := Lib.hid hyp
  obtain ⟨po, pk, pi, pz, pt, pm, pg, pa, pn, pc, hpx, rfl, -⟩ := Sm.e_cells hyp
  obtain ⟨gq, offq, capq, ysq, hvq, hcapq, -, hyq, hcq⟩ := Rep.Es.at h 1 (by simp)
  simp only [Value.slice.injEq] at hvq
  simp only [Option.some.injEq, Addr.mk.injEq, and_true] at hvq
  obtain ⟨⟨rfl, rfl⟩, -, rfl⟩ := hvq
  simp only [List.getElem_cons_zero, List.getElem_cons_succ] at hyq
  have HYq := Lib.hid hyq
  obtain ⟨qo, qk, qi, qz, qt, qm, qg, qa, qn, qc, hqx, rfl, -⟩ := Sm.e_cells hyq
  have hgl : gp < w.heap.size := World.block_lt_of_cell? w _ (hcp 0 _ rfl)
  have hxc : (2 : Int) ≤ xc := by simp at hcapp; omega
  have HKp : Hid (∀ W, Fr [] w W → W.cell? ⟨gp, offp, none⟩ = some (.int .i64 po) ∧ W.cell? ⟨gp, offp + 1, none⟩ = some (.int .i64 pk) ∧ W.cell? ⟨gp, offp + 2, none⟩ = some (.int .i64 pi) ∧ W.cell? ⟨gp, offp + 3, none⟩ = some (.string ⟨pz.toArray⟩) ∧ W.cell? ⟨gp, offp + 4, none⟩ = some (.string ⟨pt.toArray⟩) ∧ W.cell? ⟨gp, offp + 5, none⟩ = some (.string ⟨pm.toArray⟩) ∧ W.cell? ⟨gp, offp + 6, none⟩ = some (.slice pa pn pc)) := Lib.hid (fun W hW => by
    have c0 := (hW.cell (p := ⟨gp, offp + 0 * 7, none⟩) hgl (by simp)).trans (hcp 0 _ rfl)
    have c1 := (hW.cell (p := ⟨gp, offp + 0 * 7 + 1, none⟩) hgl (by simp)).trans (hcp 1 _ rfl)
    have c2 := (hW.cell (p := ⟨gp, offp + 0 * 7 + 2, none⟩) hgl (by simp)).trans (hcp 2 _ rfl)
    have c3 := (hW.cell (p := ⟨gp, offp + 0 * 7 + 3, none⟩) hgl (by simp)).trans (hcp 3 _ rfl)
    have c4 := (hW.cell (p := ⟨gp, offp + 0 * 7 + 4, none⟩) hgl (by simp)).trans (hcp 4 _ rfl)
    have c5 := (hW.cell (p := ⟨gp, offp + 0 * 7 + 5, none⟩) hgl (by simp)).trans (hcp 5 _ rfl)
    have c6 := (hW.cell (p := ⟨gp, offp + 0 * 7 + 6, none⟩) hgl (by simp)).trans (hcp 6 _ rfl)
    simp only [Nat.zero_mul, Nat.one_mul, Nat.add_zero] at c0 c1 c2 c3 c4 c5 c6
    exact ⟨c0, c1, c2, c3, c4, c5, c6⟩)
  have HKq : Hid (∀ W, Fr [] w W → W.cell? ⟨gp, offp + 7, none⟩ = some (.int .i64 qo) ∧ W.cell? ⟨gp, offp + 7 + 1, none⟩ = some (.int .i64 qk) ∧ W.cell? ⟨gp, offp + 7 + 2, none⟩ = some (.int .i64 qi) ∧ W.cell? ⟨gp, offp + 7 + 3, none⟩ = some (.string ⟨qz.toArray⟩) ∧ W.cell? ⟨gp, offp + 7 + 4, none⟩ = some (.string ⟨qt.toArray⟩) ∧ W.cell? ⟨gp, offp + 7 + 5, none⟩ = some (.string ⟨qm.toArray⟩) ∧ W.cell? ⟨gp, offp + 7 + 6, none⟩ = some (.slice qa qn qc)) := Lib.hid (fun W hW => by
    have c0 := (hW.cell (p := ⟨gp, offp + 1 * 7, none⟩) hgl (by simp)).trans (hcq 0 _ rfl)
    have c1 := (hW.cell (p := ⟨gp, offp + 1 * 7 + 1, none⟩) hgl (by simp)).trans (hcq 1 _ rfl)
    have c2 := (hW.cell (p := ⟨gp, offp + 1 * 7 + 2, none⟩) hgl (by simp)).trans (hcq 2 _ rfl)
    have c3 := (hW.cell (p := ⟨gp, offp + 1 * 7 + 3, none⟩) hgl (by simp)).trans (hcq 3 _ rfl)
    have c4 := (hW.cell (p := ⟨gp, offp + 1 * 7 + 4, none⟩) hgl (by simp)).trans (hcq 4 _ rfl)
    have c5 := (hW.cell (p := ⟨gp, offp + 1 * 7 + 5, none⟩) hgl (by simp)).trans (hcq 5 _ rfl)
    have c6 := (hW.cell (p := ⟨gp, offp + 1 * 7 + 6, none⟩) hgl (by simp)).trans (hcq 6 _ rfl)
    simp only [Nat.zero_mul, Nat.one_mul, Nat.add_zero] at c0 c1 c2 c3 c4 c5 c6
    exact ⟨c0, c1, c2, c3, c4, c5, c6⟩)
  have HXX := Lib.hid hx
  have HYY := Lib.hid hy
  have HPX := Lib.hid hPx
  have HPY := Lib.hid hPy
  have HF0 : Hid (Fr [] w ((w.alloc (.cells #[.int .i64 op, .int .i64 xk, .int .i64 xi, .string ⟨xz.toArray⟩, .string ⟨xt.toArray⟩, .string ⟨xm.toArray⟩, .slice (some ⟨gp, offp, none⟩) 2 xc] 41)).alloc (.cells #[.int .i64 0, .int .i64 0, .string ⟨#[]⟩] 38))) := Lib.hid (((Fr.refl [] w).alloc _).alloc _)
  have HB0 := Lib.hid ((Blk.new w 41 [.int .i64 op, .int .i64 xk, .int .i64 xi, .string ⟨xz.toArray⟩, .string ⟨xt.toArray⟩, .string ⟨xm.toArray⟩, .slice (some ⟨gp, offp, none⟩) 2 xc]).alloc (.cells #[.int .i64 0, .int .i64 0, .string ⟨#[]⟩] 38))
  have hr0 := Blk.new (w.alloc (.cells #[.int .i64 op, .int .i64 xk, .int .i64 xi, .string ⟨xz.toArray⟩, .string ⟨xt.toArray⟩, .string ⟨xm.toArray⟩, .slice (some ⟨gp, offp, none⟩) 2 xc] 41)) 38 [.int .i64 0, .int .i64 0, .string ⟨#[]⟩]
  rw [World.size_alloc] at hr0
  have HR0 := Lib.hid hr0
  clear h hx hy hPx hPy hr0 hcp hcq hyp hyq hcapp hcapq hpx hqx
  simp only [List.length_cons, List.length_nil, Nat.zero_add]
  go_enter Tryd.func44, Tryd.ntmps44
  go_upto_region 1 with fail
  generalize (w.alloc (.cells #[.int .i64 op, .int .i64 xk, .int .i64 xi, .string ⟨xz.toArray⟩, .string ⟨xt.toArray⟩, .string ⟨xm.toArray⟩, .slice (some ⟨gp, offp, none⟩) 2 xc] 41)).alloc (.cells #[.int .i64 0, .int .i64 0, .string ⟨#[]⟩] 38) = w0 at HF0 HB0 HR0 ⊢
  have hop1 : ¬ op = 1 := by omega
  have hop2 : ¬ op = 2 := by omega
  have hop3 : ¬ op = 3 := by omega
  have hop4 : ¬ op = 4 := by omega
  have hop14 : ¬ op = 14 := by omega
  have hop15 : ¬ op = 15 := by omega
  obtain ⟨z0, z1, z2, z3, z4, z5, z6⟩ := HKp.out w0 HF0.out
  obtain ⟨k0, k1, k2, k3, k4, k5, k6, -⟩ := c7_of HB0.out
  have hl0 := HB0.out.lt
  have hl1 := HR0.out.lt
  have hgw : gp < w0.heap.size := Nat.lt_of_lt_of_le hgl HF0.out.size
  go_wp2_with fail
  refine (HXX.out A w0 _ HF0.out (Rep.E.keep HF0.out (by simp) HYp.out)).mono ?_
  rintro e w1 ⟨he, hf1⟩
  obtain ⟨kx, ix, tx, ex, rfl, hpx⟩ := he.ex
  have HPX1 := Lib.hid hpx
  have HB1 := Lib.hid (HB0.out.keep hf1 (by simp))
  have HR1 := Lib.hid (HR0.out.keep hf1 (by simp))
  have HF1 := Lib.hid (HF0.out.trans hf1)
  clear he hpx hf1 z0 z1 z2 z3 z4 z5 z6 k0 k1 k2 k3 k4 k5 k6 HB0 HR0 HF0
  obtain ⟨k0, k1, k2, k3, k4, k5, k6, -⟩ := c7_of HB1.out
  obtain ⟨v0, v1, v2, f0, f1, f2⟩ := c3_of HR1.out
  have hl2 := HB1.out.lt
  have hl3 := HR1.out.lt
  have hn1 : ¬ w.heap.size = w1.heap.size := by omega
  have hn2 : ¬ w.heap.size + 1 = w1.heap.size := by omega
  have hn3 : ¬ w1.heap.size = w.heap.size := by omega
  have hn4 : ¬ w1.heap.size = w.heap.size + 1 := by omega
  by_cases hex : ex = 0
  case neg =>
    go_wp2_with fail
    exact bodyPost_ret (ret_ev rfl _ (w.heap.size + 1) rfl _ rfl _ _ _ _ (Blk.alloc (blkPut3 HR1.out _ _ _) _)) rfl ⟨⟨0, 0, [], ex, rfl, ⟨by decide, Nat.zero_le _⟩, kx, ix, tx, ex, HPX1.out, fun h => absurd h hex, fun h => absurd h hex⟩, (frPut3 HF1.out (.inr (by omega)) _ _ _).alloc _⟩
  subst hex
  have hf1a := (Fr.refl [] w1).alloc (.cells #[.int .i64 kx, .int .i64 ix, .string ⟨tx.toArray⟩] 38)
  obtain ⟨z0, z1, z2, z3, z4, z5, z6⟩ := HKq.out w1 HF1.out
  have hgw1 : gp < w1.heap.size := Nat.lt_of_lt_of_le hgl HF1.out.size
  have hgn : ¬ gp = w1.heap.size := by omega
  have hgn2 : ¬ w1.heap.size = gp := by omega
  have HFa := Lib.hid (HF1.out.trans hf1a)
  have HVB := Lib.hid (Blk.new w1 38 [.int .i64 kx, .int .i64 ix, .string ⟨tx.toArray⟩])
  have HBa := Lib.hid (HB1.out.keep hf1a (by simp))
  have HRa := Lib.hid (HR1.out.keep hf1a (by simp))
  clear hf1a
  go_wp2_with fail
  refine (HYY.out A _ _ HFa.out (Rep.E.keep HFa.out (by simp) HYq.out)).mono ?_
  rintro e w2 ⟨he, hf2⟩
  obtain ⟨ky, iy, ty, ey, rfl, hpy⟩ := he.ex
  have HPY1 := Lib.hid hpy
  have HB2 := Lib.hid (HBa.out.keep hf2 (by simp))
  have HR2 := Lib.hid (HRa.out.keep hf2 (by simp))
  have HV2 := Lib.hid (HVB.out.keep hf2 (by simp))
  have HF2 := Lib.hid (HFa.out.trans hf2)
  clear he hpy hf2 z0 z1 z2 z3 z4 z5 z6 k0 k1 k2 k3 k4 k5 k6 v0 v1 v2 f0 f1 f2 HBa HRa HVB HFa
  obtain ⟨k0, k1, k2, k3, k4, k5, k6, -⟩ := c7_of HB2.out
  obtain ⟨v0, v1, v2, f0, f1, f2⟩ := c3_of HR2.out
  obtain ⟨a0, a1, a2, -, -, -⟩ := c3_of HV2.out
  have hl4 := HB2.out.lt
  have hl5 := HR2.out.lt
  have hl6 := HV2.out.lt
  have hn5 : ¬ w.heap.size = w2.heap.size := by omega
  have hn6 : ¬ w.heap.size + 1 = w2.heap.size := by omega
  have hn7 : ¬ w2.heap.size = w.heap.size := by omega
  have hn8 : ¬ w2.heap.size = w.heap.size + 1 := by omega
  have hn9 : ¬ w1.heap.size = w2.heap.size := by omega
  have hn10 : ¬ w2.heap.size = w1.heap.size := by omega
  by_cases hey : ey = 0
  case neg =>
    go_wp2_with fail
    exact bodyPost_ret (ret_ev rfl _ (w.heap.size + 1) rfl _ rfl _ _ _ _ (Blk.alloc (blkPut3 HR2.out _ _ _) _)) rfl ⟨⟨0, 0, [], ey, rfl, ⟨by decide, Nat.zero_le _⟩, kx, ix, tx, 0, HPX1.out, fun _ h => absurd h hop14, (fun _ h => ⟨ky, iy, ty, ey, HPY1.out, fun h => absurd h hey⟩)⟩, (frPut3 HF2.out (.inr (by omega)) _ _ _).alloc _⟩
  subst hey
  go_wp2_with fail
  refine (two_any op kx ix ky iy tx ty (by omega) (by omega) (HPX.out _ _ _ _ HPX1.out) (HPY.out _ _ _ _ HPY1.out) _).mono ?_
  rintro e w3 ⟨he, hf3⟩
  obtain ⟨kr, ir, tr, er, rfl, hpr⟩ := he.ex
  have HPR := Lib.hid hpr
  have hfz := ((Fr.refl [] w2).alloc _).trans hf3
  have HR3 := Lib.hid (HR2.out.keep hfz (by simp))
  have HF3 := Lib.hid (HF2.out.trans hfz)
  clear v0 v1 v2 f0 f1 f2 hf3 hfz he hpr
  obtain ⟨v0, v1, v2, f0, f1, f2⟩ := c3_of HR3.out
  have hl7 := HR3.out.lt
  go_wp2_with fail
  exact bodyPost_ret (ret_ev rfl _ (w.heap.size + 1) rfl _ rfl _ _ _ _ (blkPut3 HR3.out _ _ _)) rfl ⟨⟨kr, ir, tr, er, rfl, HPR.out.1, kx, ix, tx, 0, HPX1.out, fun _ h => absurd h hop14, (fun _ h => ⟨ky, iy, ty, 0, HPY1.out, fun _ h1 h2 => HPR.out.2 h h1 h2⟩)⟩, frPut3 HF3.out (.inr (by omega)) _ _ _⟩
set_option maxRecDepth 1000000 in
set_option maxHeartbeats 4000000 in
theorem ev_and (vc vv : Value) (Px Py : Int → Int → B → Int → Prop) (hPx : ∀ k i t x, Px k i t x → Fine i t) (hPy : ∀ k i t x, Py k i t x → Fine i t) (xk xi : Int) (xz xt xm : B) (x y : Ex) (xa : Option Addr) (xn xc : Nat) (A : Nat → Prop) (w : World) (h : Rep.Es 41 A w [x, y] (.slice xa xn xc)) (hx : EvA vc vv w x Px) (hy : EvA vc vv w y Py) :
    Calls Tryd.prog 44 #[vc, vv, .agg #[.int .i64 14, .int .i64 xk, .int .i64 xi, .string ⟨xz.toArray⟩, .string ⟨xt.toArray⟩, .string ⟨xm.toArray⟩, .slice xa xn xc]] w fun e w' => EvR (BinP 14 Px Py) e ∧ Fr [] w w' := by
  obtain ⟨gp, offp, capp, ysp, hvp, hcapp, -, hyp, hcp⟩ := Rep.Es.at h 0 (by simp)
  simp only [Value.slice.injEq] at hvp
  obtain ⟨rfl, rfl, rfl⟩ := hvp
  simp only [List.getElem_cons_zero, List.getElem_cons_succ] at hyp
  have HYp := Lib.hid hyp
  obtain ⟨po, pk, pi, pz, pt, pm, pg, pa, pn, pc, hpx, rfl, -⟩ := Sm.e_cells hyp
  obtain ⟨gq, offq, capq, ysq, hvq, hcapq, -, hyq, hcq⟩ := Rep.Es.at h 1 (by simp)
  simp only [Value.slice.injEq] at hvq
  simp only [Option.some.injEq, Addr.mk.injEq, and_true] at hvq
  obtain ⟨⟨rfl, rfl⟩, -, rfl⟩ := hvq
  simp only [List.getElem_cons_zero, List.getElem_cons_succ] at hyq
  have HYq := Lib.hid hyq
  obtain ⟨qo, qk, qi, qz, qt, qm, qg, qa, qn, qc, hqx, rfl, -⟩ := Sm.e_cells hyq
  have hgl : gp < w.heap.size := World.block_lt_of_cell? w _ (hcp 0 _ rfl)
  have hxc : (2 : Int) ≤ xc := by simp at hcapp; omega
  have HKp : Hid (∀ W, Fr [] w W → W.cell? ⟨gp, offp, none⟩ = some (.int .i64 po) ∧ W.cell? ⟨gp, offp + 1, none⟩ = some (.int .i64 pk) ∧ W.cell? ⟨gp, offp + 2, none⟩ = some (.int .i64 pi) ∧ W.cell? ⟨gp, offp + 3, none⟩ = some (.string ⟨pz.toArray⟩) ∧ W.cell? ⟨gp, offp + 4, none⟩ = some (.string ⟨pt.toArray⟩) ∧ W.cell? ⟨gp, offp + 5, none⟩ = some (.string ⟨pm.toArray⟩) ∧ W.cell? ⟨gp, offp + 6, none⟩ = some (.slice pa pn pc)) := Lib.hid (fun W hW => by
    have c0 := (hW.cell (p := ⟨gp, offp + 0 * 7, none⟩) hgl (by simp)).trans (hcp 0 _ rfl)
    have c1 := (hW.cell (p := ⟨gp, offp + 0 * 7 + 1, none⟩) hgl (by simp)).trans (hcp 1 _ rfl)
    have c2 := (hW.cell (p := ⟨gp, offp + 0 * 7 + 2, none⟩) hgl (by simp)).trans (hcp 2 _ rfl)
    have c3 := (hW.cell (p := ⟨gp, offp + 0 * 7 + 3, none⟩) hgl (by simp)).trans (hcp 3 _ rfl)
    have c4 := (hW.cell (p := ⟨gp, offp + 0 * 7 + 4, none⟩) hgl (by simp)).trans (hcp 4 _ rfl)
    have c5 := (hW.cell (p := ⟨gp, offp + 0 * 7 + 5, none⟩) hgl (by simp)).trans (hcp 5 _ rfl)
    have c6 := (hW.cell (p := ⟨gp, offp + 0 * 7 + 6, none⟩) hgl (by simp)).trans (hcp 6 _ rfl)
    simp only [Nat.zero_mul, Nat.one_mul, Nat.add_zero] at c0 c1 c2 c3 c4 c5 c6
    exact ⟨c0, c1, c2, c3, c4, c5, c6⟩)
  have HKq : Hid (∀ W, Fr [] w W → W.cell? ⟨gp, offp + 7, none⟩ = some (.int .i64 qo) ∧ W.cell? ⟨gp, offp + 7 + 1, none⟩ = some (.int .i64 qk) ∧ W.cell? ⟨gp, offp + 7 + 2, none⟩ = some (.int .i64 qi) ∧ W.cell? ⟨gp, offp + 7 + 3, none⟩ = some (.string ⟨qz.toArray⟩) ∧ W.cell? ⟨gp, offp + 7 + 4, none⟩ = some (.string ⟨qt.toArray⟩) ∧ W.cell? ⟨gp, offp + 7 + 5, none⟩ = some (.string ⟨qm.toArray⟩) ∧ W.cell? ⟨gp, offp + 7 + 6, none⟩ = some (.slice qa qn qc)) := Lib.hid (fun W hW => by
    have c0 := (hW.cell (p := ⟨gp, offp + 1 * 7, none⟩) hgl (by simp)).trans (hcq 0 _ rfl)
    have c1 := (hW.cell (p := ⟨gp, offp + 1 * 7 + 1, none⟩) hgl (by simp)).trans (hcq 1 _ rfl)
    have c2 := (hW.cell (p := ⟨gp, offp + 1 * 7 + 2, none⟩) hgl (by simp)).trans (hcq 2 _ rfl)
    have c3 := (hW.cell (p := ⟨gp, offp + 1 * 7 + 3, none⟩) hgl (by simp)).trans (hcq 3 _ rfl)
    have c4 := (hW.cell (p := ⟨gp, offp + 1 * 7 + 4, none⟩) hgl (by simp)).trans (hcq 4 _ rfl)
    have c5 := (hW.cell (p := ⟨gp, offp + 1 * 7 + 5, none⟩) hgl (by simp)).trans (hcq 5 _ rfl)
    have c6 := (hW.cell (p := ⟨gp, offp + 1 * 7 + 6, none⟩) hgl (by simp)).trans (hcq 6 _ rfl)
    simp only [Nat.zero_mul, Nat.one_mul, Nat.add_zero] at c0 c1 c2 c3 c4 c5 c6
    exact ⟨c0, c1, c2, c3, c4, c5, c6⟩)
  have HXX := Lib.hid hx
  have HYY := Lib.hid hy
  have HPX := Lib.hid hPx
  have HPY := Lib.hid hPy
  have HF0 : Hid (Fr [] w ((w.alloc (.cells #[.int .i64 14, .int .i64 xk, .int .i64 xi, .string ⟨xz.toArray⟩, .string ⟨xt.toArray⟩, .string ⟨xm.toArray⟩, .slice (some ⟨gp, offp, none⟩) 2 xc] 41)).alloc (.cells #[.int .i64 0, .int .i64 0, .string ⟨#[]⟩] 38))) := Lib.hid (((Fr.refl [] w).alloc _).alloc _)
  have HB0 := Lib.hid ((Blk.new w 41 [.int .i64 14, .int .i64 xk, .int .i64 xi, .string ⟨xz.toArray⟩, .string ⟨xt.toArray⟩, .string ⟨xm.toArray⟩, .slice (some ⟨gp, offp, none⟩) 2 xc]).alloc (.cells #[.int .i64 0, .int .i64 0, .string ⟨#[]⟩] 38))
  have hr0 := Blk.new (w.alloc (.cells #[.int .i64 14, .int .i64 xk, .int .i64 xi, .string ⟨xz.toArray⟩, .string ⟨xt.toArray⟩, .string ⟨xm.toArray⟩, .slice (some ⟨gp, offp, none⟩) 2 xc] 41)) 38 [.int .i64 0, .int .i64 0, .string ⟨#[]⟩]
  rw [World.size_alloc] at hr0
  have HR0 := Lib.hid hr0
  clear h hx hy hPx hPy hr0 hcp hcq hyp hyq hcapp hcapq hpx hqx
  simp only [List.length_cons, List.length_nil, Nat.zero_add]
  go_enter Tryd.func44, Tryd.ntmps44
  go_upto_region 1 with fail
  generalize (w.alloc (.cells #[.int .i64 14, .int .i64 xk, .int .i64 xi, .string ⟨xz.toArray⟩, .string ⟨xt.toArray⟩, .string ⟨xm.toArray⟩, .slice (some ⟨gp, offp, none⟩) 2 xc] 41)).alloc (.cells #[.int .i64 0, .int .i64 0, .string ⟨#[]⟩] 38) = w0 at HF0 HB0 HR0 ⊢
  obtain ⟨z0, z1, z2, z3, z4, z5, z6⟩ := HKp.out w0 HF0.out
  obtain ⟨k0, k1, k2, k3, k4, k5, k6, -⟩ := c7_of HB0.out
  have hl0 := HB0.out.lt
  have hl1 := HR0.out.lt
  have hgw : gp < w0.heap.size := Nat.lt_of_lt_of_le hgl HF0.out.size
  go_wp2_with fail
  refine (HXX.out A w0 _ HF0.out (Rep.E.keep HF0.out (by simp) HYp.out)).mono ?_
  rintro e w1 ⟨he, hf1⟩
  obtain ⟨kx, ix, tx, ex, rfl, hpx⟩ := he.ex
  have HPX1 := Lib.hid hpx
  have HB1 := Lib.hid (HB0.out.keep hf1 (by simp))
  have HR1 := Lib.hid (HR0.out.keep hf1 (by simp))
  have HF1 := Lib.hid (HF0.out.trans hf1)
  clear he hpx hf1 z0 z1 z2 z3 z4 z5 z6 k0 k1 k2 k3 k4 k5 k6 HB0 HR0 HF0
  obtain ⟨k0, k1, k2, k3, k4, k5, k6, -⟩ := c7_of HB1.out
  obtain ⟨v0, v1, v2, f0, f1, f2⟩ := c3_of HR1.out
  have hl2 := HB1.out.lt
  have hl3 := HR1.out.lt
  have hn1 : ¬ w.heap.size = w1.heap.size := by omega
  have hn2 : ¬ w.heap.size + 1 = w1.heap.size := by omega
  have hn3 : ¬ w1.heap.size = w.heap.size := by omega
  have hn4 : ¬ w1.heap.size = w.heap.size + 1 := by omega
  by_cases hex : ex = 0
  case neg =>
    go_wp2_with fail
    exact bodyPost_ret (ret_ev rfl _ (w.heap.size + 1) rfl _ rfl _ _ _ _ (Blk.alloc (blkPut3 HR1.out _ _ _) _)) rfl ⟨⟨0, 0, [], ex, rfl, ⟨by decide, Nat.zero_le _⟩, kx, ix, tx, ex, HPX1.out, fun h => absurd h hex, fun h => absurd h hex⟩, (frPut3 HF1.out (.inr (by omega)) _ _ _).alloc _⟩
  subst hex
  by_cases hix : ix = 0
  · subst hix
    go_wp2_with fail
    refine (truth_any _ _).mono ?_
    rintro e w2 ⟨rfl, hf2⟩
    have hfz := ((Fr.refl [] w1).alloc _).trans hf2
    have HR2 := Lib.hid (HR1.out.keep hfz (by simp))
    have HF2 := Lib.hid (HF1.out.trans hfz)
    clear v0 v1 v2 f0 f1 f2 hf2 hfz
    obtain ⟨v0, v1, v2, f0, f1, f2⟩ := c3_of HR2.out
    have hl4 := HR2.out.lt
    go_wp2_with fail
    exact bodyPost_ret (ret_ev rfl _ (w.heap.size + 1) rfl _ rfl _ _ _ _ (blkPut3 HR2.out _ _ _)) rfl ⟨⟨3, 0, [], 0, rfl, ⟨by decide, Nat.zero_le _⟩, kx, 0, tx, 0, HPX1.out, fun _ _ _ => ⟨rfl, rfl, rfl⟩, fun _ h => absurd h (by decide)⟩, frPut3 HF2.out (.inr (by omega)) _ _ _⟩
  · skip
    have hf1a := (Fr.refl [] w1).alloc (.cells #[.int .i64 kx, .int .i64 ix, .string ⟨tx.toArray⟩] 38)
    obtain ⟨z0, z1, z2, z3, z4, z5, z6⟩ := HKq.out w1 HF1.out
    have hgw1 : gp < w1.heap.size := Nat.lt_of_lt_of_le hgl HF1.out.size
    have hgn : ¬ gp = w1.heap.size := by omega
    have hgn2 : ¬ w1.heap.size = gp := by omega
    have HFa := Lib.hid (HF1.out.trans hf1a)
    have HVB := Lib.hid (Blk.new w1 38 [.int .i64 kx, .int .i64 ix, .string ⟨tx.toArray⟩])
    have HBa := Lib.hid (HB1.out.keep hf1a (by simp))
    have HRa := Lib.hid (HR1.out.keep hf1a (by simp))
    clear hf1a
    go_wp2_with fail
    refine (HYY.out A _ _ HFa.out (Rep.E.keep HFa.out (by simp) HYq.out)).mono ?_
    rintro e w2 ⟨he, hf2⟩
    obtain ⟨ky, iy, ty, ey, rfl, hpy⟩ := he.ex
    have HPY1 := Lib.hid hpy
    have HB2 := Lib.hid (HBa.out.keep hf2 (by simp))
    have HR2 := Lib.hid (HRa.out.keep hf2 (by simp))
    have HV2 := Lib.hid (HVB.out.keep hf2 (by simp))
    have HF2 := Lib.hid (HFa.out.trans hf2)
    clear he hpy hf2 z0 z1 z2 z3 z4 z5 z6 k0 k1 k2 k3 k4 k5 k6 v0 v1 v2 f0 f1 f2 HBa HRa HVB HFa
    obtain ⟨k0, k1, k2, k3, k4, k5, k6, -⟩ := c7_of HB2.out
    obtain ⟨v0, v1, v2, f0, f1, f2⟩ := c3_of HR2.out
    obtain ⟨a0, a1, a2, -, -, -⟩ := c3_of HV2.out
    have hl4 := HB2.out.lt
    have hl5 := HR2.out.lt
    have hl6 := HV2.out.lt
    have hn5 : ¬ w.heap.size = w2.heap.size := by omega
    have hn6 : ¬ w.heap.size + 1 = w2.heap.size := by omega
    have hn7 : ¬ w2.heap.size = w.heap.size := by omega
    have hn8 : ¬ w2.heap.size = w.heap.size + 1 := by omega
    have hn9 : ¬ w1.heap.size = w2.heap.size := by omega
    have hn10 : ¬ w2.heap.size = w1.heap.size := by omega
    by_cases hey : ey = 0
    case neg =>
      go_wp2_with fail
      exact bodyPost_ret (ret_ev rfl _ (w.heap.size + 1) rfl _ rfl _ _ _ _ (Blk.alloc (blkPut3 HR2.out _ _ _) _)) rfl ⟨⟨0, 0, [], ey, rfl, ⟨by decide, Nat.zero_le _⟩, kx, ix, tx, 0, HPX1.out, fun _ _ h => absurd h hix, fun _ h => absurd h (by decide)⟩, (frPut3 HF2.out (.inr (by omega)) _ _ _).alloc _⟩
    subst hey
    go_wp2_with fail
    refine (two_any 14 kx ix ky iy tx ty (by omega) (by omega) (HPX.out _ _ _ _ HPX1.out) (HPY.out _ _ _ _ HPY1.out) _).mono ?_
    rintro e w3 ⟨he, hf3⟩
    obtain ⟨kr, ir, tr, er, rfl, hpr⟩ := he.ex
    have HPR := Lib.hid hpr
    have hfz := ((Fr.refl [] w2).alloc _).trans hf3
    have HR3 := Lib.hid (HR2.out.keep hfz (by simp))
    have HF3 := Lib.hid (HF2.out.trans hfz)
    clear v0 v1 v2 f0 f1 f2 hf3 hfz he hpr
    obtain ⟨v0, v1, v2, f0, f1, f2⟩ := c3_of HR3.out
    have hl7 := HR3.out.lt
    go_wp2_with fail
    exact bodyPost_ret (ret_ev rfl _ (w.heap.size + 1) rfl _ rfl _ _ _ _ (blkPut3 HR3.out _ _ _)) rfl ⟨⟨kr, ir, tr, er, rfl, HPR.out.1, kx, ix, tx, 0, HPX1.out, fun _ _ h => absurd h hix, fun _ h => absurd h (by decide)⟩, frPut3 HF3.out (.inr (by omega)) _ _ _⟩
set_option maxRecDepth 1000000 in
set_option maxHeartbeats 4000000 in
theorem ev_or (vc vv : Value) (Px Py : Int → Int → B → Int → Prop) (hPx : ∀ k i t x, Px k i t x → Fine i t) (hPy : ∀ k i t x, Py k i t x → Fine i t) (xk xi : Int) (xz xt xm : B) (x y : Ex) (xa : Option Addr) (xn xc : Nat) (A : Nat → Prop) (w : World) (h : Rep.Es 41 A w [x, y] (.slice xa xn xc)) (hx : EvA vc vv w x Px) (hy : EvA vc vv w y Py) :
    Calls Tryd.prog 44 #[vc, vv, .agg #[.int .i64 15, .int .i64 xk, .int .i64 xi, .string ⟨xz.toArray⟩, .string ⟨xt.toArray⟩, .string ⟨xm.toArray⟩, .slice xa xn xc]] w fun e w' => EvR (BinP 15 Px Py) e ∧ Fr [] w w' := by
  obtain ⟨gp, offp, capp, ysp, hvp, hcapp, -, hyp, hcp⟩ := Rep.Es.at h 0 (by simp)
  simp only [Value.slice.injEq] at hvp
  obtain ⟨rfl, rfl, rfl⟩ := hvp
  simp only [List.getElem_cons_zero, List.getElem_cons_succ] at hyp
  have HYp := Lib.hid hyp
  obtain ⟨po, pk, pi, pz, pt, pm, pg, pa, pn, pc, hpx, rfl, -⟩ := Sm.e_cells hyp
  obtain ⟨gq, offq, capq, ysq, hvq, hcapq, -, hyq, hcq⟩ := Rep.Es.at h 1 (by simp)
  simp only [Value.slice.injEq] at hvq
  simp only [Option.some.injEq, Addr.mk.injEq, and_true] at hvq
  obtain ⟨⟨rfl, rfl⟩, -, rfl⟩ := hvq
  simp only [List.getElem_cons_zero, List.getElem_cons_succ] at hyq
  have HYq := Lib.hid hyq
  obtain ⟨qo, qk, qi, qz, qt, qm, qg, qa, qn, qc, hqx, rfl, -⟩ := Sm.e_cells hyq
  have hgl : gp < w.heap.size := World.block_lt_of_cell? w _ (hcp 0 _ rfl)
  have hxc : (2 : Int) ≤ xc := by simp at hcapp; omega
  have HKp : Hid (∀ W, Fr [] w W → W.cell? ⟨gp, offp, none⟩ = some (.int .i64 po) ∧ W.cell? ⟨gp, offp + 1, none⟩ = some (.int .i64 pk) ∧ W.cell? ⟨gp, offp + 2, none⟩ = some (.int .i64 pi) ∧ W.cell? ⟨gp, offp + 3, none⟩ = some (.string ⟨pz.toArray⟩) ∧ W.cell? ⟨gp, offp + 4, none⟩ = some (.string ⟨pt.toArray⟩) ∧ W.cell? ⟨gp, offp + 5, none⟩ = some (.string ⟨pm.toArray⟩) ∧ W.cell? ⟨gp, offp + 6, none⟩ = some (.slice pa pn pc)) := Lib.hid (fun W hW => by
    have c0 := (hW.cell (p := ⟨gp, offp + 0 * 7, none⟩) hgl (by simp)).trans (hcp 0 _ rfl)
    have c1 := (hW.cell (p := ⟨gp, offp + 0 * 7 + 1, none⟩) hgl (by simp)).trans (hcp 1 _ rfl)
    have c2 := (hW.cell (p := ⟨gp, offp + 0 * 7 + 2, none⟩) hgl (by simp)).trans (hcp 2 _ rfl)
    have c3 := (hW.cell (p := ⟨gp, offp + 0 * 7 + 3, none⟩) hgl (by simp)).trans (hcp 3 _ rfl)
    have c4 := (hW.cell (p := ⟨gp, offp + 0 * 7 + 4, none⟩) hgl (by simp)).trans (hcp 4 _ rfl)
    have c5 := (hW.cell (p := ⟨gp, offp + 0 * 7 + 5, none⟩) hgl (by simp)).trans (hcp 5 _ rfl)
    have c6 := (hW.cell (p := ⟨gp, offp + 0 * 7 + 6, none⟩) hgl (by simp)).trans (hcp 6 _ rfl)
    simp only [Nat.zero_mul, Nat.one_mul, Nat.add_zero] at c0 c1 c2 c3 c4 c5 c6
    exact ⟨c0, c1, c2, c3, c4, c5, c6⟩)
  have HKq : Hid (∀ W, Fr [] w W → W.cell? ⟨gp, offp + 7, none⟩ = some (.int .i64 qo) ∧ W.cell? ⟨gp, offp + 7 + 1, none⟩ = some (.int .i64 qk) ∧ W.cell? ⟨gp, offp + 7 + 2, none⟩ = some (.int .i64 qi) ∧ W.cell? ⟨gp, offp + 7 + 3, none⟩ = some (.string ⟨qz.toArray⟩) ∧ W.cell? ⟨gp, offp + 7 + 4, none⟩ = some (.string ⟨qt.toArray⟩) ∧ W.cell? ⟨gp, offp + 7 + 5, none⟩ = some (.string ⟨qm.toArray⟩) ∧ W.cell? ⟨gp, offp + 7 + 6, none⟩ = some (.slice qa qn qc)) := Lib.hid (fun W hW => by
    have c0 := (hW.cell (p := ⟨gp, offp + 1 * 7, none⟩) hgl (by simp)).trans (hcq 0 _ rfl)
    have c1 := (hW.cell (p := ⟨gp, offp + 1 * 7 + 1, none⟩) hgl (by simp)).trans (hcq 1 _ rfl)
    have c2 := (hW.cell (p := ⟨gp, offp + 1 * 7 + 2, none⟩) hgl (by simp)).trans (hcq 2 _ rfl)
    have c3 := (hW.cell (p := ⟨gp, offp + 1 * 7 + 3, none⟩) hgl (by simp)).trans (hcq 3 _ rfl)
    have c4 := (hW.cell (p := ⟨gp, offp + 1 * 7 + 4, none⟩) hgl (by simp)).trans (hcq 4 _ rfl)
    have c5 := (hW.cell (p := ⟨gp, offp + 1 * 7 + 5, none⟩) hgl (by simp)).trans (hcq 5 _ rfl)
    have c6 := (hW.cell (p := ⟨gp, offp + 1 * 7 + 6, none⟩) hgl (by simp)).trans (hcq 6 _ rfl)
    simp only [Nat.zero_mul, Nat.one_mul, Nat.add_zero] at c0 c1 c2 c3 c4 c5 c6
    exact ⟨c0, c1, c2, c3, c4, c5, c6⟩)
  have HXX := Lib.hid hx
  have HYY := Lib.hid hy
  have HPX := Lib.hid hPx
  have HPY := Lib.hid hPy
  have HF0 : Hid (Fr [] w ((w.alloc (.cells #[.int .i64 15, .int .i64 xk, .int .i64 xi, .string ⟨xz.toArray⟩, .string ⟨xt.toArray⟩, .string ⟨xm.toArray⟩, .slice (some ⟨gp, offp, none⟩) 2 xc] 41)).alloc (.cells #[.int .i64 0, .int .i64 0, .string ⟨#[]⟩] 38))) := Lib.hid (((Fr.refl [] w).alloc _).alloc _)
  have HB0 := Lib.hid ((Blk.new w 41 [.int .i64 15, .int .i64 xk, .int .i64 xi, .string ⟨xz.toArray⟩, .string ⟨xt.toArray⟩, .string ⟨xm.toArray⟩, .slice (some ⟨gp, offp, none⟩) 2 xc]).alloc (.cells #[.int .i64 0, .int .i64 0, .string ⟨#[]⟩] 38))
  have hr0 := Blk.new (w.alloc (.cells #[.int .i64 15, .int .i64 xk, .int .i64 xi, .string ⟨xz.toArray⟩, .string ⟨xt.toArray⟩, .string ⟨xm.toArray⟩, .slice (some ⟨gp, offp, none⟩) 2 xc] 41)) 38 [.int .i64 0, .int .i64 0, .string ⟨#[]⟩]
  rw [World.size_alloc] at hr0
  have HR0 := Lib.hid hr0
  clear h hx hy hPx hPy hr0 hcp hcq hyp hyq hcapp hcapq hpx hqx
  simp only [List.length_cons, List.length_nil, Nat.zero_add]
  go_enter Tryd.func44, Tryd.ntmps44
  go_upto_region 1 with fail
  generalize (w.alloc (.cells #[.int .i64 15, .int .i64 xk, .int .i64 xi, .string ⟨xz.toArray⟩, .string ⟨xt.toArray⟩, .string ⟨xm.toArray⟩, .slice (some ⟨gp, offp, none⟩) 2 xc] 41)).alloc (.cells #[.int .i64 0, .int .i64 0, .string ⟨#[]⟩] 38) = w0 at HF0 HB0 HR0 ⊢
  obtain ⟨z0, z1, z2, z3, z4, z5, z6⟩ := HKp.out w0 HF0.out
  obtain ⟨k0, k1, k2, k3, k4, k5, k6, -⟩ := c7_of HB0.out
  have hl0 := HB0.out.lt
  have hl1 := HR0.out.lt
  have hgw : gp < w0.heap.size := Nat.lt_of_lt_of_le hgl HF0.out.size
  go_wp2_with fail
  refine (HXX.out A w0 _ HF0.out (Rep.E.keep HF0.out (by simp) HYp.out)).mono ?_
  rintro e w1 ⟨he, hf1⟩
  obtain ⟨kx, ix, tx, ex, rfl, hpx⟩ := he.ex
  have HPX1 := Lib.hid hpx
  have HB1 := Lib.hid (HB0.out.keep hf1 (by simp))
  have HR1 := Lib.hid (HR0.out.keep hf1 (by simp))
  have HF1 := Lib.hid (HF0.out.trans hf1)
  clear he hpx hf1 z0 z1 z2 z3 z4 z5 z6 k0 k1 k2 k3 k4 k5 k6 HB0 HR0 HF0
  obtain ⟨k0, k1, k2, k3, k4, k5, k6, -⟩ := c7_of HB1.out
  obtain ⟨v0, v1, v2, f0, f1, f2⟩ := c3_of HR1.out
  have hl2 := HB1.out.lt
  have hl3 := HR1.out.lt
  have hn1 : ¬ w.heap.size = w1.heap.size := by omega
  have hn2 : ¬ w.heap.size + 1 = w1.heap.size := by omega
  have hn3 : ¬ w1.heap.size = w.heap.size := by omega
  have hn4 : ¬ w1.heap.size = w.heap.size + 1 := by omega
  by_cases hex : ex = 0
  case neg =>
    go_wp2_with fail
    exact bodyPost_ret (ret_ev rfl _ (w.heap.size + 1) rfl _ rfl _ _ _ _ (Blk.alloc (blkPut3 HR1.out _ _ _) _)) rfl ⟨⟨0, 0, [], ex, rfl, ⟨by decide, Nat.zero_le _⟩, kx, ix, tx, ex, HPX1.out, fun h => absurd h hex, fun h => absurd h hex⟩, (frPut3 HF1.out (.inr (by omega)) _ _ _).alloc _⟩
  subst hex
  by_cases hix : ix = 1
  · subst hix
    go_wp2_with fail
    refine (truth_any _ _).mono ?_
    rintro e w2 ⟨rfl, hf2⟩
    have hfz := ((Fr.refl [] w1).alloc _).trans hf2
    have HR2 := Lib.hid (HR1.out.keep hfz (by simp))
    have HF2 := Lib.hid (HF1.out.trans hfz)
    clear v0 v1 v2 f0 f1 f2 hf2 hfz
    obtain ⟨v0, v1, v2, f0, f1, f2⟩ := c3_of HR2.out
    have hl4 := HR2.out.lt
    go_wp2_with fail
    exact bodyPost_ret (ret_ev rfl _ (w.heap.size + 1) rfl _ rfl _ _ _ _ (blkPut3 HR2.out _ _ _)) rfl ⟨⟨3, 1, [], 0, rfl, ⟨by decide, Nat.zero_le _⟩, kx, 1, tx, 0, HPX1.out, fun _ h => absurd h (by decide), fun _ h => absurd h (by decide)⟩, frPut3 HF2.out (.inr (by omega)) _ _ _⟩
  · skip
    have hf1a := (Fr.refl [] w1).alloc (.cells #[.int .i64 kx, .int .i64 ix, .string ⟨tx.toArray⟩] 38)
    obtain ⟨z0, z1, z2, z3, z4, z5, z6⟩ := HKq.out w1 HF1.out
    have hgw1 : gp < w1.heap.size := Nat.lt_of_lt_of_le hgl HF1.out.size
    have hgn : ¬ gp = w1.heap.size := by omega
    have hgn2 : ¬ w1.heap.size = gp := by omega
    have HFa := Lib.hid (HF1.out.trans hf1a)
    have HVB := Lib.hid (Blk.new w1 38 [.int .i64 kx, .int .i64 ix, .string ⟨tx.toArray⟩])
    have HBa := Lib.hid (HB1.out.keep hf1a (by simp))
    have HRa := Lib.hid (HR1.out.keep hf1a (by simp))
    clear hf1a
    go_wp2_with fail
    refine (HYY.out A _ _ HFa.out (Rep.E.keep HFa.out (by simp) HYq.out)).mono ?_
    rintro e w2 ⟨he, hf2⟩
    obtain ⟨ky, iy, ty, ey, rfl, hpy⟩ := he.ex
    have HPY1 := Lib.hid hpy
    have HB2 := Lib.hid (HBa.out.keep hf2 (by simp))
    have HR2 := Lib.hid (HRa.out.keep hf2 (by simp))
    have HV2 := Lib.hid (HVB.out.keep hf2 (by simp))
    have HF2 := Lib.hid (HFa.out.trans hf2)
    clear he hpy hf2 z0 z1 z2 z3 z4 z5 z6 k0 k1 k2 k3 k4 k5 k6 v0 v1 v2 f0 f1 f2 HBa HRa HVB HFa
    obtain ⟨k0, k1, k2, k3, k4, k5, k6, -⟩ := c7_of HB2.out
    obtain ⟨v0, v1, v2, f0, f1, f2⟩ := c3_of HR2.out
    obtain ⟨a0, a1, a2, -, -, -⟩ := c3_of HV2.out
    have hl4 := HB2.out.lt
    have hl5 := HR2.out.lt
    have hl6 := HV2.out.lt
    have hn5 : ¬ w.heap.size = w2.heap.size := by omega
    have hn6 : ¬ w.heap.size + 1 = w2.heap.size := by omega
    have hn7 : ¬ w2.heap.size = w.heap.size := by omega
    have hn8 : ¬ w2.heap.size = w.heap.size + 1 := by omega
    have hn9 : ¬ w1.heap.size = w2.heap.size := by omega
    have hn10 : ¬ w2.heap.size = w1.heap.size := by omega
    by_cases hey : ey = 0
    case neg =>
      go_wp2_with fail
      exact bodyPost_ret (ret_ev rfl _ (w.heap.size + 1) rfl _ rfl _ _ _ _ (Blk.alloc (blkPut3 HR2.out _ _ _) _)) rfl ⟨⟨0, 0, [], ey, rfl, ⟨by decide, Nat.zero_le _⟩, kx, ix, tx, 0, HPX1.out, fun _ h => absurd h (by decide), fun _ h => absurd h (by decide)⟩, (frPut3 HF2.out (.inr (by omega)) _ _ _).alloc _⟩
    subst hey
    go_wp2_with fail
    refine (two_any 15 kx ix ky iy tx ty (by omega) (by omega) (HPX.out _ _ _ _ HPX1.out) (HPY.out _ _ _ _ HPY1.out) _).mono ?_
    rintro e w3 ⟨he, hf3⟩
    obtain ⟨kr, ir, tr, er, rfl, hpr⟩ := he.ex
    have HPR := Lib.hid hpr
    have hfz := ((Fr.refl [] w2).alloc _).trans hf3
    have HR3 := Lib.hid (HR2.out.keep hfz (by simp))
    have HF3 := Lib.hid (HF2.out.trans hfz)
    clear v0 v1 v2 f0 f1 f2 hf3 hfz he hpr
    obtain ⟨v0, v1, v2, f0, f1, f2⟩ := c3_of HR3.out
    have hl7 := HR3.out.lt
    go_wp2_with fail
    exact bodyPost_ret (ret_ev rfl _ (w.heap.size + 1) rfl _ rfl _ _ _ _ (blkPut3 HR3.out _ _ _)) rfl ⟨⟨kr, ir, tr, er, rfl, HPR.out.1, kx, ix, tx, 0, HPX1.out, fun _ h => absurd h (by decide), fun _ h => absurd h (by decide)⟩, frPut3 HF3.out (.inr (by omega)) _ _ _⟩
end Pn
end Go.Proofs.YtmdnhinpaflamaaDoor
