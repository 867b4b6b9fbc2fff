/- The document's Eval: a literal, a column, of one thing. -/
import Derived.Test.YtmdnhinpaflamaaDoorPnS
namespace Go.Proofs.YtmdnhinpaflamaaDoor
open Go.RowKit
set_option linter.unusedVariables false
set_option linter.unusedSimpArgs false
namespace Pn
open PM (Ex B Col It)
open Gn (put3 frPut3 blkPut3 c3_of)
open Px (ItS itC)
def vC (v : Int × Int × B) : List Value := [.int .i64 v.1, .int .i64 v.2.1, .string ⟨v.2.2.toArray⟩]
abbrev ValS := Px.FlatS 38 vC 3
theorem atF_rng : ∀ (bs : List Bool) (i k : Int), 0 ≤ i → k < i → (atF bs i k).2 = 0 → 0 ≤ (atF bs i k).1 ∧ (atF bs i k).1 < i + bs.length
  | [], i, k, h0, hk, h => by
    unfold atF at h ⊢
    by_cases h1 : k < 0
    · rw [if_pos h1] at h; exact absurd h (by decide)
    · rw [if_neg h1] at h ⊢
      simp
      omega
  | b :: r, i, k, h0, hk, h => by
    unfold atF at h ⊢
    cases b with
    | true =>
      simp only [if_true] at h ⊢
      by_cases h1 : 0 ≤ k
      · rw [if_pos h1] at h; exact absurd h (by decide)
      · rw [if_neg h1] at h ⊢
        have := atF_rng r (i + 1) i (by omega) (by omega) h
        simp
        omega
    | false =>
      simp only [Bool.false_eq_true, if_false] at h ⊢
      have := atF_rng r (i + 1) k (by omega) (by omega) h
      simp
      omega
def LitP (k i : Int) (t : B) (k' i' : Int) (t' : B) (er : Int) : Prop := k' = k ∧ i' = i ∧ t' = t ∧ er = 0
def ColP (l : List It) (vals : List (Int × Int × B)) (tb nm : B) (k i : Int) (t : B) (er : Int) : Prop :=
  ((atF ((l.take vals.length).map (mt tb nm)) 0 (-1)).2 = 0 → er = 0 ∧ ∃ h : (atF ((l.take vals.length).map (mt tb nm)) 0 (-1)).1.toNat < vals.length, (k, i, t) = vals[(atF ((l.take vals.length).map (mt tb nm)) 0 (-1)).1.toNat]) ∧
  ((atF ((l.take vals.length).map (mt tb nm)) 0 (-1)).2 ≠ 0 → k = 0 ∧ i = 0 ∧ t = [])
set_option maxRecDepth 1000000 in
set_option maxHeartbeats 4000000 in
theorem ev_lit (vc vv : Value) (xk xi : Int) (xz xt xm : B) (xa : Option Addr) (xn xc : Nat) (w : World) :
    Calls Tryd.prog 44 #[vc, vv, .agg #[.int .i64 1, .int .i64 xk, .int .i64 xi, .string ⟨xz.toArray⟩, .string ⟨xt.toArray⟩, .string ⟨xm.toArray⟩, .slice xa xn xc]] w fun e w' => EvR (LitP xk xi xz) e ∧ Fr [] w w' := by
  have HF0 : Hid (Fr [] w ((w.alloc (.cells #[.int .i64 1, .int .i64 xk, .int .i64 xi, .string ⟨xz.toArray⟩, .string ⟨xt.toArray⟩, .string ⟨xm.toArray⟩, .slice xa xn xc] 41)).alloc (.cells #[.int .i64 0, .int .i64 0, .string ⟨#[]⟩] 38))) := Lib.hid (((Fr.refl [] w).alloc _).alloc _)
  have HB0 := Lib.hid ((Blk.new w 41 [.int .i64 1, .int .i64 xk, .int .i64 xi, .string ⟨xz.toArray⟩, .string ⟨xt.toArray⟩, .string ⟨xm.toArray⟩, .slice xa xn xc]).alloc (.cells #[.int .i64 0, .int .i64 0, .string ⟨#[]⟩] 38))
  have hr0 := Blk.new (w.alloc (.cells #[.int .i64 1, .int .i64 xk, .int .i64 xi, .string ⟨xz.toArray⟩, .string ⟨xt.toArray⟩, .string ⟨xm.toArray⟩, .slice xa xn xc] 41)) 38 [.int .i64 0, .int .i64 0, .string ⟨#[]⟩]
  rw [World.size_alloc] at hr0
  have HR0 := Lib.hid hr0
  clear hr0
  go_enter Tryd.func44, Tryd.ntmps44
  go_upto_region 1 with fail
  generalize (w.alloc (.cells #[.int .i64 1, .int .i64 xk, .int .i64 xi, .string ⟨xz.toArray⟩, .string ⟨xt.toArray⟩, .string ⟨xm.toArray⟩, .slice xa xn xc] 41)).alloc (.cells #[.int .i64 0, .int .i64 0, .string ⟨#[]⟩] 38) = w0 at HF0 HB0 HR0 ⊢
  obtain ⟨k0, k1, k2, k3, k4, k5, k6, -⟩ := Px.c7_of HB0.out
  obtain ⟨v0, v1, v2, f0, f1, f2⟩ := c3_of HR0.out
  have hl0 := HB0.out.lt
  have hl1 := HR0.out.lt
  go_wp2_with fail
  exact bodyPost_ret (ret_ev rfl _ (w.heap.size + 1) rfl _ rfl _ _ _ _ (blkPut3 HR0.out _ _ _)) rfl ⟨⟨xk, xi, xz, 0, rfl, rfl, rfl, rfl, rfl⟩, frPut3 HF0.out (.inr (by omega)) _ _ _⟩
set_option maxRecDepth 1000000 in
set_option maxHeartbeats 4000000 in
theorem ev_col (A A2 : Nat → Prop) (vc vv : Value) (l : List It) (vals : List (Int × Int × B)) (hvl : vals.length ≤ l.length) (hl : l.length ≤ 20) (xk xi : Int) (xz xt xm : B) (xa : Option Addr) (xn xc : Nat) (w : World) (hc : ItS A w vc l) (hv : ValS A2 w vv vals) :
    Calls Tryd.prog 44 #[vc, vv, .agg #[.int .i64 2, .int .i64 xk, .int .i64 xi, .string ⟨xz.toArray⟩, .string ⟨xt.toArray⟩, .string ⟨xm.toArray⟩, .slice xa xn xc]] w fun e w' => EvR (ColP l vals xt xm) e ∧ Fr [] w w' := by
  have hvf := hv
  obtain ⟨va, vn, vcap, rfl⟩ := Px.FlatS.form hv
  obtain ⟨rfl, hmx, hz⟩ := Sh.flat_form (cells := vC) (size := 3) (fun _ => rfl) hv
  have HZ := Lib.hid hz
  have hv0 : (vals.length : Int) ≤ 20 := by omega
  have HC := Lib.hid hc
  clear hvf hv hz hmx hc
  have HF0 : Hid (Fr [] w ((w.alloc (.cells #[.int .i64 2, .int .i64 xk, .int .i64 xi, .string ⟨xz.toArray⟩, .string ⟨xt.toArray⟩, .string ⟨xm.toArray⟩, .slice xa xn xc] 41)).alloc (.cells #[.int .i64 0, .int .i64 0, .string ⟨#[]⟩] 38))) := Lib.hid (((Fr.refl [] w).alloc _).alloc _)
  have HB0 := Lib.hid ((Blk.new w 41 [.int .i64 2, .int .i64 xk, .int .i64 xi, .string ⟨xz.toArray⟩, .string ⟨xt.toArray⟩, .string ⟨xm.toArray⟩, .slice xa xn xc]).alloc (.cells #[.int .i64 0, .int .i64 0, .string ⟨#[]⟩] 38))
  have hr0 := Blk.new (w.alloc (.cells #[.int .i64 2, .int .i64 xk, .int .i64 xi, .string ⟨xz.toArray⟩, .string ⟨xt.toArray⟩, .string ⟨xm.toArray⟩, .slice xa xn xc] 41)) 38 [.int .i64 0, .int .i64 0, .string ⟨#[]⟩]
  rw [World.size_alloc] at hr0
  have HR0 := Lib.hid hr0
  clear hr0
  go_enter Tryd.func44, Tryd.ntmps44
  go_upto_region 1 with fail
  generalize (w.alloc (.cells #[.int .i64 2, .int .i64 xk, .int .i64 xi, .string ⟨xz.toArray⟩, .string ⟨xt.toArray⟩, .string ⟨xm.toArray⟩, .slice xa xn xc] 41)).alloc (.cells #[.int .i64 0, .int .i64 0, .string ⟨#[]⟩] 38) = w0 at HF0 HB0 HR0 ⊢
  obtain ⟨k0, k1, k2, k3, k4, k5, k6, -⟩ := Px.c7_of HB0.out
  obtain ⟨v0, v1, v2, f0, f1, f2⟩ := c3_of HR0.out
  have hl0 := HB0.out.lt
  have hl1 := HR0.out.lt
  have HAT := Lib.hid (at_any A vc l vals.length hvl hl 2 xk xi xz xt xm xa xn xc w0 (Px.FlatS.keep HF0.out (by simp) HC.out))
  have hrng := atF_rng ((l.take vals.length).map (mt xt xm)) 0 (-1) (by decide) (by decide)
  rw [List.length_map, List.length_take] at hrng
  have HRNG := Lib.hid hrng
  clear hrng
  obtain ⟨r, hr⟩ : ∃ r, atF ((l.take vals.length).map (mt xt xm)) 0 (-1) = r := ⟨_, rfl⟩
  rw [hr] at HAT HRNG
  obtain ⟨r1, r2⟩ := r
  have HRQ := Lib.hid hr
  clear hr
  unfold AtR at HAT
  simp only at HAT
  go_wp2_with fail
  refine HAT.out.mono ?_
  rintro e w1 ⟨rfl, hf1⟩
  have HR1 := Lib.hid (HR0.out.keep hf1 (by simp))
  have HF1 := Lib.hid (HF0.out.trans hf1)
  clear hf1 v0 v1 v2 f0 f1 f2 k0 k1 k2 k3 k4 k5 k6
  obtain ⟨v0, v1, v2, f0, f1, f2⟩ := c3_of HR1.out
  have hl2 := HR1.out.lt
  by_cases hr2 : r2 = 0
  · subst hr2
    have hrr := HRNG.out rfl
    obtain ⟨k, rfl⟩ : ∃ k : Nat, r1 = k := ⟨r1.toNat, by have := hrr.1; omega⟩
    have hk : k < vals.length := by have := hrr.2; omega
    have hki : (k : Int) < vals.length := by omega
    obtain ⟨g, off, rfl, -, hg, hcap, hcell⟩ := HZ.out k hk
    have hci : (vals.length : Int) ≤ vcap := by omega
    have c0 := (HF1.out.cell (p := ⟨g, off + k * 3, none⟩) hg (by simp)).trans (hcell 0 _ rfl)
    have c1 := (HF1.out.cell (p := ⟨g, off + k * 3 + 1, none⟩) hg (by simp)).trans (hcell 1 _ rfl)
    have c2 := (HF1.out.cell (p := ⟨g, off + k * 3 + 2, none⟩) hg (by simp)).trans (hcell 2 _ rfl)
    have HQ : Hid (∀ k' i' t', (k', i', t') = vals[k] → ColP l vals xt xm k' i' t' 0) := Lib.hid (fun k' i' t' h => by unfold ColP; rw [HRQ.out]; exact ⟨fun _ => ⟨rfl, hk, h⟩, fun h => absurd rfl h⟩)
    obtain ⟨x, hx⟩ : ∃ x, vals[k] = x := ⟨_, rfl⟩
    rw [hx] at c0 c1 c2 HQ
    obtain ⟨yk, yi, yt⟩ := x
    clear hcell hx hrr
    go_wp2_with fail
    exact bodyPost_ret (ret_ev rfl _ (w.heap.size + 1) rfl _ rfl _ _ _ _ (blkPut3 HR1.out _ _ _)) rfl ⟨⟨yk, yi, yt, 0, rfl, HQ.out _ _ _ rfl⟩, frPut3 HF1.out (.inr (by omega)) _ _ _⟩
  · go_wp2_with fail
    exact bodyPost_ret (ret_ev rfl _ (w.heap.size + 1) rfl _ rfl _ _ _ _ (blkPut3 HR1.out _ _ _)) rfl ⟨⟨0, 0, [], r2, rfl, by unfold ColP; rw [HRQ.out]; exact ⟨fun h => absurd h hr2, fun _ => ⟨rfl, rfl, rfl⟩⟩⟩, frPut3 HF1.out (.inr (by omega)) _ _ _⟩
set_option maxRecDepth 1000000 in
set_option maxHeartbeats 4000000 in
theorem ev_neg (vc vv : Value) (xk xi : Int) (xz xt xm : B) (x : Ex) (xa : Option Addr) (xn xc : Nat) (A : Nat → Prop) (w : World) (h : Rep.Es 41 A w [x] (.slice xa xn xc)) (hx : EvA vc vv w x (fun _ i t _ => Fine i t)) :
    Calls Tryd.prog 44 #[vc, vv, .agg #[.int .i64 3, .int .i64 xk, .int .i64 xi, .string ⟨xz.toArray⟩, .string ⟨xt.toArray⟩, .string ⟨xm.toArray⟩, .slice xa xn xc]] w fun e w' => EvR (fun _ i t _ => Fine i t) e ∧ Fr [] w w' := by
  obtain ⟨gp, offp, capp, ysp, hvp, hcapp, -, hyp, hcp⟩ := Rep.Es.at h 0 (by simp)
  simp only [Value.slice.injEq] at hvp
  obtain ⟨rfl, rfl, rfl⟩ := hvp
  simp only [List.getElem_cons_zero, List.length_cons, List.length_nil, Nat.zero_add] at hyp hcapp ⊢
  have HYp := Lib.hid hyp
  obtain ⟨po, pk, pi, pz, pt, pm, pg, pa, pn, pc, hpx, rfl, -⟩ := Sm.e_cells hyp
  have hgl : gp < w.heap.size := World.block_lt_of_cell? w _ (hcp 0 _ rfl)
  have hxc : (1 : Int) ≤ xc := by omega
  have HXX := Lib.hid hx
  have HKp : Hid (∀ W, Fr [] w W → W.cell? ⟨gp, offp, none⟩ = some (.int .i64 po) ∧ W.cell? ⟨gp, offp + 1, none⟩ = some (.int .i64 pk) ∧ W.cell? ⟨gp, offp + 2, none⟩ = some (.int .i64 pi) ∧ W.cell? ⟨gp, offp + 3, none⟩ = some (.string ⟨pz.toArray⟩) ∧ W.cell? ⟨gp, offp + 4, none⟩ = some (.string ⟨pt.toArray⟩) ∧ W.cell? ⟨gp, offp + 5, none⟩ = some (.string ⟨pm.toArray⟩) ∧ W.cell? ⟨gp, offp + 6, none⟩ = some (.slice pa pn pc)) := Lib.hid (fun W hW => by
    have c0 := (hW.cell (p := ⟨gp, offp + 0 * 7, none⟩) hgl (by simp)).trans (hcp 0 _ rfl)
    have c1 := (hW.cell (p := ⟨gp, offp + 0 * 7 + 1, none⟩) hgl (by simp)).trans (hcp 1 _ rfl)
    have c2 := (hW.cell (p := ⟨gp, offp + 0 * 7 + 2, none⟩) hgl (by simp)).trans (hcp 2 _ rfl)
    have c3 := (hW.cell (p := ⟨gp, offp + 0 * 7 + 3, none⟩) hgl (by simp)).trans (hcp 3 _ rfl)
    have c4 := (hW.cell (p := ⟨gp, offp + 0 * 7 + 4, none⟩) hgl (by simp)).trans (hcp 4 _ rfl)
    have c5 := (hW.cell (p := ⟨gp, offp + 0 * 7 + 5, none⟩) hgl (by simp)).trans (hcp 5 _ rfl)
    have c6 := (hW.cell (p := ⟨gp, offp + 0 * 7 + 6, none⟩) hgl (by simp)).trans (hcp 6 _ rfl)
    simp only [Nat.zero_mul, Nat.add_zero] at c0 c1 c2 c3 c4 c5 c6
    exact ⟨c0, c1, c2, c3, c4, c5, c6⟩)
  clear h hx hcp hyp hcapp hpx
  have HF0 : Hid (Fr [] w ((w.alloc (.cells #[.int .i64 3, .int .i64 xk, .int .i64 xi, .string ⟨xz.toArray⟩, .string ⟨xt.toArray⟩, .string ⟨xm.toArray⟩, .slice (some ⟨gp, offp, none⟩) 1 xc] 41)).alloc (.cells #[.int .i64 0, .int .i64 0, .string ⟨#[]⟩] 38))) := Lib.hid (((Fr.refl [] w).alloc _).alloc _)
  have HB0 := Lib.hid ((Blk.new w 41 [.int .i64 3, .int .i64 xk, .int .i64 xi, .string ⟨xz.toArray⟩, .string ⟨xt.toArray⟩, .string ⟨xm.toArray⟩, .slice (some ⟨gp, offp, none⟩) 1 xc]).alloc (.cells #[.int .i64 0, .int .i64 0, .string ⟨#[]⟩] 38))
  have hr0 := Blk.new (w.alloc (.cells #[.int .i64 3, .int .i64 xk, .int .i64 xi, .string ⟨xz.toArray⟩, .string ⟨xt.toArray⟩, .string ⟨xm.toArray⟩, .slice (some ⟨gp, offp, none⟩) 1 xc] 41)) 38 [.int .i64 0, .int .i64 0, .string ⟨#[]⟩]
  rw [World.size_alloc] at hr0
  have HR0 := Lib.hid hr0
  clear hr0
  go_enter Tryd.func44, Tryd.ntmps44
  go_upto_region 1 with fail
  generalize (w.alloc (.cells #[.int .i64 3, .int .i64 xk, .int .i64 xi, .string ⟨xz.toArray⟩, .string ⟨xt.toArray⟩, .string ⟨xm.toArray⟩, .slice (some ⟨gp, offp, none⟩) 1 xc] 41)).alloc (.cells #[.int .i64 0, .int .i64 0, .string ⟨#[]⟩] 38) = w0 at HF0 HB0 HR0 ⊢
  obtain ⟨k0, k1, k2, k3, k4, k5, k6, -⟩ := Px.c7_of HB0.out
  obtain ⟨v0, v1, v2, f0, f1, f2⟩ := c3_of HR0.out
  have hl0 := HB0.out.lt
  have hl1 := HR0.out.lt
  obtain ⟨z0, z1, z2, z3, z4, z5, z6⟩ := HKp.out w0 HF0.out
  have hgw : gp < w0.heap.size := Nat.lt_of_lt_of_le hgl HF0.out.size
  go_wp2_with fail
  refine (HXX.out A w0 _ HF0.out (Rep.E.keep HF0.out (by simp) HYp.out)).mono ?_
  rintro e w1 ⟨he, hf1⟩
  obtain ⟨kx, ix, tx, ex, rfl, hpx⟩ := he.ex
  have HPX1 := Lib.hid hpx
  have HB1 := Lib.hid (HB0.out.keep hf1 (by simp))
  have HR1 := Lib.hid (HR0.out.keep hf1 (by simp))
  have HF1 := Lib.hid (HF0.out.trans hf1)
  clear he hpx hf1 z0 z1 z2 z3 z4 z5 z6 k0 k1 k2 k3 k4 k5 k6 v0 v1 v2 f0 f1 f2 HB0 HR0 HF0
  obtain ⟨k0, k1, k2, k3, k4, k5, k6, -⟩ := Px.c7_of HB1.out
  obtain ⟨v0, v1, v2, f0, f1, f2⟩ := c3_of HR1.out
  have hl2 := HB1.out.lt
  have hl3 := HR1.out.lt
  have hn1 : ¬ w.heap.size = w1.heap.size := by omega
  have hn2 : ¬ w.heap.size + 1 = w1.heap.size := by omega
  have hn3 : ¬ w1.heap.size = w.heap.size := by omega
  have hn4 : ¬ w1.heap.size = w.heap.size + 1 := by omega
  by_cases hex : ex = 0
  case neg =>
    go_wp2_with fail
    exact bodyPost_ret (ret_ev rfl _ (w.heap.size + 1) rfl _ rfl _ _ _ _ (Blk.alloc (blkPut3 HR1.out _ _ _) _)) rfl ⟨⟨0, 0, [], ex, rfl, by decide, Nat.zero_le _⟩, (frPut3 HF1.out (.inr (by omega)) _ _ _).alloc _⟩
  subst hex
  go_wp2_with fail
  refine (rneg_any ix _ HPX1.out.1).mono ?_
  rintro e w2 ⟨rfl, rfl⟩
  have hin := res_in (-ix)
  have HIN := Lib.hid hin
  clear hin
  generalize res (-ix) = rv at HIN ⊢
  generalize err (-ix) = xv
  by_cases hxv : xv = 0
  · subst hxv
    go_wp2_with fail
    exact bodyPost_ret (ret_ev rfl _ (w.heap.size + 1) rfl _ rfl _ _ _ _ (Blk.alloc (blkPut3 HR1.out _ _ _) _)) rfl ⟨⟨1, rv, [], 0, rfl, HIN.out, Nat.zero_le _⟩, (frPut3 HF1.out (.inr (by omega)) _ _ _).alloc _⟩
  · go_wp2_with fail
    exact bodyPost_ret (ret_ev rfl _ (w.heap.size + 1) rfl _ rfl _ _ _ _ (Blk.alloc (blkPut3 HR1.out _ _ _) _)) rfl ⟨⟨0, 0, [], xv, rfl, by decide, Nat.zero_le _⟩, (frPut3 HF1.out (.inr (by omega)) _ _ _).alloc _⟩
set_option maxRecDepth 1000000 in
set_option maxHeartbeats 4000000 in
theorem ev_not (vc vv : Value) (xk xi : Int) (xz xt xm : B) (x : Ex) (xa : Option Addr) (xn xc : Nat) (A : Nat → Prop) (w : World) (h : Rep.Es 41 A w [x] (.slice xa xn xc)) (hx : EvA vc vv w x (fun _ i t _ => Fine i t)) :
    Calls Tryd.prog 44 #[vc, vv, .agg #[.int .i64 4, .int .i64 xk, .int .i64 xi, .string ⟨xz.toArray⟩, .string ⟨xt.toArray⟩, .string ⟨xm.toArray⟩, .slice xa xn xc]] w fun e w' => EvR (fun _ i t _ => Fine i t) e ∧ Fr [] w w' := by
  obtain ⟨gp, offp, capp, ysp, hvp, hcapp, -, hyp, hcp⟩ := Rep.Es.at h 0 (by simp)
  simp only [Value.slice.injEq] at hvp
  obtain ⟨rfl, rfl, rfl⟩ := hvp
  simp only [List.getElem_cons_zero, List.length_cons, List.length_nil, Nat.zero_add] at hyp hcapp ⊢
  have HYp := Lib.hid hyp
  obtain ⟨po, pk, pi, pz, pt, pm, pg, pa, pn, pc, hpx, rfl, -⟩ := Sm.e_cells hyp
  have hgl : gp < w.heap.size := World.block_lt_of_cell? w _ (hcp 0 _ rfl)
  have hxc : (1 : Int) ≤ xc := by omega
  have HXX := Lib.hid hx
  have HKp : Hid (∀ W, Fr [] w W → W.cell? ⟨gp, offp, none⟩ = some (.int .i64 po) ∧ W.cell? ⟨gp, offp + 1, none⟩ = some (.int .i64 pk) ∧ W.cell? ⟨gp, offp + 2, none⟩ = some (.int .i64 pi) ∧ W.cell? ⟨gp, offp + 3, none⟩ = some (.string ⟨pz.toArray⟩) ∧ W.cell? ⟨gp, offp + 4, none⟩ = some (.string ⟨pt.toArray⟩) ∧ W.cell? ⟨gp, offp + 5, none⟩ = some (.string ⟨pm.toArray⟩) ∧ W.cell? ⟨gp, offp + 6, none⟩ = some (.slice pa pn pc)) := Lib.hid (fun W hW => by
    have c0 := (hW.cell (p := ⟨gp, offp + 0 * 7, none⟩) hgl (by simp)).trans (hcp 0 _ rfl)
    have c1 := (hW.cell (p := ⟨gp, offp + 0 * 7 + 1, none⟩) hgl (by simp)).trans (hcp 1 _ rfl)
    have c2 := (hW.cell (p := ⟨gp, offp + 0 * 7 + 2, none⟩) hgl (by simp)).trans (hcp 2 _ rfl)
    have c3 := (hW.cell (p := ⟨gp, offp + 0 * 7 + 3, none⟩) hgl (by simp)).trans (hcp 3 _ rfl)
    have c4 := (hW.cell (p := ⟨gp, offp + 0 * 7 + 4, none⟩) hgl (by simp)).trans (hcp 4 _ rfl)
    have c5 := (hW.cell (p := ⟨gp, offp + 0 * 7 + 5, none⟩) hgl (by simp)).trans (hcp 5 _ rfl)
    have c6 := (hW.cell (p := ⟨gp, offp + 0 * 7 + 6, none⟩) hgl (by simp)).trans (hcp 6 _ rfl)
    simp only [Nat.zero_mul, Nat.add_zero] at c0 c1 c2 c3 c4 c5 c6
    exact ⟨c0, c1, c2, c3, c4, c5, c6⟩)
  clear h hx hcp hyp hcapp hpx
  have HF0 : Hid (Fr [] w ((w.alloc (.cells #[.int .i64 4, .int .i64 xk, .int .i64 xi, .string ⟨xz.toArray⟩, .string ⟨xt.toArray⟩, .string ⟨xm.toArray⟩, .slice (some ⟨gp, offp, none⟩) 1 xc] 41)).alloc (.cells #[.int .i64 0, .int .i64 0, .string ⟨#[]⟩] 38))) := Lib.hid (((Fr.refl [] w).alloc _).alloc _)
  have HB0 := Lib.hid ((Blk.new w 41 [.int .i64 4, .int .i64 xk, .int .i64 xi, .string ⟨xz.toArray⟩, .string ⟨xt.toArray⟩, .string ⟨xm.toArray⟩, .slice (some ⟨gp, offp, none⟩) 1 xc]).alloc (.cells #[.int .i64 0, .int .i64 0, .string ⟨#[]⟩] 38))
  have hr0 := Blk.new (w.alloc (.cells #[.int .i64 4, .int .i64 xk, .int .i64 xi, .string ⟨xz.toArray⟩, .string ⟨xt.toArray⟩, .string ⟨xm.toArray⟩, .slice (some ⟨gp, offp, none⟩) 1 xc] 41)) 38 [.int .i64 0, .int .i64 0, .string ⟨#[]⟩]
  rw [World.size_alloc] at hr0
  have HR0 := Lib.hid hr0
  clear hr0
  go_enter Tryd.func44, Tryd.ntmps44
  go_upto_region 1 with fail
  generalize (w.alloc (.cells #[.int .i64 4, .int .i64 xk, .int .i64 xi, .string ⟨xz.toArray⟩, .string ⟨xt.toArray⟩, .string ⟨xm.toArray⟩, .slice (some ⟨gp, offp, none⟩) 1 xc] 41)).alloc (.cells #[.int .i64 0, .int .i64 0, .string ⟨#[]⟩] 38) = w0 at HF0 HB0 HR0 ⊢
  obtain ⟨k0, k1, k2, k3, k4, k5, k6, -⟩ := Px.c7_of HB0.out
  obtain ⟨v0, v1, v2, f0, f1, f2⟩ := c3_of HR0.out
  have hl0 := HB0.out.lt
  have hl1 := HR0.out.lt
  obtain ⟨z0, z1, z2, z3, z4, z5, z6⟩ := HKp.out w0 HF0.out
  have hgw : gp < w0.heap.size := Nat.lt_of_lt_of_le hgl HF0.out.size
  go_wp2_with fail
  refine (HXX.out A w0 _ HF0.out (Rep.E.keep HF0.out (by simp) HYp.out)).mono ?_
  rintro e w1 ⟨he, hf1⟩
  obtain ⟨kx, ix, tx, ex, rfl, hpx⟩ := he.ex
  have HPX1 := Lib.hid hpx
  have HB1 := Lib.hid (HB0.out.keep hf1 (by simp))
  have HR1 := Lib.hid (HR0.out.keep hf1 (by simp))
  have HF1 := Lib.hid (HF0.out.trans hf1)
  clear he hpx hf1 z0 z1 z2 z3 z4 z5 z6 k0 k1 k2 k3 k4 k5 k6 v0 v1 v2 f0 f1 f2 HB0 HR0 HF0
  obtain ⟨k0, k1, k2, k3, k4, k5, k6, -⟩ := Px.c7_of HB1.out
  obtain ⟨v0, v1, v2, f0, f1, f2⟩ := c3_of HR1.out
  have hl2 := HB1.out.lt
  have hl3 := HR1.out.lt
  have hn1 : ¬ w.heap.size = w1.heap.size := by omega
  have hn2 : ¬ w.heap.size + 1 = w1.heap.size := by omega
  have hn3 : ¬ w1.heap.size = w.heap.size := by omega
  have hn4 : ¬ w1.heap.size = w.heap.size + 1 := by omega
  by_cases hex : ex = 0
  case neg =>
    go_wp2_with fail
    exact bodyPost_ret (ret_ev rfl _ (w.heap.size + 1) rfl _ rfl _ _ _ _ (Blk.alloc (blkPut3 HR1.out _ _ _) _)) rfl ⟨⟨0, 0, [], ex, rfl, by decide, Nat.zero_le _⟩, (frPut3 HF1.out (.inr (by omega)) _ _ _).alloc _⟩
  subst hex
  go_wp2_with fail
  refine (truth_v _ _).mono ?_
  rintro e w2 ⟨⟨v, rfl, HV⟩, hf2⟩
  have hfz := ((Fr.refl [] w1).alloc _).trans hf2
  have HR2 := Lib.hid (HR1.out.keep hfz (by simp))
  have HF2 := Lib.hid (HF1.out.trans hfz)
  clear v0 v1 v2 f0 f1 f2 hf2 hfz
  obtain ⟨v0, v1, v2, f0, f1, f2⟩ := c3_of HR2.out
  have hl4 := HR2.out.lt
  go_wp2_with fail
  exact bodyPost_ret (ret_ev rfl _ (w.heap.size + 1) rfl _ rfl _ _ _ _ (blkPut3 HR2.out _ _ _)) rfl ⟨⟨3, v, [], 0, rfl, by rw [HV.out]; exact fine_truth _⟩, frPut3 HF2.out (.inr (by omega)) _ _ _⟩
end Pn
end Go.Proofs.YtmdnhinpaflamaaDoor
