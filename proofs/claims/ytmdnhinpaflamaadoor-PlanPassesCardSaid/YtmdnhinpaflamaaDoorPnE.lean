/- plan: the way by a column and a literal. -/
import Derived.Test.YtmdnhinpaflamaaDoorPnD
import Derived.Test.YtmdnhinpaflamaaDoorSeq3
import Derived.BigQuiet
import Derived.BigRegion
namespace Go.Proofs.YtmdnhinpaflamaaDoor
open Go.RowKit
set_option linter.unusedVariables false
set_option linter.unusedSimpArgs false
namespace Pn
open PM (Ex B Col)
open Px (ColS colC z7 put7 frPut7 blkPut7 ret_cell7 c7_of)
/-- a column's kind -/
def kindAt (l : List Col) (i : Int) : Int := match l[i.toNat]? with | some c => c.kind | none => 0
/-- the way by a column and a literal -/
def way (T : Tab) : Ex → Ex → Option (Int × Int × Int × B)
  | .mk op _ _ _ tb nm _, .mk lo lk li lz _ _ _ => if op = 2 ∧ lo = 1 ∧ (tb = [] ∨ tb = T.name) ∧ 0 ≤ place T.cols nm ∧ indexed T nm = true ∧ kindAt T.cols (place T.cols nm) = lk then some (place T.cols nm, lk, li, lz) else none
/-- what a search for a way returns -/
def WayR (o : Option (Int × Int × Int × B)) (e : Ending) : Prop :=
  ∃ (p k i : Int) (t : B) (b : Bool), e = .returned (.tuple #[.agg #[.int .i64 p, .int .i64 k, .int .i64 i, .string ⟨t.toArray⟩], .bool b]) ∧ ((b = true ∧ o = some (p, k, i, t)) ∨ (b = false ∧ o = none))
theorem ret_plan {fn : Func} {n m : Nat} (h : fn.results = #[.cell n 46, .tmp m]) (tmps : Array Value) (b : Nat) (h2 : tmps.getD n undef = .pointer (some ⟨b, 0, none⟩)) (v : Value) (h3 : tmps.getD m undef = v) (w : World) (a0 a1 a2 a3 : Value) (hb : Blk w b 46 [a0, a1, a2, a3]) :
    (results fn tmps).run Tryd.prog w = .ok (.tuple #[.agg #[a0, a1, a2, a3], v]) w := by
  have c0 := hb.cell 0
  have c1 := hb.cell 1
  have c2 := hb.cell 2
  have c3 := hb.cell 3
  simp only [List.getElem?_cons_zero, List.getElem?_cons_succ] at c0 c1 c2 c3
  have h2' : tmps[n]?.getD undef = .pointer (some ⟨b, 0, none⟩) := by simpa using h2
  have h3' : tmps[m]?.getD undef = v := by simpa using h3
  simp [results, h, h2', h3', go_sem, c0, c1, c2, c3]
def put4 (w : World) (T : Nat) (a0 a1 a2 a3 : Value) : World := ((((w.setCell ⟨T, 0, none⟩ a0).setCell ⟨T, 1, none⟩ a1).setCell ⟨T, 2, none⟩ a2).setCell ⟨T, 3, none⟩ a3)
theorem frPut4 {X : List (Option Nat)} {z w : World} {T : Nat} (h : Fr X z w) (hT : some T ∈ X ∨ z.heap.size ≤ T) (a0 a1 a2 a3 : Value) : Fr X z (put4 w T a0 a1 a2 a3) := ((((h.setCell (p := ⟨T, 0, none⟩) hT a0).setCell (p := ⟨T, 1, none⟩) hT a1).setCell (p := ⟨T, 2, none⟩) hT a2).setCell (p := ⟨T, 3, none⟩) hT a3)
theorem blkPut4 {w : World} {T : Nat} {E : TypeId} {x0 x1 x2 x3 : Value} (h : Blk w T E [x0, x1, x2, x3]) (a0 a1 a2 a3 : Value) : Blk (put4 w T a0 a1 a2 a3) T E [a0, a1, a2, a3] := ((((h.set 0 a0).set 1 a1).set 2 a2).set 3 a3)
theorem c4_of {w : World} {T : Nat} {E : TypeId} {a0 a1 a2 a3 : Value} (h : Blk w T E [a0, a1, a2, a3]) : w.cell? ⟨T, 0, none⟩ = some a0 ∧ w.cell? ⟨T, 1, none⟩ = some a1 ∧ w.cell? ⟨T, 2, none⟩ = some a2 ∧ w.cell? ⟨T, 3, none⟩ = some a3 ∧
    w.frozen? ⟨T, 0, none⟩ = false ∧ w.frozen? ⟨T, 1, none⟩ = false ∧ w.frozen? ⟨T, 2, none⟩ = false ∧ w.frozen? ⟨T, 3, none⟩ = false :=
  ⟨h.cell 0, h.cell 1, h.cell 2, h.cell 3, h.free 0, h.free 1, h.free 2, h.free 3⟩
def plan0 : List Value := [.int .i64 0, .int .i64 0, .int .i64 0, .string ⟨#[]⟩]
set_option maxRecDepth 1000000 in
set_option maxHeartbeats 4000000 in
/-- by -/
theorem by_any (tn : B) (l : List Col) (ix : List B) (A : Nat → Prop) (a ia : Option Addr) (c ic : Nat) (hl : l.length ≤ 100) (hil : ix.length ≤ 100) (co ck ci lo lk li : Int) (cz ct cn lz lt ln : B) (cg lg : List Ex) (ca la : Option Addr) (cl cc ll lc : Nat) (w : World) (h : TR A w ⟨tn, l, ix⟩ a c ia ic) :
    Calls Tryd.prog 37 #[.agg #[.string ⟨tn.toArray⟩, .slice a l.length c, .slice ia ix.length ic], .agg #[.int .i64 co, .int .i64 ck, .int .i64 ci, .string ⟨cz.toArray⟩, .string ⟨ct.toArray⟩, .string ⟨cn.toArray⟩, .slice ca cl cc], .agg #[.int .i64 lo, .int .i64 lk, .int .i64 li, .string ⟨lz.toArray⟩, .string ⟨lt.toArray⟩, .string ⟨ln.toArray⟩, .slice la ll lc]] w fun e w' =>
      WayR (way ⟨tn, l, ix⟩ (.mk co ck ci cz ct cn cg) (.mk lo lk li lz lt ln lg)) e ∧ Fr [] w w' := by
  have hb0 := (((Blk.new w 27 [.string ⟨tn.toArray⟩, .slice a l.length c, .slice ia ix.length ic]).alloc (.cells #[.int .i64 co, .int .i64 ck, .int .i64 ci, .string ⟨cz.toArray⟩, .string ⟨ct.toArray⟩, .string ⟨cn.toArray⟩, .slice ca cl cc] 41)).alloc (.cells #[.int .i64 lo, .int .i64 lk, .int .i64 li, .string ⟨lz.toArray⟩, .string ⟨lt.toArray⟩, .string ⟨ln.toArray⟩, .slice la ll lc] 41)).alloc (.cells #[.int .i64 0, .int .i64 0, .int .i64 0, .string ⟨#[]⟩] 46)
  have hb1 := ((Blk.new (w.alloc (.cells #[.string ⟨tn.toArray⟩, .slice a l.length c, .slice ia ix.length ic] 27)) 41 [.int .i64 co, .int .i64 ck, .int .i64 ci, .string ⟨cz.toArray⟩, .string ⟨ct.toArray⟩, .string ⟨cn.toArray⟩, .slice ca cl cc]).alloc (.cells #[.int .i64 lo, .int .i64 lk, .int .i64 li, .string ⟨lz.toArray⟩, .string ⟨lt.toArray⟩, .string ⟨ln.toArray⟩, .slice la ll lc] 41)).alloc (.cells #[.int .i64 0, .int .i64 0, .int .i64 0, .string ⟨#[]⟩] 46)
  have hb2 := (Blk.new ((w.alloc (.cells #[.string ⟨tn.toArray⟩, .slice a l.length c, .slice ia ix.length ic] 27)).alloc (.cells #[.int .i64 co, .int .i64 ck, .int .i64 ci, .string ⟨cz.toArray⟩, .string ⟨ct.toArray⟩, .string ⟨cn.toArray⟩, .slice ca cl cc] 41)) 41 [.int .i64 lo, .int .i64 lk, .int .i64 li, .string ⟨lz.toArray⟩, .string ⟨lt.toArray⟩, .string ⟨ln.toArray⟩, .slice la ll lc]).alloc (.cells #[.int .i64 0, .int .i64 0, .int .i64 0, .string ⟨#[]⟩] 46)
  have hb3 := Blk.new (((w.alloc (.cells #[.string ⟨tn.toArray⟩, .slice a l.length c, .slice ia ix.length ic] 27)).alloc (.cells #[.int .i64 co, .int .i64 ck, .int .i64 ci, .string ⟨cz.toArray⟩, .string ⟨ct.toArray⟩, .string ⟨cn.toArray⟩, .slice ca cl cc] 41)).alloc (.cells #[.int .i64 lo, .int .i64 lk, .int .i64 li, .string ⟨lz.toArray⟩, .string ⟨lt.toArray⟩, .string ⟨ln.toArray⟩, .slice la ll lc] 41)) 46 [.int .i64 0, .int .i64 0, .int .i64 0, .string ⟨#[]⟩]
  have hf0 : Fr [] w ((((w.alloc (.cells #[.string ⟨tn.toArray⟩, .slice a l.length c, .slice ia ix.length ic] 27)).alloc (.cells #[.int .i64 co, .int .i64 ck, .int .i64 ci, .string ⟨cz.toArray⟩, .string ⟨ct.toArray⟩, .string ⟨cn.toArray⟩, .slice ca cl cc] 41)).alloc (.cells #[.int .i64 lo, .int .i64 lk, .int .i64 li, .string ⟨lz.toArray⟩, .string ⟨lt.toArray⟩, .string ⟨ln.toArray⟩, .slice la ll lc] 41)).alloc (.cells #[.int .i64 0, .int .i64 0, .int .i64 0, .string ⟨#[]⟩] 46)) := ((((Fr.refl [] w).alloc _).alloc _).alloc _).alloc _
  rw [World.size_alloc] at hb1
  rw [World.size_alloc, World.size_alloc] at hb2
  rw [World.size_alloc, World.size_alloc, World.size_alloc] at hb3
  have HC := Lib.hid (scolumn_any tn l ix cn A a ia c ic hl _ (h.keep hf0 (by simp)))
  have HCOL : Hid (ColS A w (.slice a l.length c) l) := Lib.hid h.cols
  have HT := Lib.hid h
  have hpg := place_ge l cn
  have hpl := place_lt l cn
  have HW : Hid (∀ g g2, way ⟨tn, l, ix⟩ (.mk co ck ci cz ct cn g) (.mk lo lk li lz lt ln g2) = if co = 2 ∧ lo = 1 ∧ (ct = [] ∨ ct = tn) ∧ 0 ≤ place l cn ∧ indexed ⟨tn, l, ix⟩ cn = true ∧ kindAt l (place l cn) = lk then some (place l cn, lk, li, lz) else none) := Lib.hid (fun _ _ => rfl)
  obtain ⟨o, ho⟩ : ∃ o, way ⟨tn, l, ix⟩ (.mk co ck ci cz ct cn cg) (.mk lo lk li lz lt ln lg) = o := ⟨_, rfl⟩
  rw [ho]
  have HO := Lib.hid (ho.symm.trans (HW.out cg lg))
  clear HW h ho
  generalize place l cn = pl at HC hpg hpl HO
  skip
  go_enter Tryd.func37, Tryd.ntmps37
  go_wp2_with fail
  refine HC.out.mono ?_
  rintro e w1 ⟨rfl, hf1⟩
  have HB0 := Lib.hid (hb0.keep hf1 (by simp))
  have HB1 := Lib.hid (hb1.keep hf1 (by simp))
  have HB2 := Lib.hid (hb2.keep hf1 (by simp))
  have HB3 := Lib.hid (hb3.keep hf1 (by simp))
  have HF1 := Lib.hid (hf0.trans hf1)
  clear hb0 hb1 hb2 hb3 hf0 hf1 HC
  have hs0 := HB0.out.lt
  have hs1 := HB1.out.lt
  have hs2 := HB2.out.lt
  have hs3 := HB3.out.lt
  have t0 := HB0.out.cell 0
  have t1 := HB0.out.cell 1
  have t2 := HB0.out.cell 2
  simp only [List.getElem?_cons_zero, List.getElem?_cons_succ] at t0 t1 t2
  obtain ⟨e0, e1, e2, e3, e4, e5, e6, -, -, -, -, -, -, -⟩ := c7_of HB1.out
  obtain ⟨g0, g1, g2, g3, g4, g5, g6, -, -, -, -, -, -, -⟩ := c7_of HB2.out
  obtain ⟨p0, p1, p2, p3, q0, q1, q2, q3⟩ := c4_of HB3.out
  go_wp2_with fail
  all_goals first
    | (refine bodyPost_ret (ret_plan rfl _ (w.heap.size + 3) rfl _ rfl _ _ _ _ _ (blkPut4 HB3.out _ _ _ _)) rfl ⟨⟨0, 0, 0, [], false, rfl, .inr ⟨rfl, HO.out.trans (if_neg ?_)⟩⟩, frPut4 HF1.out (.inr (by omega)) _ _ _ _⟩
       rintro ⟨h1, h2, h3, h4, _⟩
       first | contradiction | omega | (rcases h3 with h3 | h3 <;> contradiction))
    | skip
  all_goals
    rename_i hpl0
    obtain ⟨k, rfl⟩ : ∃ k : Nat, pl = k := ⟨pl.toNat, by omega⟩
    have hk : k < l.length := by omega
    obtain ⟨g, off, rfl, -, hg, hcap, hc⟩ := (Sh.flat_form (cells := colC) (size := 3) (fun _ => rfl) HCOL.out).2.2 k hk
    have hck : ((l.length : Nat) : Int) ≤ c := by omega
    have HK1 : Hid (∀ W, Fr [some (w.heap.size + 1 + 1 + 1)] w1 W → W.cell? ⟨g, off + k * 3 + 1, none⟩ = some (.int .i64 (kindAt l k))) := Lib.hid (fun W hW => ((hW.cell (p := ⟨g, off + k * 3 + 1, none⟩) (Nat.lt_of_lt_of_le hg HF1.out.size) (by simp; omega)).trans (HF1.out.cell (p := ⟨g, off + k * 3 + 1, none⟩) hg (by simp))).trans ((hc 1 _ rfl).trans (by simp [kindAt, hk])))
    have HIX := Lib.hid (sindexed_any tn l ix cn A _ ia c ic hl hil w1.drew (HT.out.keep HF1.out.drew (by simp)))
    have HG : Hid (co = 2 ∧ lo = 1 ∧ (ct = [] ∨ ct = tn)) := Lib.hid ⟨by assumption, by assumption, by first | exact .inl (by assumption) | exact .inr (by assumption)⟩
    generalize kindAt l k = kk at HK1 HO
    clear hc t0 t1 t2 e0 e1 e2 e3 e4 e5 e6 g0 g1 g2 g3 g4 g5 g6 p0 p1 p2 p3 q0 q1 q2 q3
    generalize indexed ⟨tn, l, ix⟩ cn = ib at HIX HO
    cases ib
    · skip
      refine Seq3.wp_region_text (fun i => i != 7 && i != 20) (fun _ => none) (fun i => false) (fun W => Fr [some (w.heap.size + 1 + 1 + 1)] w1 W) (by kernel_rfl) (by kernel_rfl) (Fr.drew (Fr.refl _ w1)) ?_
      refine Seq3.wpL_quiet rfl rfl rfl (fun K hK => ?_)
      go_big_quiet_op
      first | refine hK _ ?_ | refine ⟨_, by intros; rfl, hK _ ?_⟩
      clear hK K
      refine Seq3.wpL_quiet rfl rfl rfl (fun K hK => ?_)
      go_big_quiet_op
      first | refine hK _ ?_ | refine ⟨_, by intros; rfl, hK _ ?_⟩
      clear hK K
      refine Seq3.wpL_held (v := .agg #[.int .i64 lk, .int .i64 li, .string ⟨lz.toArray⟩]) rfl rfl (fun wz hz => ?_) ?_
      · have l0 := (HB2.out.keep hz (by simp <;> omega)).cell 1
        have l1 := (HB2.out.keep hz (by simp <;> omega)).cell 2
        have l2 := (HB2.out.keep hz (by simp <;> omega)).cell 3
        simp [go_sem, execOp, l0, l1, l2]
      simp only [Act.put, List.setIfInBounds_toArray, List.set_cons_succ, List.set_cons_zero]
      refine Seq3.wpL_held (v := .agg #[.int .i64 (k : Int), .int .i64 lk, .int .i64 li, .string ⟨lz.toArray⟩]) rfl rfl (fun wz hz => ?_) ?_
      · simp [go_sem, execOp]
      simp only [Act.put, List.setIfInBounds_toArray, List.set_cons_succ, List.set_cons_zero]
      refine Seq3.wpL_held (v := .agg #[.string ⟨tn.toArray⟩, .slice (some ⟨g, off, none⟩) l.length c, .slice ia ix.length ic]) rfl rfl (fun wz hz => ?_) ?_
      · have l0 := (HB0.out.keep hz (by simp <;> omega)).cell 0
        have l1 := (HB0.out.keep hz (by simp <;> omega)).cell 1
        have l2 := (HB0.out.keep hz (by simp <;> omega)).cell 2
        simp [go_sem, execOp, l0, l1, l2]
      simp only [Act.put, List.setIfInBounds_toArray, List.set_cons_succ, List.set_cons_zero]
      refine Seq3.wpL_quiet rfl rfl rfl (fun K hK => ?_)
      go_big_quiet_op
      first | refine hK _ ?_ | refine ⟨_, by intros; rfl, hK _ ?_⟩
      clear hK K
      refine Seq3.wpL_held (v := .string ⟨cn.toArray⟩) rfl rfl (fun wz hz => ?_) ?_
      · have l0 := (HB1.out.keep hz (by simp <;> omega)).cell 5
        simp [go_sem, execOp, l0]
      simp only [Act.put, List.setIfInBounds_toArray, List.set_cons_succ, List.set_cons_zero]
      refine Seq3.wpL_call rfl rfl (by first | kernel_rfl | simp [go_sem, execOp]) (HIX.out) ?_
      rintro e w2 ⟨rfl, hf2⟩
      have HF2 := Lib.hid ((Fr.drew (Fr.refl [] w1)).trans hf2)
      refine ⟨_, rfl, HF2.out.mono (by simp), ?_⟩
      simp only [Act.put, List.setIfInBounds_toArray, List.set_cons_succ, List.set_cons_zero]
      refine Seq3.wpL_quiet rfl rfl rfl (fun K hK => ?_)
      go_big_quiet_op
      first | refine hK _ ?_ | refine ⟨_, by intros; rfl, hK _ ?_⟩
      clear hK K
      refine Seq3.wpL_skip (HF2.out.mono (by simp)) rfl ?_
      simp only [Act.put, List.setIfInBounds_toArray, List.set_cons_succ, List.set_cons_zero]
      refine Seq3.wpL_skip (HF2.out.mono (by simp)) rfl ?_
      simp only [Act.put, List.setIfInBounds_toArray, List.set_cons_succ, List.set_cons_zero]
      refine Seq3.wpL_skip (HF2.out.mono (by simp)) rfl ?_
      simp only [Act.put, List.setIfInBounds_toArray, List.set_cons_succ, List.set_cons_zero]
      refine Seq3.wpL_skip (HF2.out.mono (by simp)) rfl ?_
      simp only [Act.put, List.setIfInBounds_toArray, List.set_cons_succ, List.set_cons_zero]
      refine Seq3.wpL_skip (HF2.out.mono (by simp)) rfl ?_
      simp only [Act.put, List.setIfInBounds_toArray, List.set_cons_succ, List.set_cons_zero]
      refine Seq3.wpL_skip (HF2.out.mono (by simp)) rfl ?_
      simp only [Act.put, List.setIfInBounds_toArray, List.set_cons_succ, List.set_cons_zero]
      refine Seq3.wpL_skip (HF2.out.mono (by simp)) rfl ?_
      simp only [Act.put, List.setIfInBounds_toArray, List.set_cons_succ, List.set_cons_zero]
      refine Seq3.wpL_skip (HF2.out.mono (by simp)) rfl ?_
      simp only [Act.put, List.setIfInBounds_toArray, List.set_cons_succ, List.set_cons_zero]
      refine Seq3.wpL_skip (HF2.out.mono (by simp)) rfl ?_
      simp only [Act.put, List.setIfInBounds_toArray, List.set_cons_succ, List.set_cons_zero]
      refine Seq3.wpL_skip (HF2.out.mono (by simp)) rfl ?_
      simp only [Act.put, List.setIfInBounds_toArray, List.set_cons_succ, List.set_cons_zero]
      refine Seq3.wpL_held (v := .bool false) rfl rfl (fun wz hz => ?_) ?_
      · simp [go_sem, execOp]
      simp only [Act.put, List.setIfInBounds_toArray, List.set_cons_succ, List.set_cons_zero]
      obtain ⟨p0, p1, p2, p3, q0, q1, q2, q3⟩ := c4_of (HB3.out.keep HF2.out (by simp))
      refine Seq3.wpL_store (w' := put4 w2 (w.heap.size + 3) (.int .i64 (k : Int)) (.int .i64 lk) (.int .i64 li) (.string ⟨lz.toArray⟩)) rfl rfl (by first | (simp [go_sem, execOp, put4, p0, p1, p2, p3, q0, q1, q2, q3]; done) | (simp [go_sem, execOp, put4, p0, p1, p2, p3, q0, q1, q2, q3]; rfl)) (frPut4 (HF2.out.mono (by simp)) (.inl (by simp)) _ _ _ _) ?_
      simp only [Act.put, List.setIfInBounds_toArray, List.set_cons_succ, List.set_cons_zero]
      refine Seq3.wpL_quiet rfl rfl rfl (fun K hK => ?_)
      go_big_quiet_op
      first | refine hK _ ?_ | refine ⟨_, by intros; rfl, hK _ ?_⟩
      clear hK K
      refine Seq3.wpL_nil ?_
      go_wp2_with fail
      refine bodyPost_ret (ret_plan rfl _ (w.heap.size + 3) rfl _ rfl _ _ _ _ _ (blkPut4 (HB3.out.keep HF2.out (by simp)) _ _ _ _)) rfl ⟨⟨k, lk, li, lz, false, rfl, .inr ⟨rfl, HO.out.trans (if_neg ?_)⟩⟩, frPut4 (HF1.out.trans HF2.out) (.inr (by omega)) _ _ _ _⟩
      rintro ⟨_, _, _, _, h5, _⟩
      exact Bool.false_ne_true h5
    skip
    · skip
      refine Seq3.wp_region_text (fun i => i != 7 && i != 20) (fun _ => none) (fun i => false) (fun W => Fr [some (w.heap.size + 1 + 1 + 1)] w1 W) (by kernel_rfl) (by kernel_rfl) (Fr.drew (Fr.refl _ w1)) ?_
      refine Seq3.wpL_quiet rfl rfl rfl (fun K hK => ?_)
      go_big_quiet_op
      first | refine hK _ ?_ | refine ⟨_, by intros; rfl, hK _ ?_⟩
      clear hK K
      refine Seq3.wpL_quiet rfl rfl rfl (fun K hK => ?_)
      go_big_quiet_op
      first | refine hK _ ?_ | refine ⟨_, by intros; rfl, hK _ ?_⟩
      clear hK K
      refine Seq3.wpL_held (v := .agg #[.int .i64 lk, .int .i64 li, .string ⟨lz.toArray⟩]) rfl rfl (fun wz hz => ?_) ?_
      · have l0 := (HB2.out.keep hz (by simp <;> omega)).cell 1
        have l1 := (HB2.out.keep hz (by simp <;> omega)).cell 2
        have l2 := (HB2.out.keep hz (by simp <;> omega)).cell 3
        simp [go_sem, execOp, l0, l1, l2]
      simp only [Act.put, List.setIfInBounds_toArray, List.set_cons_succ, List.set_cons_zero]
      refine Seq3.wpL_held (v := .agg #[.int .i64 (k : Int), .int .i64 lk, .int .i64 li, .string ⟨lz.toArray⟩]) rfl rfl (fun wz hz => ?_) ?_
      · simp [go_sem, execOp]
      simp only [Act.put, List.setIfInBounds_toArray, List.set_cons_succ, List.set_cons_zero]
      refine Seq3.wpL_held (v := .agg #[.string ⟨tn.toArray⟩, .slice (some ⟨g, off, none⟩) l.length c, .slice ia ix.length ic]) rfl rfl (fun wz hz => ?_) ?_
      · have l0 := (HB0.out.keep hz (by simp <;> omega)).cell 0
        have l1 := (HB0.out.keep hz (by simp <;> omega)).cell 1
        have l2 := (HB0.out.keep hz (by simp <;> omega)).cell 2
        simp [go_sem, execOp, l0, l1, l2]
      simp only [Act.put, List.setIfInBounds_toArray, List.set_cons_succ, List.set_cons_zero]
      refine Seq3.wpL_quiet rfl rfl rfl (fun K hK => ?_)
      go_big_quiet_op
      first | refine hK _ ?_ | refine ⟨_, by intros; rfl, hK _ ?_⟩
      clear hK K
      refine Seq3.wpL_held (v := .string ⟨cn.toArray⟩) rfl rfl (fun wz hz => ?_) ?_
      · have l0 := (HB1.out.keep hz (by simp <;> omega)).cell 5
        simp [go_sem, execOp, l0]
      simp only [Act.put, List.setIfInBounds_toArray, List.set_cons_succ, List.set_cons_zero]
      refine Seq3.wpL_call rfl rfl (by first | kernel_rfl | simp [go_sem, execOp]) (HIX.out) ?_
      rintro e w2 ⟨rfl, hf2⟩
      have HF2 := Lib.hid ((Fr.drew (Fr.refl [] w1)).trans hf2)
      refine ⟨_, rfl, HF2.out.mono (by simp), ?_⟩
      simp only [Act.put, List.setIfInBounds_toArray, List.set_cons_succ, List.set_cons_zero]
      refine Seq3.wpL_quiet rfl rfl rfl (fun K hK => ?_)
      go_big_quiet_op
      first | refine hK _ ?_ | refine ⟨_, by intros; rfl, hK _ ?_⟩
      clear hK K
      refine Seq3.wpL_quiet rfl rfl rfl (fun K hK => ?_)
      go_big_quiet_op
      first | refine hK _ ?_ | refine ⟨_, by intros; rfl, hK _ ?_⟩
      clear hK K
      refine Seq3.wpL_held (v := .slice (some ⟨g, off, none⟩) l.length c) rfl rfl (fun wz hz => ?_) ?_
      · have l0 := (HB0.out.keep hz (by simp <;> omega)).cell 1
        simp [go_sem, execOp, l0]
      simp only [Act.put, List.setIfInBounds_toArray, List.set_cons_succ, List.set_cons_zero]
      refine Seq3.wpL_quiet rfl rfl rfl (fun K hK => ?_)
      go_big_quiet_op
      first | refine hK _ ?_ | refine ⟨_, by intros; rfl, hK _ ?_⟩
      clear hK K
      refine Seq3.wpL_quiet rfl rfl rfl (fun K hK => ?_)
      go_big_quiet_op
      first | refine hK _ ?_ | refine ⟨_, by intros; rfl, hK _ ?_⟩
      clear hK K
      refine Seq3.wpL_quiet rfl rfl rfl (fun K hK => ?_)
      go_big_quiet_op
      first | refine hK _ ?_ | refine ⟨_, by intros; rfl, hK _ ?_⟩
      clear hK K
      refine Seq3.wpL_held (v := .int .i64 kk) rfl rfl (fun wz hz => ?_) ?_
      · have l0 := HK1.out wz hz
        simp [go_sem, execOp, l0]
      simp only [Act.put, List.setIfInBounds_toArray, List.set_cons_succ, List.set_cons_zero]
      refine Seq3.wpL_quiet rfl rfl rfl (fun K hK => ?_)
      go_big_quiet_op
      first | refine hK _ ?_ | refine ⟨_, by intros; rfl, hK _ ?_⟩
      clear hK K
      refine Seq3.wpL_quiet rfl rfl rfl (fun K hK => ?_)
      go_big_quiet_op
      first | refine hK _ ?_ | refine ⟨_, by intros; rfl, hK _ ?_⟩
      clear hK K
      refine Seq3.wpL_held (v := .int .i64 lk) rfl rfl (fun wz hz => ?_) ?_
      · have l0 := (HB2.out.keep hz (by simp <;> omega)).cell 1
        simp [go_sem, execOp, l0]
      simp only [Act.put, List.setIfInBounds_toArray, List.set_cons_succ, List.set_cons_zero]
      have hd : ∃ b, decide (kk = lk) = b := ⟨_, rfl⟩
      obtain ⟨bd, hbd⟩ := hd
      have hbd2 : (kk == lk) = bd := by rw [← hbd]; rfl
      refine Seq3.wpL_held (v := .bool bd) rfl rfl (fun wz hz => ?_) ?_
      · simp [go_sem, execOp, hbd, hbd2]
      simp only [Act.put, List.setIfInBounds_toArray, List.set_cons_succ, List.set_cons_zero]
      refine Seq3.wpL_held (v := .bool bd) rfl rfl (fun wz hz => ?_) ?_
      · simp [go_sem, execOp]
      simp only [Act.put, List.setIfInBounds_toArray, List.set_cons_succ, List.set_cons_zero]
      obtain ⟨p0, p1, p2, p3, q0, q1, q2, q3⟩ := c4_of (HB3.out.keep HF2.out (by simp))
      refine Seq3.wpL_store (w' := put4 w2 (w.heap.size + 3) (.int .i64 (k : Int)) (.int .i64 lk) (.int .i64 li) (.string ⟨lz.toArray⟩)) rfl rfl (by first | (simp [go_sem, execOp, put4, p0, p1, p2, p3, q0, q1, q2, q3]; done) | (simp [go_sem, execOp, put4, p0, p1, p2, p3, q0, q1, q2, q3]; rfl)) (frPut4 (HF2.out.mono (by simp)) (.inl (by simp)) _ _ _ _) ?_
      simp only [Act.put, List.setIfInBounds_toArray, List.set_cons_succ, List.set_cons_zero]
      refine Seq3.wpL_quiet rfl rfl rfl (fun K hK => ?_)
      go_big_quiet_op
      first | refine hK _ ?_ | refine ⟨_, by intros; rfl, hK _ ?_⟩
      clear hK K
      refine Seq3.wpL_nil ?_
      go_wp2_with fail
      refine bodyPost_ret (ret_plan rfl _ (w.heap.size + 3) rfl _ rfl _ _ _ _ _ (blkPut4 (HB3.out.keep HF2.out (by simp)) _ _ _ _)) rfl ⟨⟨k, lk, li, lz, bd, rfl, ?_⟩, frPut4 (HF1.out.trans HF2.out) (.inr (by omega)) _ _ _ _⟩
      cases bd
      · exact .inr ⟨rfl, HO.out.trans (if_neg (fun h => of_decide_eq_false hbd h.2.2.2.2.2))⟩
      · exact .inl ⟨rfl, HO.out.trans (if_pos ⟨HG.out.1, HG.out.2.1, HG.out.2.2, by omega, by first | rfl | trivial, of_decide_eq_true hbd⟩)⟩
end Pn
end Go.Proofs.YtmdnhinpaflamaaDoor
