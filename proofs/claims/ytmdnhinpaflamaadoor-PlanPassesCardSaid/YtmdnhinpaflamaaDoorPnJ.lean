/- plan: the document's Choose. -/
import Derived.Test.YtmdnhinpaflamaaDoorPnI
import Derived.Deep.CutRange
namespace Go.Proofs.YtmdnhinpaflamaaDoor
open Go.RowKit
set_option linter.unusedVariables false
set_option linter.unusedSimpArgs false
namespace Pn
open PM (Ex B Col)
open Px (ColS colC z7 put7 frPut7 blkPut7 ret_cell7 c7_of)
open Gn (put3 frPut3 blkPut3 c3_of)
theorem ret_rch {fn : Func} {n m : Nat} (h : fn.results = #[.tmp m, .cell n 38]) (tmps : Array Value) (b : Nat) (h2 : tmps.getD n undef = .pointer (some ⟨b, 0, none⟩)) (v : Value) (h3 : tmps.getD m undef = v) (w : World) (a0 a1 a2 : Value) (hb : Blk w b 38 [a0, a1, a2]) :
    (results fn tmps).run Tryd.prog w = .ok (.tuple #[v, .agg #[a0, a1, a2]]) w := by
  have c0 := hb.cell 0
  have c1 := hb.cell 1
  have c2 := hb.cell 2
  simp only [List.getElem?_cons_zero, List.getElem?_cons_succ] at c0 c1 c2
  have h2' : tmps[n]?.getD undef = .pointer (some ⟨b, 0, none⟩) := by simpa using h2
  have h3' : tmps[m]?.getD undef = v := by simpa using h3
  simp [results, h, h2', h3', go_sem, c0, c1, c2]
/-- a way, or none, as the document tells it -/
def RcR (o : Option (Int × Int × Int × B)) (e : Ending) : Prop :=
  ∃ (p k i : Int) (t : B), e = .returned (.tuple #[.int .i64 p, .agg #[.int .i64 k, .int .i64 i, .string ⟨t.toArray⟩]]) ∧ o.getD (-1, 0, 0, []) = (p, k, i, t)
/-- a column at hand and a literal, in their blocks -/
structure ColLit (tn : B) (l : List Col) (ix : List B) (a ia : Option Addr) (c ic : Nat) (o : Option (Int × Int × Int × B)) (bp bq : Nat) (w wr : World) : Prop where
  ex : ∃ (co ck ci : Int) (cz ct cm : B) (ca : Option Addr) (cn cc : Nat) (lo lk li : Int) (lz lt lm : B) (la : Option Addr) (ln lc : Nat),
    Hid (Blk wr bp 41 [.int .i64 co, .int .i64 ck, .int .i64 ci, .string ⟨cz.toArray⟩, .string ⟨ct.toArray⟩, .string ⟨cm.toArray⟩, .slice ca cn cc]) ∧ Hid (Blk wr bq 41 [.int .i64 lo, .int .i64 lk, .int .i64 li, .string ⟨lz.toArray⟩, .string ⟨lt.toArray⟩, .string ⟨lm.toArray⟩, .slice la ln lc]) ∧
    Hid (o = if co = 2 ∧ lo = 1 ∧ (ct = [] ∨ ct = tn) ∧ 0 ≤ place l cm ∧ indexed ⟨tn, l, ix⟩ cm = true ∧ kindAt l (place l cm) = lk then some (place l cm, lk, li, lz) else none) ∧
    Hid (Blk wr (w.heap.size + 1) 38 [.int .i64 0, .int .i64 0, .string ⟨#[]⟩]) ∧ Hid (Blk wr w.heap.size 27 [.string ⟨tn.toArray⟩, .slice a l.length c, .slice ia ix.length ic]) ∧ Hid (Fr [] w wr)
set_option maxRecDepth 1000000 in
set_option maxHeartbeats 4000000 in
/-- Choose -/
theorem rchoose_any (tn : B) (l : List Col) (ix : List B) (A A2 : Nat → Prop) (a ia : Option Addr) (c ic : Nat) (hl : l.length ≤ 100) (hil : ix.length ≤ 100) (x : Ex) (v : Value) (w : World)
    (h : TR A w ⟨tn, l, ix⟩ a c ia ic) (hE : Rep.Es 41 A2 w [x] v) :
    Calls Tryd.prog 13 #[.agg #[.string ⟨tn.toArray⟩, .slice a l.length c, .slice ia ix.length ic], v] w fun e w' => RcR (wayOf ⟨tn, l, ix⟩ x) e ∧ Fr [] w w' := by
  have hf0 := ((Fr.refl [] w).alloc (.cells #[.string ⟨tn.toArray⟩, .slice a l.length c, .slice ia ix.length ic] 27)).alloc (.cells #[.int .i64 0, .int .i64 0, .string ⟨#[]⟩] 38)
  have hb0 := (Blk.new w 27 [.string ⟨tn.toArray⟩, .slice a l.length c, .slice ia ix.length ic]).alloc (.cells #[.int .i64 0, .int .i64 0, .string ⟨#[]⟩] 38)
  have hb1 := Blk.new (w.alloc (.cells #[.string ⟨tn.toArray⟩, .slice a l.length c, .slice ia ix.length ic] 27)) 38 [.int .i64 0, .int .i64 0, .string ⟨#[]⟩]
  rw [World.size_alloc] at hb1
  obtain ⟨lg, loff, lcap, ys, rfl, hcap, -, hy, hc⟩ := Rep.Es.at hE 0 (by simp)
  simp only [List.getElem_cons_zero] at hy
  have HC := Lib.hid (rfirst_any x _ _ _ (Rep.E.keep hf0 (by simp) hy))
  obtain ⟨xo, xk, xi, xz, xt, xm, xg, xa, xn, xc, hx, rfl, -⟩ := Sm.e_cells hy
  have hlgl : lg < w.heap.size := World.block_lt_of_cell? w _ (hc 0 _ rfl)
  have z0 := (hf0.cell (p := ⟨lg, loff + 0 * 7, none⟩) hlgl (by simp)).trans (hc 0 _ rfl)
  have z1 := (hf0.cell (p := ⟨lg, loff + 0 * 7 + 1, none⟩) hlgl (by simp)).trans (hc 1 _ rfl)
  have z2 := (hf0.cell (p := ⟨lg, loff + 0 * 7 + 2, none⟩) hlgl (by simp)).trans (hc 2 _ rfl)
  have z3 := (hf0.cell (p := ⟨lg, loff + 0 * 7 + 3, none⟩) hlgl (by simp)).trans (hc 3 _ rfl)
  have z4 := (hf0.cell (p := ⟨lg, loff + 0 * 7 + 4, none⟩) hlgl (by simp)).trans (hc 4 _ rfl)
  have z5 := (hf0.cell (p := ⟨lg, loff + 0 * 7 + 5, none⟩) hlgl (by simp)).trans (hc 5 _ rfl)
  have z6 := (hf0.cell (p := ⟨lg, loff + 0 * 7 + 6, none⟩) hlgl (by simp)).trans (hc 6 _ rfl)
  simp only [Nat.zero_mul, Nat.add_zero, List.getElem?_cons_zero, List.getElem?_cons_succ] at z0 z1 z2 z3 z4 z5 z6
  have hcp : (1 : Int) ≤ lcap := by simp at hcap; omega
  have HB0 := Lib.hid hb0
  have HB1 := Lib.hid hb1
  have HF0 := Lib.hid hf0
  have HTR := Lib.hid h
  have HOF : Hid (wayOf ⟨tn, l, ix⟩ x = wayX ⟨tn, l, ix⟩ (first x)) := Lib.hid rfl
  generalize wayOf ⟨tn, l, ix⟩ x = o at HOF ⊢
  generalize first x = y at HC HOF
  have hlg0 : lg < ((w.alloc (.cells #[.string ⟨tn.toArray⟩, .slice a l.length c, .slice ia ix.length ic] 27)).alloc (.cells #[.int .i64 0, .int .i64 0, .string ⟨#[]⟩] 38)).heap.size := Nat.lt_of_lt_of_le hlgl hf0.size
  clear h hE hx hf0 hb1 hb0 hc hcap hy
  simp only [List.length_cons, List.length_nil, Nat.zero_add]
  go_enter Tryd.func13, Tryd.ntmps13
  go_upto_region 1 with fail
  generalize (w.alloc (.cells #[.string ⟨tn.toArray⟩, .slice a l.length c, .slice ia ix.length ic] 27)).alloc (.cells #[.int .i64 0, .int .i64 0, .string ⟨#[]⟩] 38) = w0 at HB1 HB0 HF0 HC hlg0 z0 z1 z2 z3 z4 z5 z6 ⊢
  go_wp2_with fail
  refine HC.out.mono ?_
  rintro e w1 ⟨⟨ys, rfl, hy⟩, hf1⟩
  have HB2 := Lib.hid (HB1.out.keep hf1 (by simp))
  have HT2 := Lib.hid (HB0.out.keep hf1 (by simp))
  have HF1 := Lib.hid (HF0.out.trans hf1)
  clear hf1 HC HB1 HB0 z0 z1 z2 z3 z4 z5 z6 hlg0
  obtain ⟨yo, yk, yi, yz, yt, ym, yg, ya, yn, yc, rfl, rfl, hes⟩ := Sm.e_cells hy
  have hyn := es_len hes
  have HES := Lib.hid hes
  have hbl := HB2.out.lt
  have hbl0 := HT2.out.lt
  have HFA := Lib.hid (HF1.out.alloc (.cells #[.int .i64 yo, .int .i64 yk, .int .i64 yi, .string ⟨yz.toArray⟩, .string ⟨yt.toArray⟩, .string ⟨ym.toArray⟩, .slice ya yn yc] 41))
  have HYB := Lib.hid (Blk.new w1 41 [.int .i64 yo, .int .i64 yk, .int .i64 yi, .string ⟨yz.toArray⟩, .string ⟨yt.toArray⟩, .string ⟨ym.toArray⟩, .slice ya yn yc])
  have HB3 := Lib.hid (HB2.out.alloc (.cells #[.int .i64 yo, .int .i64 yk, .int .i64 yi, .string ⟨yz.toArray⟩, .string ⟨yt.toArray⟩, .string ⟨ym.toArray⟩, .slice ya yn yc] 41))
  have HT3 := Lib.hid (HT2.out.alloc (.cells #[.int .i64 yo, .int .i64 yk, .int .i64 yi, .string ⟨yz.toArray⟩, .string ⟨yt.toArray⟩, .string ⟨ym.toArray⟩, .slice ya yn yc] 41))
  have hne : ¬ w.heap.size + 1 = w1.heap.size := by omega
  have hne2 : ¬ w1.heap.size = w.heap.size + 1 := by omega
  by_cases hok : yo = 8 ∧ yg.length = 2
  · obtain ⟨rfl, h2⟩ := hok
    obtain ⟨p, q, rfl⟩ : ∃ p q, yg = [p, q] := by
      cases yg with
      | nil => cases h2
      | cons p r =>
        cases r with
        | nil => cases h2
        | cons q r => cases r with
          | nil => exact ⟨p, q, rfl⟩
          | cons _ _ => simp at h2
    obtain rfl : yn = 2 := hyn
    clear h2
    have HO2 : Hid (o = (way ⟨tn, l, ix⟩ p q).or (way ⟨tn, l, ix⟩ q p)) := Lib.hid HOF.out
    have hesa := Rep.Es.keep ((Fr.refl [] w1).alloc (.cells #[.int .i64 8, .int .i64 yk, .int .i64 yi, .string ⟨yz.toArray⟩, .string ⟨yt.toArray⟩, .string ⟨ym.toArray⟩, .slice ya 2 yc] 41)) (by simp) hes
    obtain ⟨gp, offp, capp, ysp, hvp, hcapp, -, hyp, hcp⟩ := Rep.Es.at hesa 0 (by simp)
    simp only [Value.slice.injEq] at hvp
    obtain ⟨rfl, -, rfl⟩ := hvp
    simp only [List.getElem_cons_zero, List.getElem_cons_succ] at hyp
    obtain ⟨po, pk, pi, pz, pt, pm, pg, pa, pn, pc, rfl, rfl, -⟩ := Sm.e_cells hyp
    obtain ⟨gq, offq, capq, ysq, hvq, hcapq, -, hyq, hcq⟩ := Rep.Es.at hesa 1 (by simp)
    simp only [Value.slice.injEq] at hvq
    simp only [Option.some.injEq, Addr.mk.injEq, and_true] at hvq
    obtain ⟨⟨rfl, rfl⟩, -, rfl⟩ := hvq
    simp only [List.getElem_cons_zero, List.getElem_cons_succ] at hyq
    obtain ⟨qo, qk, qi, qz, qt, qm, qg, qa, qn, qc, rfl, rfl, -⟩ := Sm.e_cells hyq
    skip
    have p0_ := hcp 0 _ rfl
    have p1_ := hcp 1 _ rfl
    have p2_ := hcp 2 _ rfl
    have p3_ := hcp 3 _ rfl
    have p4_ := hcp 4 _ rfl
    have p5_ := hcp 5 _ rfl
    have p6_ := hcp 6 _ rfl
    have q0_ := hcq 0 _ rfl
    have q1_ := hcq 1 _ rfl
    have q2_ := hcq 2 _ rfl
    have q3_ := hcq 3 _ rfl
    have q4_ := hcq 4 _ rfl
    have q5_ := hcq 5 _ rfl
    have q6_ := hcq 6 _ rfl
    simp only [Nat.zero_mul, Nat.one_mul, Nat.add_zero, List.getElem?_cons_zero, List.getElem?_cons_succ] at p0_ q0_ p1_ q1_ p2_ q2_ p3_ q3_ p4_ q4_ p5_ q5_ p6_ q6_
    have hyc : (2 : Int) ≤ yc := by simp at hcapp; omega
    have hgb := World.block_lt_of_cell? _ _ p0_
    clear hes hesa hy hyp hyq hcapp hcapq
    clear hcp hcq
    go_upto_region 6 with fail
    generalize w1.alloc (.cells #[.int .i64 8, .int .i64 yk, .int .i64 yi, .string ⟨yz.toArray⟩, .string ⟨yt.toArray⟩, .string ⟨ym.toArray⟩, .slice (some ⟨gp, offp, none⟩) 2 yc] 41) = w2 at HFA HYB HB3 HT3 hgb p0_ q0_ p1_ q1_ p2_ q2_ p3_ q3_ p4_ q4_ p5_ q5_ p6_ q6_ ⊢
    obtain ⟨e0, e1, e2, e3, e4, e5, e6, -⟩ := c7_of HYB.out
    have hyl := HYB.out.lt
    have HWP : Hid (way ⟨tn, l, ix⟩ (.mk po pk pi pz pt pm pg) (.mk qo qk qi qz qt qm qg) = if po = 2 ∧ qo = 1 ∧ (pt = [] ∨ pt = tn) ∧ 0 ≤ place l pm ∧ indexed ⟨tn, l, ix⟩ pm = true ∧ kindAt l (place l pm) = qk then some (place l pm, qk, qi, qz) else none) := Lib.hid rfl
    have HWQ : Hid (way ⟨tn, l, ix⟩ (.mk qo qk qi qz qt qm qg) (.mk po pk pi pz pt pm pg) = if qo = 2 ∧ po = 1 ∧ (qt = [] ∨ qt = tn) ∧ 0 ≤ place l qm ∧ indexed ⟨tn, l, ix⟩ qm = true ∧ kindAt l (place l qm) = pk then some (place l qm, pk, pi, pz) else none) := Lib.hid rfl
    generalize way ⟨tn, l, ix⟩ (.mk po pk pi pz pt pm pg) (.mk qo qk qi qz qt qm qg) = o1 at HO2 HWP
    generalize way ⟨tn, l, ix⟩ (.mk qo qk qi qz qt qm qg) (.mk po pk pi pz pt pm pg) = o2 at HO2 HWQ
    go_cut [7, 8] from 28 to 35 (fun s7 s8 wc => ∃ bp bq : Nat, s7 = .pointer (some ⟨bp, 0, none⟩) ∧ s8 = .pointer (some ⟨bq, 0, none⟩) ∧ ¬ bp = bq ∧ w.heap.size + 1 < bp ∧ w.heap.size + 1 < bq ∧ Hid (Blk wc bp 41 [.int .i64 po, .int .i64 pk, .int .i64 pi, .string ⟨pz.toArray⟩, .string ⟨pt.toArray⟩, .string ⟨pm.toArray⟩, .slice pa pn pc]) ∧ Hid (Blk wc bq 41 [.int .i64 qo, .int .i64 qk, .int .i64 qi, .string ⟨qz.toArray⟩, .string ⟨qt.toArray⟩, .string ⟨qm.toArray⟩, .slice qa qn qc]) ∧ Hid (Blk wc (w.heap.size + 1) 38 [.int .i64 0, .int .i64 0, .string ⟨#[]⟩]) ∧ Hid (Blk wc w.heap.size 27 [.string ⟨tn.toArray⟩, .slice a l.length c, .slice ia ix.length ic]) ∧ Hid (Fr [] w wc))
    case first =>
      go_region
      · skip
        have hP0 := ((Blk.new w2 41 [.int .i64 po, .int .i64 pk, .int .i64 pi, .string ⟨pz.toArray⟩, .string ⟨pt.toArray⟩, .string ⟨pm.toArray⟩, .slice pa pn pc]).alloc (.cells #[.int .i64 qo, .int .i64 qk, .int .i64 qi, .string ⟨qz.toArray⟩, .string ⟨qt.toArray⟩, .string ⟨qm.toArray⟩, .slice qa qn qc] 41)).drew
        have hQ0 := (Blk.new (w2.alloc (.cells #[.int .i64 po, .int .i64 pk, .int .i64 pi, .string ⟨pz.toArray⟩, .string ⟨pt.toArray⟩, .string ⟨pm.toArray⟩, .slice pa pn pc] 41)) 41 [.int .i64 qo, .int .i64 qk, .int .i64 qi, .string ⟨qz.toArray⟩, .string ⟨qt.toArray⟩, .string ⟨qm.toArray⟩, .slice qa qn qc]).drew
        rw [World.size_alloc] at hQ0
        have HP := Lib.hid hP0
        have HQ := Lib.hid hQ0
        have hff := (((Fr.refl [] w2).alloc (.cells #[.int .i64 po, .int .i64 pk, .int .i64 pi, .string ⟨pz.toArray⟩, .string ⟨pt.toArray⟩, .string ⟨pm.toArray⟩, .slice pa pn pc] 41)).alloc (.cells #[.int .i64 qo, .int .i64 qk, .int .i64 qi, .string ⟨qz.toArray⟩, .string ⟨qt.toArray⟩, .string ⟨qm.toArray⟩, .slice qa qn qc] 41)).drew
        have HF3 := Lib.hid (HFA.out.trans hff)
        have HB4 := Lib.hid (HB3.out.keep hff (by simp))
        have HT4 := Lib.hid (HT3.out.keep hff (by simp))
        go_wp2_with fail
        go_meet
        exact ⟨w2.heap.size, w2.heap.size + 1, rfl, rfl, by omega, by omega, by omega, HP, HQ, HB4, HT4, HF3⟩
      · skip
        have hP0 := ((Blk.new w2 41 [.int .i64 qo, .int .i64 qk, .int .i64 qi, .string ⟨qz.toArray⟩, .string ⟨qt.toArray⟩, .string ⟨qm.toArray⟩, .slice qa qn qc]).alloc (.cells #[.int .i64 po, .int .i64 pk, .int .i64 pi, .string ⟨pz.toArray⟩, .string ⟨pt.toArray⟩, .string ⟨pm.toArray⟩, .slice pa pn pc] 41)).drew
        have hQ0 := (Blk.new (w2.alloc (.cells #[.int .i64 qo, .int .i64 qk, .int .i64 qi, .string ⟨qz.toArray⟩, .string ⟨qt.toArray⟩, .string ⟨qm.toArray⟩, .slice qa qn qc] 41)) 41 [.int .i64 po, .int .i64 pk, .int .i64 pi, .string ⟨pz.toArray⟩, .string ⟨pt.toArray⟩, .string ⟨pm.toArray⟩, .slice pa pn pc]).drew
        rw [World.size_alloc] at hQ0
        have HQ := Lib.hid hP0
        have HP := Lib.hid hQ0
        have hff := (((Fr.refl [] w2).alloc (.cells #[.int .i64 qo, .int .i64 qk, .int .i64 qi, .string ⟨qz.toArray⟩, .string ⟨qt.toArray⟩, .string ⟨qm.toArray⟩, .slice qa qn qc] 41)).alloc (.cells #[.int .i64 po, .int .i64 pk, .int .i64 pi, .string ⟨pz.toArray⟩, .string ⟨pt.toArray⟩, .string ⟨pm.toArray⟩, .slice pa pn pc] 41)).drew
        have HF3 := Lib.hid (HFA.out.trans hff)
        have HB4 := Lib.hid (HB3.out.keep hff (by simp))
        have HT4 := Lib.hid (HT3.out.keep hff (by simp))
        go_wp2_with fail
        go_meet
        exact ⟨w2.heap.size + 1, w2.heap.size, rfl, rfl, by omega, by omega, by omega, HP, HQ, HB4, HT4, HF3⟩
    clear p0_ q0_ p1_ q1_ p2_ q2_ p3_ q3_ p4_ q4_ p5_ q5_ p6_ q6_ e0 e1 e2 e3 e4 e5 e6 hgb HYB HB3 HT3 HFA hyl
    obtain ⟨bp, bq, rfl, rfl, hpq1, hgbp, hgbq, HP, HQ, HB4, HT4, HF3⟩ := hcut
    have hpq2 : ¬ bq = bp := fun h => hpq1 h.symm
    have hbpr : ¬ bp = w.heap.size + 1 := by omega
    have hbps : ¬ w.heap.size + 1 = bp := by omega
    have hbpt : ¬ bp = w.heap.size := by omega
    have hbpu : ¬ w.heap.size = bp := by omega
    have hbqr : ¬ bq = w.heap.size + 1 := by omega
    have hbqs : ¬ w.heap.size + 1 = bq := by omega
    have hbqt : ¬ bq = w.heap.size := by omega
    have hbqu : ¬ w.heap.size = bq := by omega
    have hlp := HP.out.lt
    have hlq := HQ.out.lt
    have hlb := HB4.out.lt
    have hlt := HT4.out.lt
    obtain ⟨k0, k1, k2, k3, k4, k5, k6, j0, j1, j2, j3, j4, j5, j6⟩ := c7_of HP.out
    obtain ⟨m0, m1, m2, m3, m4, m5, m6, i0, i1, i2, i3, i4, i5, i6⟩ := c7_of HQ.out
    go_upto_if 38 with fail
    go_cut [] from 39 to 40 (fun wr => ColLit tn l ix a ia c ic o bp bq w wr)
    case first =>
      by_cases hpo : po = 1
      · have HNO : Hid (o = if qo = 2 ∧ po = 1 ∧ (qt = [] ∨ qt = tn) ∧ 0 ≤ place l qm ∧ indexed ⟨tn, l, ix⟩ qm = true ∧ kindAt l (place l qm) = pk then some (place l qm, pk, pi, pz) else none) := Lib.hid (by rw [HO2.out, HWP.out, if_neg (by omega), Option.none_or, HWQ.out])
        subst hpo
        go_wp2_with fail
        have hf7 := frPut7 (T := bq) (frPut7 (T := bp) (Fr.refl [some bp, some bq] wc) (.inl (by simp)) (.int .i64 qo) (.int .i64 qk) (.int .i64 qi) (.string ⟨qz.toArray⟩) (.string ⟨qt.toArray⟩) (.string ⟨qm.toArray⟩) (.slice qa qn qc)) (.inl (by simp)) (.int .i64 1) (.int .i64 pk) (.int .i64 pi) (.string ⟨pz.toArray⟩) (.string ⟨pt.toArray⟩) (.string ⟨pm.toArray⟩) (.slice pa pn pc)
        have HP7 := Lib.hid ((blkPut7 HP.out rfl (.int .i64 qo) (.int .i64 qk) (.int .i64 qi) (.string ⟨qz.toArray⟩) (.string ⟨qt.toArray⟩) (.string ⟨qm.toArray⟩) (.slice qa qn qc)).keep (frPut7 (T := bq) (Fr.refl [some bq] _) (.inl (by simp)) (.int .i64 1) (.int .i64 pk) (.int .i64 pi) (.string ⟨pz.toArray⟩) (.string ⟨pt.toArray⟩) (.string ⟨pm.toArray⟩) (.slice pa pn pc)) (by simp; omega))
        have HQ7 := Lib.hid (blkPut7 (HQ.out.keep (frPut7 (T := bp) (Fr.refl [some bp] wc) (.inl (by simp)) (.int .i64 qo) (.int .i64 qk) (.int .i64 qi) (.string ⟨qz.toArray⟩) (.string ⟨qt.toArray⟩) (.string ⟨qm.toArray⟩) (.slice qa qn qc)) (by simp; omega)) rfl (.int .i64 1) (.int .i64 pk) (.int .i64 pi) (.string ⟨pz.toArray⟩) (.string ⟨pt.toArray⟩) (.string ⟨pm.toArray⟩) (.slice pa pn pc))
        have HF7 : Hid (Fr [] w (put7 (put7 wc bp (.int .i64 qo) (.int .i64 qk) (.int .i64 qi) (.string ⟨qz.toArray⟩) (.string ⟨qt.toArray⟩) (.string ⟨qm.toArray⟩) (.slice qa qn qc)) bq (.int .i64 1) (.int .i64 pk) (.int .i64 pi) (.string ⟨pz.toArray⟩) (.string ⟨pt.toArray⟩) (.string ⟨pm.toArray⟩) (.slice pa pn pc))) := Lib.hid (HF3.out.trans' hf7 (fun i hi => .inr (by simp at hi; rcases hi with h | h <;> omega)))
        have HB7 := Lib.hid (HB4.out.keep hf7 (by simp; omega))
        have HT7 := Lib.hid (HT4.out.keep hf7 (by simp; omega))
        clear hf7
        go_meet
        change ColLit tn l ix a ia c ic o bp bq w (put7 (put7 wc bp (.int .i64 qo) (.int .i64 qk) (.int .i64 qi) (.string ⟨qz.toArray⟩) (.string ⟨qt.toArray⟩) (.string ⟨qm.toArray⟩) (.slice qa qn qc)) bq (.int .i64 1) (.int .i64 pk) (.int .i64 pi) (.string ⟨pz.toArray⟩) (.string ⟨pt.toArray⟩) (.string ⟨pm.toArray⟩) (.slice pa pn pc))
        exact ⟨⟨qo, qk, qi, qz, qt, qm, qa, qn, qc, 1, pk, pi, pz, pt, pm, pa, pn, pc, HP7, HQ7, Lib.hid (by have h := HNO.out; simpa using h), HB7, HT7, HF7⟩⟩
      · have HNO : Hid (o = if po = 2 ∧ qo = 1 ∧ (pt = [] ∨ pt = tn) ∧ 0 ≤ place l pm ∧ indexed ⟨tn, l, ix⟩ pm = true ∧ kindAt l (place l pm) = qk then some (place l pm, qk, qi, qz) else none) := Lib.hid (by rw [HO2.out, HWQ.out, if_neg (fun h => hpo h.2.1), Option.or_none, HWP.out])
        have hpb : (po == 1) = false := beq_eq_false_iff_ne.2 hpo
        clear hpo
        go_wp2_with fail
        go_meet
        exact ⟨⟨po, pk, pi, pz, pt, pm, pa, pn, pc, qo, qk, qi, qz, qt, qm, qa, qn, qc, HP, HQ, HNO, HB4, HT4, HF3⟩⟩
    case rest =>
      clear HP HQ HB4 HT4 HF3 k0 k1 k2 k3 k4 k5 k6 m0 m1 m2 m3 m4 m5 m6 j0 j1 j2 j3 j4 j5 j6 i0 i1 i2 i3 i4 i5 i6 hlp hlq hlb hlt HO2 HWP HWQ
      generalize wc = wx at hcut ⊢
      obtain ⟨co, ck, ci, cz, ct, cm, ca, cn, cc, lo, lk, li, lz, lt, lm, la, ln, lc, HP, HQ, HO3, HB, HT, HF⟩ := hcut.ex
      have hlp := HP.out.lt
      have hlq := HQ.out.lt
      have hlb := HB.out.lt
      have hlt := HT.out.lt
      obtain ⟨k0, k1, k2, k3, k4, k5, k6, -⟩ := c7_of HP.out
      obtain ⟨m0, m1, m2, m3, m4, m5, m6, -⟩ := c7_of HQ.out
      have t0 := HT.out.cell 0
      have t1 := HT.out.cell 1
      have t2 := HT.out.cell 2
      simp only [List.getElem?_cons_zero, List.getElem?_cons_succ] at t0 t1 t2
      have v := c3_of HB.out
      obtain ⟨v0, v1, v2, f0, f1, f2⟩ := v
      have HCO := Lib.hid (rcolumn_any tn l ix cm A a ia c ic hl wx (HTR.out.keep HF.out (by simp)))
      have hpg := place_ge l cm
      have hpl := place_lt l cm
      generalize place l cm = pl at HCO hpg hpl HO3
      go_upto_region 9 with fail
      go_cut [60] from 41 to 60 (fun s wr => wr = wx ∧ ∃ b : Bool, s = .bool b ∧ Hid (b = false ↔ (co = 2 ∧ lo = 1 ∧ (ct = [] ∨ ct = tn))))
      case first =>
        by_cases h1 : co = 2
        case neg =>
          go_wp2_with fail
          go_meet
          exact ⟨rfl, _, rfl, Lib.hid (by simp [h1])⟩
        subst h1
        by_cases h1 : lo = 1
        case neg =>
          go_wp2_with fail
          go_meet
          exact ⟨rfl, _, rfl, Lib.hid (by simp [h1])⟩
        subst h1
        by_cases h1 : ct = []
        case pos =>
          subst h1
          go_wp2_with fail
          go_meet
          exact ⟨rfl, _, rfl, Lib.hid (by simp)⟩
        by_cases h2 : ct = tn
        case pos =>
          subst h2
          go_wp2_with fail
          go_meet
          exact ⟨rfl, _, rfl, Lib.hid (by simp)⟩
        go_wp2_with fail
        go_meet
        exact ⟨rfl, _, rfl, Lib.hid (by simp [h1, h2])⟩
      case rest =>
        obtain ⟨rfl, b, rfl, HB9⟩ := hcut
        cases b
        case true =>
          go_wp2_with fail
          refine bodyPost_ret (ret_rch rfl _ (w.heap.size + 1) rfl _ rfl _ _ _ _ (blkPut3 HB.out _ _ _)) rfl ⟨⟨-1, 0, 0, [], rfl, ?_⟩, frPut3 HF.out (.inr (by omega)) _ _ _⟩
          refine (congrArg (fun z : Option (Int × Int × Int × B) => z.getD (-1, 0, 0, [])) (HO3.out.trans (if_neg ?_))).trans rfl
          exact fun h => absurd (HB9.out.2 ⟨h.1, h.2.1, h.2.2.1⟩) (by decide)
        case false =>
          have HG := Lib.hid (HB9.out.1 rfl)
          go_wp2_with fail
          refine HCO.out.mono ?_
          rintro e w5 ⟨rfl, hf5⟩
          have HB5 := Lib.hid (HB.out.keep hf5 (by simp))
          have HT5 := Lib.hid (HT.out.keep hf5 (by simp))
          have HP5 := Lib.hid (HP.out.keep hf5 (by simp))
          have HQ5 := Lib.hid (HQ.out.keep hf5 (by simp))
          have HF5 := Lib.hid (HF.out.trans hf5)
          have hb5 := HB5.out.lt
          clear hf5 HCO k0 k1 k2 k3 k4 k5 k6 m0 m1 m2 m3 m4 m5 m6 t0 t1 t2 v0 v1 v2 f0 f1 f2
          have vv := c3_of HB5.out
          obtain ⟨v0, v1, v2, f0, f1, f2⟩ := vv
          go_upto_region 12 with fail
          by_cases hneg : pl < 0
          · have hd0 : decide (pl < 0) = true := decide_eq_true hneg
            refine Seq3.wp_region_text (fun i => i != 6) (fun _ => none) (fun i => false) (fun W => Fr [] w5 W) (by kernel_rfl) (by kernel_rfl) (Fr.drew (Fr.refl [] w5)) ?_
            refine Seq3.wpL_quiet rfl rfl rfl (fun K hK => ?_)
            go_big_quiet_op
            first | refine hK _ ?_ | refine ⟨_, by intros; rfl, hK _ ?_⟩
            clear hK K
            refine Seq3.wpL_held (v := .bool true) rfl rfl (fun wz hz => ?_) ?_
            · simp [go_sem, execOp, hneg]
            simp only [Act.put, List.setIfInBounds_toArray, List.set_cons_succ, List.set_cons_zero]
            refine Seq3.wpL_quiet rfl rfl rfl (fun K hK => ?_)
            go_big_quiet_op
            first | refine hK _ ?_ | refine ⟨_, by intros; rfl, hK _ ?_⟩
            clear hK K
            refine Seq3.wpL_skip (Fr.drew (Fr.refl [] w5)) rfl ?_
            simp only [Act.put, List.setIfInBounds_toArray, List.set_cons_succ, List.set_cons_zero]
            refine Seq3.wpL_skip (Fr.drew (Fr.refl [] w5)) rfl ?_
            simp only [Act.put, List.setIfInBounds_toArray, List.set_cons_succ, List.set_cons_zero]
            refine Seq3.wpL_skip (Fr.drew (Fr.refl [] w5)) rfl ?_
            simp only [Act.put, List.setIfInBounds_toArray, List.set_cons_succ, List.set_cons_zero]
            refine Seq3.wpL_skip (Fr.drew (Fr.refl [] w5)) rfl ?_
            simp only [Act.put, List.setIfInBounds_toArray, List.set_cons_succ, List.set_cons_zero]
            refine Seq3.wpL_skip (Fr.drew (Fr.refl [] w5)) rfl ?_
            simp only [Act.put, List.setIfInBounds_toArray, List.set_cons_succ, List.set_cons_zero]
            refine Seq3.wpL_held (v := .bool true) rfl rfl (fun wz hz => ?_) ?_
            · simp [go_sem, execOp]
            simp only [Act.put, List.setIfInBounds_toArray, List.set_cons_succ, List.set_cons_zero]
            refine Seq3.wpL_quiet rfl rfl rfl (fun K hK => ?_)
            go_big_quiet_op
            first | refine hK _ ?_ | refine ⟨_, by intros; rfl, hK _ ?_⟩
            clear hK K
            refine Seq3.wpL_skip (Fr.drew (Fr.refl [] w5)) rfl ?_
            simp only [Act.put, List.setIfInBounds_toArray, List.set_cons_succ, List.set_cons_zero]
            refine Seq3.wpL_skip (Fr.drew (Fr.refl [] w5)) rfl ?_
            simp only [Act.put, List.setIfInBounds_toArray, List.set_cons_succ, List.set_cons_zero]
            refine Seq3.wpL_skip (Fr.drew (Fr.refl [] w5)) rfl ?_
            simp only [Act.put, List.setIfInBounds_toArray, List.set_cons_succ, List.set_cons_zero]
            refine Seq3.wpL_skip (Fr.drew (Fr.refl [] w5)) rfl ?_
            simp only [Act.put, List.setIfInBounds_toArray, List.set_cons_succ, List.set_cons_zero]
            refine Seq3.wpL_skip (Fr.drew (Fr.refl [] w5)) rfl ?_
            simp only [Act.put, List.setIfInBounds_toArray, List.set_cons_succ, List.set_cons_zero]
            refine Seq3.wpL_skip (Fr.drew (Fr.refl [] w5)) rfl ?_
            simp only [Act.put, List.setIfInBounds_toArray, List.set_cons_succ, List.set_cons_zero]
            refine Seq3.wpL_skip (Fr.drew (Fr.refl [] w5)) rfl ?_
            simp only [Act.put, List.setIfInBounds_toArray, List.set_cons_succ, List.set_cons_zero]
            refine Seq3.wpL_skip (Fr.drew (Fr.refl [] w5)) rfl ?_
            simp only [Act.put, List.setIfInBounds_toArray, List.set_cons_succ, List.set_cons_zero]
            refine Seq3.wpL_skip (Fr.drew (Fr.refl [] w5)) rfl ?_
            simp only [Act.put, List.setIfInBounds_toArray, List.set_cons_succ, List.set_cons_zero]
            refine Seq3.wpL_skip (Fr.drew (Fr.refl [] w5)) rfl ?_
            simp only [Act.put, List.setIfInBounds_toArray, List.set_cons_succ, List.set_cons_zero]
            refine Seq3.wpL_held (v := .bool true) rfl rfl (fun wz hz => ?_) ?_
            · simp [go_sem, execOp]
            simp only [Act.put, List.setIfInBounds_toArray, List.set_cons_succ, List.set_cons_zero]
            refine Seq3.wpL_nil ?_
            have HBe := Lib.hid HB5.out.drew
            have HFe := Lib.hid HF5.out.drew
            have hbe := HBe.out.lt
            go_wp2_with fail
            refine bodyPost_ret (ret_rch rfl _ (w.heap.size + 1) rfl _ rfl _ _ _ _ (blkPut3 HBe.out _ _ _)) rfl ⟨⟨-1, 0, 0, [], rfl, ?_⟩, frPut3 HFe.out (.inr (by omega)) _ _ _⟩
            refine (congrArg (fun z : Option (Int × Int × Int × B) => z.getD (-1, 0, 0, [])) (HO3.out.trans (if_neg ?_))).trans rfl
            rintro ⟨_, _, _, h4, h5, h6⟩
            omega
          · obtain ⟨k, rfl⟩ : ∃ k : Nat, pl = k := ⟨pl.toNat, by omega⟩
            have hk : k < l.length := by omega
            obtain ⟨g, off, rfl, -, hg, hcap, hc⟩ := (Sh.flat_form (cells := colC) (size := 3) (fun _ => rfl) HTR.out.cols).2.2 k hk
            have hck : ((l.length : Nat) : Int) ≤ c := by have h9 : l.length ≤ c := hcap; omega
            have hki : (k : Int) < (l.length : Int) := by omega
            have HK1 : Hid (∀ W, Fr [] w5 W → W.cell? ⟨g, off + k * 3 + 1, none⟩ = some (.int .i64 (kindAt l k))) := Lib.hid (fun W hW => ((HF5.out.trans hW).cell (p := ⟨g, off + k * 3 + 1, none⟩) hg (by simp)).trans ((hc 1 _ rfl).trans (by simp [kindAt, hk])))
            have HIX := Lib.hid (rindexed_any tn l ix cm A _ ia c ic hl hil w5.drew (HTR.out.keep HF5.out.drew (by simp)))
            generalize kindAt l k = kk at HK1 HO3
            generalize indexed ⟨tn, l, ix⟩ cm = ib at HIX HO3
            clear hc v0 v1 v2 f0 f1 f2
            cases ib
            · skip
              refine Seq3.wp_region_text (fun i => i != 6) (fun _ => none) (fun i => false) (fun W => Fr [] w5 W) (by kernel_rfl) (by kernel_rfl) (Fr.drew (Fr.refl [] w5)) ?_
              refine Seq3.wpL_quiet rfl rfl rfl (fun K hK => ?_)
              go_big_quiet_op
              first | refine hK _ ?_ | refine ⟨_, by intros; rfl, hK _ ?_⟩
              clear hK K
              refine Seq3.wpL_held (v := .bool false) rfl rfl (fun wz hz => ?_) ?_
              · simp [go_sem, execOp, hneg]
              simp only [Act.put, List.setIfInBounds_toArray, List.set_cons_succ, List.set_cons_zero]
              refine Seq3.wpL_quiet rfl rfl rfl (fun K hK => ?_)
              go_big_quiet_op
              first | refine hK _ ?_ | refine ⟨_, by intros; rfl, hK _ ?_⟩
              clear hK K
              refine Seq3.wpL_held (v := .agg #[.string ⟨tn.toArray⟩, .slice (some ⟨g, off, none⟩) l.length c, .slice ia ix.length ic]) rfl rfl (fun wz hz => ?_) ?_
              · have l0 := (HT5.out.keep hz (by simp)).cell 0
                have l1 := (HT5.out.keep hz (by simp)).cell 1
                have l2 := (HT5.out.keep hz (by simp)).cell 2
                simp [go_sem, execOp, l0, l1, l2]
              simp only [Act.put, List.setIfInBounds_toArray, List.set_cons_succ, List.set_cons_zero]
              refine Seq3.wpL_quiet rfl rfl rfl (fun K hK => ?_)
              go_big_quiet_op
              first | refine hK _ ?_ | refine ⟨_, by intros; rfl, hK _ ?_⟩
              clear hK K
              refine Seq3.wpL_held (v := .string ⟨cm.toArray⟩) rfl rfl (fun wz hz => ?_) ?_
              · have l0 := (HP5.out.keep hz (by simp)).cell 5
                simp [go_sem, execOp, l0]
              simp only [Act.put, List.setIfInBounds_toArray, List.set_cons_succ, List.set_cons_zero]
              refine Seq3.wpL_call rfl rfl (by first | kernel_rfl | simp [go_sem, execOp]) (HIX.out) ?_
              rintro e w6 ⟨rfl, hf6⟩
              have HF6 := Lib.hid ((Fr.drew (Fr.refl [] w5)).trans hf6)
              refine ⟨_, rfl, HF6.out, ?_⟩
              simp only [Act.put, List.setIfInBounds_toArray, List.set_cons_succ, List.set_cons_zero]
              refine Seq3.wpL_held (v := .bool true) rfl rfl (fun wz hz => ?_) ?_
              · simp [go_sem, execOp]
              simp only [Act.put, List.setIfInBounds_toArray, List.set_cons_succ, List.set_cons_zero]
              refine Seq3.wpL_held (v := .bool true) rfl rfl (fun wz hz => ?_) ?_
              · simp [go_sem, execOp]
              simp only [Act.put, List.setIfInBounds_toArray, List.set_cons_succ, List.set_cons_zero]
              refine Seq3.wpL_quiet rfl rfl rfl (fun K hK => ?_)
              go_big_quiet_op
              first | refine hK _ ?_ | refine ⟨_, by intros; rfl, hK _ ?_⟩
              clear hK K
              refine Seq3.wpL_skip (HF6.out) rfl ?_
              simp only [Act.put, List.setIfInBounds_toArray, List.set_cons_succ, List.set_cons_zero]
              refine Seq3.wpL_skip (HF6.out) rfl ?_
              simp only [Act.put, List.setIfInBounds_toArray, List.set_cons_succ, List.set_cons_zero]
              refine Seq3.wpL_skip (HF6.out) rfl ?_
              simp only [Act.put, List.setIfInBounds_toArray, List.set_cons_succ, List.set_cons_zero]
              refine Seq3.wpL_skip (HF6.out) rfl ?_
              simp only [Act.put, List.setIfInBounds_toArray, List.set_cons_succ, List.set_cons_zero]
              refine Seq3.wpL_skip (HF6.out) rfl ?_
              simp only [Act.put, List.setIfInBounds_toArray, List.set_cons_succ, List.set_cons_zero]
              refine Seq3.wpL_skip (HF6.out) rfl ?_
              simp only [Act.put, List.setIfInBounds_toArray, List.set_cons_succ, List.set_cons_zero]
              refine Seq3.wpL_skip (HF6.out) rfl ?_
              simp only [Act.put, List.setIfInBounds_toArray, List.set_cons_succ, List.set_cons_zero]
              refine Seq3.wpL_skip (HF6.out) rfl ?_
              simp only [Act.put, List.setIfInBounds_toArray, List.set_cons_succ, List.set_cons_zero]
              refine Seq3.wpL_skip (HF6.out) rfl ?_
              simp only [Act.put, List.setIfInBounds_toArray, List.set_cons_succ, List.set_cons_zero]
              refine Seq3.wpL_skip (HF6.out) rfl ?_
              simp only [Act.put, List.setIfInBounds_toArray, List.set_cons_succ, List.set_cons_zero]
              refine Seq3.wpL_held (v := .bool true) rfl rfl (fun wz hz => ?_) ?_
              · simp [go_sem, execOp]
              simp only [Act.put, List.setIfInBounds_toArray, List.set_cons_succ, List.set_cons_zero]
              refine Seq3.wpL_nil ?_
              have HBe := Lib.hid (HB5.out.keep HF6.out (by simp))
              have HFe := Lib.hid (HF5.out.trans HF6.out)
              have vv := c3_of HBe.out
              obtain ⟨v0, v1, v2, f0, f1, f2⟩ := vv
              have hbe := HBe.out.lt
              go_wp2_with fail
              refine bodyPost_ret (ret_rch rfl _ (w.heap.size + 1) rfl _ rfl _ _ _ _ (blkPut3 HBe.out _ _ _)) rfl ⟨⟨-1, 0, 0, [], rfl, ?_⟩, frPut3 HFe.out (.inr (by omega)) _ _ _⟩
              refine (congrArg (fun z : Option (Int × Int × Int × B) => z.getD (-1, 0, 0, [])) (HO3.out.trans (if_neg ?_))).trans rfl
              rintro ⟨_, _, _, h4, h5, h6⟩
              exact Bool.false_ne_true h5
            · skip
              refine Seq3.wp_region_text (fun i => i != 6) (fun _ => none) (fun i => false) (fun W => Fr [] w5 W) (by kernel_rfl) (by kernel_rfl) (Fr.drew (Fr.refl [] w5)) ?_
              refine Seq3.wpL_quiet rfl rfl rfl (fun K hK => ?_)
              go_big_quiet_op
              first | refine hK _ ?_ | refine ⟨_, by intros; rfl, hK _ ?_⟩
              clear hK K
              refine Seq3.wpL_held (v := .bool false) rfl rfl (fun wz hz => ?_) ?_
              · simp [go_sem, execOp, hneg]
              simp only [Act.put, List.setIfInBounds_toArray, List.set_cons_succ, List.set_cons_zero]
              refine Seq3.wpL_quiet rfl rfl rfl (fun K hK => ?_)
              go_big_quiet_op
              first | refine hK _ ?_ | refine ⟨_, by intros; rfl, hK _ ?_⟩
              clear hK K
              refine Seq3.wpL_held (v := .agg #[.string ⟨tn.toArray⟩, .slice (some ⟨g, off, none⟩) l.length c, .slice ia ix.length ic]) rfl rfl (fun wz hz => ?_) ?_
              · have l0 := (HT5.out.keep hz (by simp)).cell 0
                have l1 := (HT5.out.keep hz (by simp)).cell 1
                have l2 := (HT5.out.keep hz (by simp)).cell 2
                simp [go_sem, execOp, l0, l1, l2]
              simp only [Act.put, List.setIfInBounds_toArray, List.set_cons_succ, List.set_cons_zero]
              refine Seq3.wpL_quiet rfl rfl rfl (fun K hK => ?_)
              go_big_quiet_op
              first | refine hK _ ?_ | refine ⟨_, by intros; rfl, hK _ ?_⟩
              clear hK K
              refine Seq3.wpL_held (v := .string ⟨cm.toArray⟩) rfl rfl (fun wz hz => ?_) ?_
              · have l0 := (HP5.out.keep hz (by simp)).cell 5
                simp [go_sem, execOp, l0]
              simp only [Act.put, List.setIfInBounds_toArray, List.set_cons_succ, List.set_cons_zero]
              refine Seq3.wpL_call rfl rfl (by first | kernel_rfl | simp [go_sem, execOp]) (HIX.out) ?_
              rintro e w6 ⟨rfl, hf6⟩
              have HF6 := Lib.hid ((Fr.drew (Fr.refl [] w5)).trans hf6)
              refine ⟨_, rfl, HF6.out, ?_⟩
              simp only [Act.put, List.setIfInBounds_toArray, List.set_cons_succ, List.set_cons_zero]
              refine Seq3.wpL_held (v := .bool false) rfl rfl (fun wz hz => ?_) ?_
              · simp [go_sem, execOp]
              simp only [Act.put, List.setIfInBounds_toArray, List.set_cons_succ, List.set_cons_zero]
              refine Seq3.wpL_held (v := .bool false) rfl rfl (fun wz hz => ?_) ?_
              · simp [go_sem, execOp]
              simp only [Act.put, List.setIfInBounds_toArray, List.set_cons_succ, List.set_cons_zero]
              refine Seq3.wpL_quiet rfl rfl rfl (fun K hK => ?_)
              go_big_quiet_op
              first | refine hK _ ?_ | refine ⟨_, by intros; rfl, hK _ ?_⟩
              clear hK K
              refine Seq3.wpL_quiet rfl rfl rfl (fun K hK => ?_)
              go_big_quiet_op
              first | refine hK _ ?_ | refine ⟨_, by intros; rfl, hK _ ?_⟩
              clear hK K
              refine Seq3.wpL_held (v := .slice (some ⟨g, off, none⟩) l.length c) rfl rfl (fun wz hz => ?_) ?_
              · have l0 := (HT5.out.keep hz (by simp)).cell 1
                simp [go_sem, execOp, l0]
              simp only [Act.put, List.setIfInBounds_toArray, List.set_cons_succ, List.set_cons_zero]
              refine Seq3.wpL_quiet rfl rfl rfl (fun K hK => ?_)
              go_big_quiet_op
              first | refine hK _ ?_ | refine ⟨_, by intros; rfl, hK _ ?_⟩
              clear hK K
              refine Seq3.wpL_quiet rfl rfl rfl (fun K hK => ?_)
              go_big_quiet_op
              first | refine hK _ ?_ | refine ⟨_, by intros; rfl, hK _ ?_⟩
              clear hK K
              refine Seq3.wpL_quiet rfl rfl rfl (fun K hK => ?_)
              go_big_quiet_op
              first | refine hK _ ?_ | refine ⟨_, by intros; rfl, hK _ ?_⟩
              clear hK K
              refine Seq3.wpL_held (v := .int .i64 kk) rfl rfl (fun wz hz => ?_) ?_
              · have l0 := HK1.out wz hz
                simp [go_sem, execOp, l0]
              simp only [Act.put, List.setIfInBounds_toArray, List.set_cons_succ, List.set_cons_zero]
              refine Seq3.wpL_quiet rfl rfl rfl (fun K hK => ?_)
              go_big_quiet_op
              first | refine hK _ ?_ | refine ⟨_, by intros; rfl, hK _ ?_⟩
              clear hK K
              refine Seq3.wpL_quiet rfl rfl rfl (fun K hK => ?_)
              go_big_quiet_op
              first | refine hK _ ?_ | refine ⟨_, by intros; rfl, hK _ ?_⟩
              clear hK K
              refine Seq3.wpL_held (v := .int .i64 lk) rfl rfl (fun wz hz => ?_) ?_
              · have l0 := (HQ5.out.keep hz (by simp)).cell 1
                simp [go_sem, execOp, l0]
              simp only [Act.put, List.setIfInBounds_toArray, List.set_cons_succ, List.set_cons_zero]
              have hd : ∃ b, (kk != lk) = b := ⟨_, rfl⟩
              obtain ⟨bd, hbd⟩ := hd
              refine Seq3.wpL_held (v := .bool bd) rfl rfl (fun wz hz => ?_) ?_
              · simp [go_sem, execOp, hbd]
              simp only [Act.put, List.setIfInBounds_toArray, List.set_cons_succ, List.set_cons_zero]
              refine Seq3.wpL_held (v := .bool bd) rfl rfl (fun wz hz => ?_) ?_
              · simp [go_sem, execOp]
              simp only [Act.put, List.setIfInBounds_toArray, List.set_cons_succ, List.set_cons_zero]
              refine Seq3.wpL_nil ?_
              have HBe := Lib.hid (HB5.out.keep HF6.out (by simp))
              have HFe := Lib.hid (HF5.out.trans HF6.out)
              have vv := c3_of HBe.out
              obtain ⟨v0, v1, v2, f0, f1, f2⟩ := vv
              have hbe := HBe.out.lt
              cases bd
              case true =>
                go_wp2_with fail
                refine bodyPost_ret (ret_rch rfl _ (w.heap.size + 1) rfl _ rfl _ _ _ _ (blkPut3 HBe.out _ _ _)) rfl ⟨⟨-1, 0, 0, [], rfl, ?_⟩, frPut3 HFe.out (.inr (by omega)) _ _ _⟩
                refine (congrArg (fun z : Option (Int × Int × Int × B) => z.getD (-1, 0, 0, [])) (HO3.out.trans (if_neg ?_))).trans rfl
                rintro ⟨_, _, _, h4, h5, h6⟩
                exact absurd h6 (by simpa using hbd)
              case false =>
                have HQ6 := Lib.hid (HQ5.out.keep HF6.out (by simp))
                have hkk : kk = lk := by simpa using hbd
                go_upto_region 14 with fail
                refine Seq3.wp_region_text (fun i => i != 4) (fun _ => none) (fun i => i == 4) (fun W => Fr [] w6 W) (by kernel_rfl) (by kernel_rfl) (Fr.drew (Fr.refl [] w6)) ?_
                refine Seq3.wpL_quiet rfl rfl rfl (fun K hK => ?_)
                go_big_quiet_op
                first | refine hK _ ?_ | refine ⟨_, by intros; rfl, hK _ ?_⟩
                clear hK K
                refine Seq3.wpL_quiet rfl rfl rfl (fun K hK => ?_)
                go_big_quiet_op
                first | refine hK _ ?_ | refine ⟨_, by intros; rfl, hK _ ?_⟩
                clear hK K
                refine Seq3.wpL_held (v := .agg #[.int .i64 lk, .int .i64 li, .string ⟨lz.toArray⟩]) rfl rfl (fun wz hz => ?_) ?_
                · have l0 := (HQ6.out.keep hz (by simp)).cell 1
                  have l1 := (HQ6.out.keep hz (by simp)).cell 2
                  have l2 := (HQ6.out.keep hz (by simp)).cell 3
                  simp [go_sem, execOp, l0, l1, l2]
                simp only [Act.put, List.setIfInBounds_toArray, List.set_cons_succ, List.set_cons_zero]
                refine Seq3.wpL_quiet rfl rfl rfl (fun K hK => ?_)
                go_big_quiet_op
                first | refine hK _ ?_ | refine ⟨_, by intros; rfl, hK _ ?_⟩
                clear hK K
                refine Seq3.wpL_lasts (w' := put3 w6.drew (w.heap.size + 1) (.int .i64 lk) (.int .i64 li) (.string ⟨lz.toArray⟩)) rfl rfl rfl (by first | (simp [go_sem, execOp, put3, v0, v1, v2, f0, f1, f2]; done) | (simp [go_sem, execOp, put3, v0, v1, v2, f0, f1, f2]; rfl)) ?_
                simp only [Act.put, List.setIfInBounds_toArray, List.set_cons_succ, List.set_cons_zero]
                refine Seq3.wpL_nil ?_
                go_wp2_with fail
                refine bodyPost_ret (ret_rch rfl _ (w.heap.size + 1) rfl _ rfl _ _ _ _ (blkPut3 HBe.out.drew _ _ _)) rfl ⟨⟨k, lk, li, lz, rfl, ?_⟩, frPut3 HFe.out.drew (.inr (by omega)) _ _ _⟩
                refine (congrArg (fun z : Option (Int × Int × Int × B) => z.getD (-1, 0, 0, [])) (HO3.out.trans (if_pos ⟨HG.out.1, HG.out.2.1, HG.out.2.2, by omega, by first | rfl | trivial, hkk⟩))).trans rfl
  · have hq : (yo ≠ 8) ∨ (yo = 8 ∧ ¬ yn = 2) := by
      by_cases h : yo = 8
      · exact .inr ⟨h, fun h2 => hok ⟨h, by omega⟩⟩
      · exact .inl h
    have HNO : Hid (o = none) := Lib.hid (by
      rw [HOF.out]
      exact wayX_no hok)
    have vv := c3_of HB2.out
    obtain ⟨v0, v1, v2, f0, f1, f2⟩ := vv
    clear hok hy hes
    rcases hq with h | ⟨h, h2⟩
    · have hb : (yo == 8) = false := beq_eq_false_iff_ne.2 h
      clear h
      go_wp2_with fail
      refine bodyPost_ret (ret_rch rfl _ (w.heap.size + 1) rfl _ rfl _ _ _ _ (Blk.alloc (blkPut3 HB2.out _ _ _) _)) rfl ⟨⟨-1, 0, 0, [], rfl, ?_⟩, (frPut3 HF1.out (.inr (by omega)) _ _ _).alloc _⟩
      rw [HNO.out]
      rfl
    · subst h
      have hb : ((yn : Int) == 2) = false := beq_eq_false_iff_ne.2 (by omega)
      clear h2
      go_wp2_with fail
      refine bodyPost_ret (ret_rch rfl _ (w.heap.size + 1) rfl _ rfl _ _ _ _ (Blk.alloc (blkPut3 HB2.out _ _ _) _)) rfl ⟨⟨-1, 0, 0, [], rfl, ?_⟩, (frPut3 HF1.out (.inr (by omega)) _ _ _).alloc _⟩
      rw [HNO.out]
      rfl
end Pn
end Go.Proofs.YtmdnhinpaflamaaDoor
