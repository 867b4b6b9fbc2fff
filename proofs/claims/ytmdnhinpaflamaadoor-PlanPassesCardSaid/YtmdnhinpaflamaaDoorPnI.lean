/- plan: Choose. -/
import Derived.Test.YtmdnhinpaflamaaDoorPnH
namespace Go.Proofs.YtmdnhinpaflamaaDoor
open Go.RowKit
set_option linter.unusedVariables false
set_option linter.unusedSimpArgs false
namespace Pn
open PM (Ex B Col)
open Px (ColS colC z7 put7 frPut7 blkPut7 ret_cell7 c7_of)
set_option maxRecDepth 1000000 in
set_option maxHeartbeats 4000000 in
theorem find1e_any (T : Tab) (x : Ex) (A : Nat → Prop) (tb : Nat) (v : Value) (w : World) (hE : Rep.Es 41 A w [x] v)
    (hC : ∀ W cs, Fr [] w W → Rep.E 41 A w x cs → Calls Tryd.prog 33 #[.agg cs.toArray, .pointer (some ⟨tb, 0, none⟩)] W fun e w' => WayR (wayOf T x) e ∧ Fr [] W w') :
    Calls Tryd.prog 32 #[v, .func (.func 33) #[] #[.pointer (some ⟨tb, 0, none⟩)]] w fun e w' => WayR (wayOf T x) e ∧ Fr [] w w' := by
  obtain ⟨g, off, cap, ys, rfl, hcap, -, hy, hc⟩ := Rep.Es.at hE 0 (by simp)
  simp only [List.getElem_cons_zero] at hy
  have HC := Lib.hid (fun W h => hC W ys h hy)
  obtain ⟨xo, xk, xi, xz, xt, xm, xg, xa, xn, xc, hx, rfl, -⟩ := Sm.e_cells hy
  have hgl : g < w.heap.size := World.block_lt_of_cell? w _ (hc 0 _ rfl)
  have HK : Hid (∀ W, Fr [] w W → W.cell? ⟨g, off + 0 * 7, none⟩ = some (.int .i64 xo) ∧ W.cell? ⟨g, off + 0 * 7 + 1, none⟩ = some (.int .i64 xk) ∧ W.cell? ⟨g, off + 0 * 7 + 2, none⟩ = some (.int .i64 xi) ∧ W.cell? ⟨g, off + 0 * 7 + 3, none⟩ = some (.string ⟨xz.toArray⟩) ∧ W.cell? ⟨g, off + 0 * 7 + 4, none⟩ = some (.string ⟨xt.toArray⟩) ∧ W.cell? ⟨g, off + 0 * 7 + 5, none⟩ = some (.string ⟨xm.toArray⟩) ∧ W.cell? ⟨g, off + 0 * 7 + 6, none⟩ = some (.slice xa xn xc)) := Lib.hid (fun W hW => ⟨(hW.cell (p := ⟨g, off + 0 * 7, none⟩) hgl (by simp)).trans (hc 0 _ rfl), (hW.cell (p := ⟨g, off + 0 * 7 + 1, none⟩) hgl (by simp)).trans (hc 1 _ rfl), (hW.cell (p := ⟨g, off + 0 * 7 + 2, none⟩) hgl (by simp)).trans (hc 2 _ rfl), (hW.cell (p := ⟨g, off + 0 * 7 + 3, none⟩) hgl (by simp)).trans (hc 3 _ rfl), (hW.cell (p := ⟨g, off + 0 * 7 + 4, none⟩) hgl (by simp)).trans (hc 4 _ rfl), (hW.cell (p := ⟨g, off + 0 * 7 + 5, none⟩) hgl (by simp)).trans (hc 5 _ rfl), (hW.cell (p := ⟨g, off + 0 * 7 + 6, none⟩) hgl (by simp)).trans (hc 6 _ rfl)⟩)
  have hcp : (1 : Int) ≤ cap := by simp at hcap; omega
  generalize wayOf T x = o at HC ⊢
  clear hE hC hc hcap hy hx
  have HB0 := Lib.hid ((Blk.new w 46 [.int .i64 0, .int .i64 0, .int .i64 0, .string ⟨#[]⟩]).alloc (.cells #[.int .i64 0, .int .i64 0, .int .i64 0, .string ⟨#[]⟩] 46))
  have hb1 := Blk.new (w.alloc (.cells #[.int .i64 0, .int .i64 0, .int .i64 0, .string ⟨#[]⟩] 46)) 46 [.int .i64 0, .int .i64 0, .int .i64 0, .string ⟨#[]⟩]
  rw [World.size_alloc] at hb1
  have HB1 := Lib.hid hb1
  have HF0 := Lib.hid (((Fr.refl [] w).alloc (.cells #[.int .i64 0, .int .i64 0, .int .i64 0, .string ⟨#[]⟩] 46)).alloc (.cells #[.int .i64 0, .int .i64 0, .int .i64 0, .string ⟨#[]⟩] 46))
  clear hb1
  simp only [List.length_cons, List.length_nil, Nat.zero_add]
  go_enter Tryd.func32, Tryd.ntmps32
  go_wp2_with fail
  go_loopw [13] (fun i wr => ∃ k : Nat, i = .int .i64 k ∧ k ≤ 1 ∧ Hid (1 ≤ k → o = none) ∧ Hid (Blk wr w.heap.size 46 [.int .i64 0, .int .i64 0, .int .i64 0, .string ⟨#[]⟩]) ∧ Hid (Blk wr (w.heap.size + 1) 46 [.int .i64 0, .int .i64 0, .int .i64 0, .string ⟨#[]⟩]) ∧ Hid (Fr [] w wr)) (fun i _ => 1 - (intOf i).toNat)
  case atStart => exact ⟨0, rfl, Nat.zero_le _, Lib.hid (fun h => absurd h (by decide)), HB0, HB1, HF0⟩
  case round =>
    obtain ⟨k, rfl, hk, HN1, HR0, HR1, HF⟩ := hrel
    have hs1 := HR1.out.lt
    rcases (by omega : k = 0 ∨ k = 1) with rfl | rfl
    · obtain ⟨z0, z1, z2, z3, z4, z5, z6⟩ := HK.out wr HF.out
      simp only [Nat.zero_mul, Nat.add_zero] at z0 z1 z2 z3 z4 z5 z6
      have hgw : g < wr.heap.size := Nat.lt_of_lt_of_le hgl HF.out.size
      go_wp2_with fail
      refine (HC.out _ (HF.out.alloc _)).mono ?_
      rintro e w2 ⟨⟨rp, rk, ri, rt, rb, rfl, hr⟩, hf2⟩
      have hfa := ((Fr.refl [] wr).alloc (.cells #[.int .i64 xo, .int .i64 xk, .int .i64 xi, .string ⟨xz.toArray⟩, .string ⟨xt.toArray⟩, .string ⟨xm.toArray⟩, .slice xa xn xc] 41)).trans hf2
      have HR02 := Lib.hid (HR0.out.keep hfa (by simp))
      have HR12 := Lib.hid (HR1.out.keep hfa (by simp))
      have HF2 := Lib.hid (HF.out.trans hfa)
      have HRR := Lib.hid hr
      have hs2 := HR12.out.lt
      have hlt0 := HR02.out.lt
      obtain ⟨p0, p1, p2, p3, q0, q1, q2, q3⟩ := c4_of HR02.out
      have hne : ¬ w.heap.size = w2.heap.size := by omega
      have hne2 : ¬ w2.heap.size = w.heap.size := by omega
      clear hf2 hfa hr z0 z1 z2 z3 z4 z5 z6
      cases rb
      · go_wp2_with fail
        go_roundw
        case rel => exact ⟨1, by go_num, by decide, Lib.hid (fun _ => (HRR.out.resolve_left (fun h => Bool.false_ne_true h.1)).2), Lib.hid (HR02.out.alloc _), Lib.hid (HR12.out.alloc _), Lib.hid (HF2.out.alloc _)⟩
        case measure => simp only [intOf]; omega
      · go_wp2_with fail
        exact bodyPost_ret (ret_plan rfl _ w.heap.size rfl _ rfl _ _ _ _ _ (Blk.alloc (blkPut4 HR02.out _ _ _ _) _)) rfl ⟨⟨rp, rk, ri, rt, true, rfl, .inl ⟨rfl, (HRR.out.resolve_right (fun h => Bool.false_ne_true h.1.symm)).2⟩⟩, (frPut4 HF2.out (.inr (Nat.le_refl _)) _ _ _ _).alloc _⟩
    · obtain ⟨p0, p1, p2, p3, q0, q1, q2, q3⟩ := c4_of HR0.out
      obtain ⟨r0, r1, r2, r3, -, -, -, -⟩ := c4_of HR1.out
      go_wp2_with fail
      exact bodyPost_ret (ret_plan rfl _ w.heap.size rfl _ rfl _ _ _ _ _ (blkPut4 HR0.out _ _ _ _)) rfl ⟨⟨0, 0, 0, [], false, rfl, .inr ⟨rfl, HN1.out (by decide)⟩⟩, frPut4 HF.out (.inr (Nat.le_refl _)) _ _ _ _⟩
theorem ret_plan1 {fn : Func} {n : Nat} (h : fn.results = #[.cell n 46]) (tmps : Array Value) (b : Nat) (h2 : tmps.getD n undef = .pointer (some ⟨b, 0, none⟩)) (w : World) (a0 a1 a2 a3 : Value) (hb : Blk w b 46 [a0, a1, a2, a3]) :
    (results fn tmps).run Tryd.prog w = .ok (.agg #[a0, a1, a2, a3]) w := by
  have c0 := hb.cell 0
  have c1 := hb.cell 1
  have c2 := hb.cell 2
  have c3 := hb.cell 3
  simp only [List.getElem?_cons_zero, List.getElem?_cons_succ] at c0 c1 c2 c3
  have h2' : tmps[n]?.getD undef = .pointer (some ⟨b, 0, none⟩) := by simpa using h2
  simp [results, h, h2', go_sem, c0, c1, c2, c3]
/-- a way, or none -/
def ChR (o : Option (Int × Int × Int × B)) (e : Ending) : Prop :=
  ∃ (p k i : Int) (t : B), e = .returned (.agg #[.int .i64 p, .int .i64 k, .int .i64 i, .string ⟨t.toArray⟩]) ∧ o.getD (-1, 0, 0, []) = (p, k, i, t)
set_option maxRecDepth 1000000 in
set_option maxHeartbeats 4000000 in
/-- Choose, of no where -/
theorem choose_nil (tn : B) (l : List Col) (ix : List B) (a ia : Option Addr) (c ic : Nat) (w : World) :
    Calls Tryd.prog 12 #[.agg #[.string ⟨tn.toArray⟩, .slice a l.length c, .slice ia ix.length ic], .slice none 0 0] w fun e w' => ChR none e ∧ Fr [] w w' := by
  have hf0 := ((Fr.refl [] w).alloc (.cells #[.string ⟨tn.toArray⟩, .slice a l.length c, .slice ia ix.length ic] 27)).alloc (.cells #[.int .i64 0, .int .i64 0, .int .i64 0, .string ⟨#[]⟩] 46)
  have hb1 := Blk.new (w.alloc (.cells #[.string ⟨tn.toArray⟩, .slice a l.length c, .slice ia ix.length ic] 27)) 46 [.int .i64 0, .int .i64 0, .int .i64 0, .string ⟨#[]⟩]
  rw [World.size_alloc] at hb1
  have HB1 := Lib.hid hb1
  have HF0 := Lib.hid hf0
  clear hf0 hb1
  go_enter Tryd.func12, Tryd.ntmps12
  go_upto_region 1 with fail
  generalize (w.alloc (.cells #[.string ⟨tn.toArray⟩, .slice a l.length c, .slice ia ix.length ic] 27)).alloc (.cells #[.int .i64 0, .int .i64 0, .int .i64 0, .string ⟨#[]⟩] 46) = w0 at HB1 HF0 ⊢
  obtain ⟨p0, p1, p2, p3, q0, q1, q2, q3⟩ := c4_of HB1.out
  go_wp2_with fail
  exact bodyPost_ret (ret_plan1 rfl _ (w.heap.size + 1) rfl _ _ _ _ _ (blkPut4 HB1.out _ _ _ _)) rfl ⟨⟨-1, 0, 0, [], rfl, rfl⟩, frPut4 HF0.out (.inr (by omega)) _ _ _ _⟩
set_option maxRecDepth 1000000 in
set_option maxHeartbeats 4000000 in
/-- Choose -/
theorem choose_any (tn : B) (l : List Col) (ix : List B) (A A2 : Nat → Prop) (a ia : Option Addr) (c ic : Nat) (hl : l.length ≤ 100) (hil : ix.length ≤ 100) (x : Ex) (v : Value) (w : World)
    (h : TR A w ⟨tn, l, ix⟩ a c ia ic) (hE : Rep.Es 41 A2 w [x] v) :
    Calls Tryd.prog 12 #[.agg #[.string ⟨tn.toArray⟩, .slice a l.length c, .slice ia ix.length ic], v] w fun e w' => ChR (wayOf ⟨tn, l, ix⟩ x) e ∧ Fr [] w w' := by
  have hf0 := ((Fr.refl [] w).alloc (.cells #[.string ⟨tn.toArray⟩, .slice a l.length c, .slice ia ix.length ic] 27)).alloc (.cells #[.int .i64 0, .int .i64 0, .int .i64 0, .string ⟨#[]⟩] 46)
  have hb0 := (Blk.new w 27 [.string ⟨tn.toArray⟩, .slice a l.length c, .slice ia ix.length ic]).alloc (.cells #[.int .i64 0, .int .i64 0, .int .i64 0, .string ⟨#[]⟩] 46)
  have hb1 := Blk.new (w.alloc (.cells #[.string ⟨tn.toArray⟩, .slice a l.length c, .slice ia ix.length ic] 27)) 46 [.int .i64 0, .int .i64 0, .int .i64 0, .string ⟨#[]⟩]
  rw [World.size_alloc] at hb1
  have HB1 := Lib.hid hb1
  have HF0 := Lib.hid hf0
  have hes := Rep.Es.keep hf0 (by simp) hE
  have htr := h.keep hf0 (by simp)
  have HC := Lib.hid (find1e_any ⟨tn, l, ix⟩ x A2 w.heap.size v _ hes (fun W cs hf hx => cl1_any tn l ix A A2 a ia c ic hl hil w.heap.size x cs W (htr.keep hf (by simp)) (hb0.keep hf (by simp)) (Rep.E.keep hf (by simp) hx)))
  obtain ⟨g, off, vc, ys, rfl, -, -, -, -⟩ := Rep.Es.at hE 0 (by simp)
  generalize wayOf ⟨tn, l, ix⟩ x = o at HC ⊢
  clear h hE hf0 hb0 hb1 hes htr
  simp only [List.length_cons, List.length_nil, Nat.zero_add] at HC ⊢
  go_enter Tryd.func12, Tryd.ntmps12
  go_upto_region 1 with fail
  generalize (w.alloc (.cells #[.string ⟨tn.toArray⟩, .slice a l.length c, .slice ia ix.length ic] 27)).alloc (.cells #[.int .i64 0, .int .i64 0, .int .i64 0, .string ⟨#[]⟩] 46) = w0 at HB1 HF0 HC ⊢
  go_wp2_with fail
  refine HC.out.mono ?_
  rintro e w2 ⟨⟨rp, rk, ri, rt, rb, rfl, hr⟩, hf2⟩
  have HB2 := Lib.hid (HB1.out.keep hf2 (by simp))
  have HF2 := Lib.hid (HF0.out.trans hf2)
  have HR := Lib.hid hr
  have hs2 := HB2.out.lt
  have hne : ¬ w.heap.size + 1 = w2.heap.size := by omega
  have hne2 : ¬ w2.heap.size = w.heap.size + 1 := by omega
  obtain ⟨p0, p1, p2, p3, q0, q1, q2, q3⟩ := c4_of HB2.out
  clear hf2 hr HC
  cases rb
  · go_wp2_with fail
    refine bodyPost_ret (ret_plan1 rfl _ (w.heap.size + 1) rfl _ _ _ _ _ (Blk.alloc (blkPut4 HB2.out _ _ _ _) _)) rfl ⟨⟨-1, 0, 0, [], rfl, ?_⟩, (frPut4 HF2.out (.inr (by omega)) _ _ _ _).alloc _⟩
    rw [(HR.out.resolve_left (fun h => Bool.false_ne_true h.1)).2]
    rfl
  · go_wp2_with fail
    refine bodyPost_ret (ret_plan1 rfl _ (w.heap.size + 1) rfl _ _ _ _ _ (Blk.alloc (blkPut4 HB2.out _ _ _ _) _)) rfl ⟨⟨rp, rk, ri, rt, rfl, ?_⟩, (frPut4 HF2.out (.inr (by omega)) _ _ _ _).alloc _⟩
    rw [(HR.out.resolve_right (fun h => Bool.false_ne_true h.1.symm)).2]
    rfl
end Pn
end Go.Proofs.YtmdnhinpaflamaaDoor
