/- plan: the law PlanMade. -/
import Derived.Test.YtmdnhinpaflamaaDoorPnM
namespace Go.Proofs.YtmdnhinpaflamaaDoor
open Go.RowKit
set_option linter.unusedVariables false
set_option linter.unusedSimpArgs false
namespace Pn
open PM (Ex B Col)
open CM (Pr)
open Gn (sh)
open Px (ColS colC)
open Sh (bt bt_cat bt_size)
/-- both tell a way in the same words -/
theorem both_any (tn : B) (l : List Col) (ix : List B) (A : Nat → Prop) (a ia : Option Addr) (c ic : Nat) (hl : l.length ≤ 100) (ht : tn.length ≤ 1000) (hn : ∀ j, (h : j < l.length) → l[j].name.length ≤ 1000) (b : Pr) (hb : b.ok = true) (p k i : Int) (t : B)
    (hp : (wayOf ⟨tn, l, ix⟩ b.ex).getD (-1, 0, 0, []) = (p, k, i, t)) (w : World) (h : ColS A w (.slice a l.length c) l) (hE : Sw.Env w) :
    ∃ res : ByteArray, (∀ W, Fr [] w W → Calls Tryd.prog 14 #[.agg #[.string ⟨tn.toArray⟩, .slice a l.length c, .slice ia ix.length ic], .agg #[.int .i64 p, .int .i64 k, .int .i64 i, .string ⟨t.toArray⟩]] W fun e w' => e = .returned (.string res) ∧ Fr [] W w') ∧
      (∀ W, Fr [] w W → Calls Tryd.prog 15 #[.agg #[.string ⟨tn.toArray⟩, .slice a l.length c, .slice ia ix.length ic], .int .i64 p, .agg #[.int .i64 k, .int .i64 i, .string ⟨t.toArray⟩]] W fun e w' => e = .returned (.string res) ∧ Fr [] W w') := by
  cases ho : wayOf ⟨tn, l, ix⟩ b.ex with
  | none =>
    rw [ho] at hp
    simp only [Option.getD_none, Prod.mk.injEq] at hp
    obtain ⟨rfl, rfl, rfl, rfl⟩ := hp
    exact ⟨_, fun W hW => pexplain_neg tn l ix a ia c ic 0 0 _ ht W, fun W hW => rexplain_neg tn l ix a ia c ic 0 0 _ ht W⟩
  | some q =>
    rw [ho] at hp
    obtain rfl : q = (p, k, i, t) := hp
    obtain ⟨j, s, rfl, hj, hv, hs⟩ := wayOf_val hb ho
    exact ⟨_, fun W hW => pexplain_pos tn l ix A a ia c ic j hj hl k i t s hv ht (hn j hj) W (Px.FlatS.keep hW (by simp) h) (hE.keep hW), fun W hW => rexplain_pos tn l ix A a ia c ic j hj hl k i t s hv hs ht (hn j hj) W (Px.FlatS.keep hW (by simp) h)⟩
set_option maxRecDepth 4000000 in
set_option maxHeartbeats 8000000 in
theorem planmade_law (a : Option Addr) (len cap : Nat) (wh : Int) (hk0 : 0 ≤ wh) (hk255 : wh ≤ 255) (w : World) (hE : Sw.Env w) (hlen : len ≤ maxLen)
    (h : ∀ j, j < len → ∃ (g off k : Nat), a = some ⟨g, off, none⟩ ∧ g < w.heap.size ∧ k ≤ 255 ∧ w.cell? ⟨g, off + j, none⟩ = some (.int .u8 k)) :
    Calls Tryd.prog 3 #[.slice a len cap, .int .u8 wh] w fun e w' => e = .returned (.bool true) ∧ Fr [] w w' := by
  have HB := Lib.hid (begun21_any w hE)
  have HEN := Lib.hid hE
  have HH := Lib.hid h
  clear hE h
  go_enter Tryd.func3, Tryd.ntmps3
  go_wp2_with fail
  refine HB.out.mono ?_
  rintro e w1 ⟨rfl, hf1⟩
  have HF1 := Lib.hid hf1
  clear hf1 HB
  by_cases hl : len > 60
  · have hl' : (60 : Int) < len := by omega
    go_wp2_with fail
    go_ret
    exact ⟨rfl, HF1.out⟩
  have hl' : (len : Int) ≤ 60 := by omega
  go_wp2_with fail
  refine (Gn.schema_any w1).mono ?_
  rintro e w2 ⟨rfl, hsch, hf2⟩
  obtain ⟨i, hwi⟩ : ∃ i : Nat, wh % 2 = (i : Int) := ⟨(wh % 2).toNat, by omega⟩
  have hi : i < 2 := by omega
  have hi' : (i : Int) < 2 := by omega
  obtain ⟨ta, ia, tc, ic, hv, htr⟩ := tab_form hi hsch
  obtain ⟨t0, t1, t2⟩ := tab_cells hi hsch hv
  have HCT : Hid (∀ W, Fr [] w2 W → Calls Tryd.prog 9 #[.agg (Gn.tabV w1.heap.size i).toArray] W fun e w' => ∃ vc vk, e = .returned (.tuple #[vc, vk]) ∧ Px.ItS (fun g => W.heap.size ≤ g) w' vc (Gn.tits i) ∧ Gn.IntS (fun g => W.heap.size ≤ g) w' vk (Gn.tkinds i) ∧ Fr [] W w') := Lib.hid (fun W hW => Gn.cols_tab (n := w1.heap.size) hi W (hsch.keep hW (by simp)))
  rw [hv] at HCT
  have hcol : ∀ j, (h : j < (tcol i).length) → (tcol i)[j].name.length ≤ 1000 := fun j h => tcol_name h
  have HCOL := Lib.hid hcol
  have hn3 := tcol_len i
  have hx1 := tix_len i
  have ht1 := tname_len i
  have hlt := hsch.l.lt
  have HTR := Lib.hid htr
  have HF2 := Lib.hid (HF1.out.trans hf2)
  have hs2 := hf2.size
  clear hsch hf2 hv htr hcol
  generalize Gn.tname i = tn at HTR HCT t0 ht1
  generalize tcol i = l at HTR HCT t1 hn3 HCOL
  generalize tix i = ix at HTR HCT t2 hx1
  have HTI := Lib.hid (And.intro hn3 (And.intro hx1 ht1))
  clear hn3 hx1 ht1
  have hfd := fun x y w => field_tabs21 x y w
  go_wp2_with fail
  clear hfd t0 t1 t2
  refine (HCT.out _ ((Fr.refl [] w2).alloc _)).mono ?_
  rintro e w3 ⟨vc, vk, rfl, hc, hk, hf3⟩
  have hfa := ((Fr.refl [] w2).alloc (.cells #[.string ⟨tn.toArray⟩, .slice ta l.length tc, .slice ia ix.length ic] 27)).trans hf3
  have HTB := Lib.hid ((Blk.new w2 27 [.string ⟨tn.toArray⟩, .slice ta l.length tc, .slice ia ix.length ic]).keep hf3 (by simp))
  have HTR3 := Lib.hid (HTR.out.keep hfa (by simp))
  have HF3 := Lib.hid (HF2.out.trans hfa)
  have hs3 := hfa.size
  have HC3 := Lib.hid hc.live
  have HK3 := Lib.hid hk.live
  have htbl := HTB.out.lt
  clear hc hk hf3 hfa HCT HTR
  go_wp2_with fail
  refine (Gn.made_any w3 a len cap (by omega) (fun j hj => ?_)).mono ?_
  · obtain ⟨g, off, k, e1, e2, e3, e4⟩ := HH.out j hj
    exact ⟨g, off, k, e1, Nat.lt_of_lt_of_le e2 HF3.out.size, e3, (HF3.out.cell (p := ⟨g, off + j, none⟩) e2 (by simp)).trans e4⟩
  rintro e w4 ⟨rfl, hk4, hf4⟩
  have hpk := hk4.lt'
  have HCC : Hid (Gn.Cols w3.heap.size w3.heap.size w4 vc vk (Gn.tits i) (Gn.tkinds i)) := Lib.hid ((Gn.cols_of (C := w3.heap.size) (P := w3.heap.size) (Nat.le_refl _) (Px.FlatS.mono (fun g hg => ⟨hg.2, by omega⟩) HC3.out) (Px.FlatS.mono (fun g hg => ⟨hg.2, by omega⟩) HK3.out) Gn.tits_ok (by rw [Gn.tits_len, Gn.tkinds_len]) (by rw [Gn.tits_len]; decide) Gn.tkinds_has).keep hf4 (by simp))
  have HK4 := Lib.hid hk4
  have HTB4 := Lib.hid (HTB.out.keep hf4 (by simp))
  have HTR4 := Lib.hid (HTR3.out.keep hf4 (by simp))
  have HF4 := Lib.hid (HF3.out.trans hf4)
  have hs4 := hf4.size
  clear hk4 hf4 HTB HTR3 HC3 HK3 HH
  go_wp2_with fail
  refine (Gn.expr_gen w3.heap.size vc vk (Gn.tits i) (Gn.tkinds i) 6 3 0 (by decide) (by decide) (by decide) (.inr ⟨rfl, by decide⟩) w4 HK4.out HCC.out).mono ?_
  rintro e w5 ⟨⟨p, hsz, hx⟩, hk5, hf5⟩
  obtain ⟨po, pk, pi, pz, pt, pn, pa, pe, pc, rfl, hrep⟩ := Px.ex_cells hx
  have HSZ := Lib.hid hsz.ok
  have hgl : ∀ g, g < w.heap.size + 0 → True := fun _ _ => trivial
  have HF5 : Hid (Fr [] w w5) := Lib.hid (HF4.out.trans' hf5 (fun i hi => by simp at hi; have := HF3.out.size; omega))
  have HTB5 := Lib.hid (HTB4.out.keep hf5 (by simp; omega))
  have HTR5 := Lib.hid (HTR4.out.keep hf5 (fun g hg => by simp; omega))
  have hs5 := hf5.size
  have HREP := Lib.hid hrep
  clear hgl hx hk5 hf5 hsz hrep HK4 HCC HTB4 HTR4
  have hL : Rep.L 41 (fun g => w4.heap.size ≤ g) (w5.alloc (.cells #[.int .i64 po, .int .i64 pk, .int .i64 pi, .string ⟨pz.toArray⟩, .string ⟨pt.toArray⟩, .string ⟨pn.toArray⟩, .slice pa pe pc] 41)) [p.ex] ([.int .i64 po, .int .i64 pk, .int .i64 pi, .string ⟨pz.toArray⟩, .string ⟨pt.toArray⟩, .string ⟨pn.toArray⟩, .slice pa pe pc] ++ []) := .cons _ _ _ _ (Rep.E.keep ((Fr.refl [] w5).alloc _) (by simp) HREP.out) .nil
  rw [List.append_nil] at hL
  have hes := Gn.es_new hL (by rw [World.size_alloc]; omega) (by show 1 ≤ maxLen; simp [maxLen])
  rw [World.size_alloc] at hes
  have hfb : Fr [] w5 ((w5.alloc (.cells #[.int .i64 po, .int .i64 pk, .int .i64 pi, .string ⟨pz.toArray⟩, .string ⟨pt.toArray⟩, .string ⟨pn.toArray⟩, .slice pa pe pc] 41)).alloc (.cells #[.int .i64 po, .int .i64 pk, .int .i64 pi, .string ⟨pz.toArray⟩, .string ⟨pt.toArray⟩, .string ⟨pn.toArray⟩, .slice pa pe pc] 41)) := ((Fr.refl [] w5).alloc _).alloc _
  have hEB := (Blk.new w5 41 [.int .i64 po, .int .i64 pk, .int .i64 pi, .string ⟨pz.toArray⟩, .string ⟨pt.toArray⟩, .string ⟨pn.toArray⟩, .slice pa pe pc]).alloc (.cells #[.int .i64 po, .int .i64 pk, .int .i64 pi, .string ⟨pz.toArray⟩, .string ⟨pt.toArray⟩, .string ⟨pn.toArray⟩, .slice pa pe pc] 41)
  have HEB := Lib.hid hEB
  have HTB5b := Lib.hid (HTB5.out.keep hfb (by simp))
  have HF5b := Lib.hid (HF5.out.trans hfb)
  have HCH := Lib.hid (choose_any tn l ix _ _ ta ia tc ic (by have := HTI.out.1; omega) (by have := HTI.out.2.1; omega) p.ex _ ((w5.alloc (.cells #[.int .i64 po, .int .i64 pk, .int .i64 pi, .string ⟨pz.toArray⟩, .string ⟨pt.toArray⟩, .string ⟨pn.toArray⟩, .slice pa pe pc] 41)).alloc (.cells #[.int .i64 po, .int .i64 pk, .int .i64 pi, .string ⟨pz.toArray⟩, .string ⟨pt.toArray⟩, .string ⟨pn.toArray⟩, .slice pa pe pc] 41)) (HTR5.out.keep hfb (by simp)) hes)
  have t0 := HTB5.out.cell 0
  have t1 := HTB5.out.cell 1
  have t2 := HTB5.out.cell 2
  simp only [List.getElem?_cons_zero, List.getElem?_cons_succ] at t0 t1 t2
  have htb5 := HTB5.out.lt
  have hne5 : ¬ w2.heap.size = w5.heap.size := by omega
  have hne5b : ¬ w5.heap.size = w2.heap.size := by omega
  have HTR5b := Lib.hid (HTR5.out.keep hfb (by simp))
  have HREPb := Lib.hid (Rep.E.keep hfb (by simp) HREP.out)
  clear hL hes hfb hEB
  go_wp2_with fail
  refine HCH.out.mono ?_
  rintro e w6 ⟨⟨bp, bk, bi, bz, rfl, hp⟩, hf6⟩
  have HTB6 := Lib.hid (HTB5b.out.keep hf6 (by simp))
  have HEB6 := Lib.hid (HEB.out.keep hf6 (by simp))
  have HF6 := Lib.hid (HF5b.out.trans hf6)
  have HTR6 := Lib.hid (HTR5b.out.keep hf6 (by simp))
  have HREP6 := Lib.hid (Rep.E.keep hf6 (by simp) HREPb.out)
  have HP := Lib.hid hp
  have hs6 := hf6.size
  rw [World.size_alloc, World.size_alloc] at hs6
  clear hf6 hp HCH HTB5b HEB HF5b HTR5b HREPb HTB5 HTR5 HREP HF5 t0 t1 t2 htb5 hne5 hne5b
  have hL : Rep.L 41 (fun g => w4.heap.size ≤ g) (w6.alloc (.cells #[.int .i64 bp, .int .i64 bk, .int .i64 bi, .string ⟨bz.toArray⟩] 46)) [p.ex] ([.int .i64 po, .int .i64 pk, .int .i64 pi, .string ⟨pz.toArray⟩, .string ⟨pt.toArray⟩, .string ⟨pn.toArray⟩, .slice pa pe pc] ++ []) := .cons _ _ _ _ (Rep.E.keep ((Fr.refl [] w6).alloc _) (by simp) HREP6.out) .nil
  rw [List.append_nil] at hL
  have hes := Gn.es_new hL (by rw [World.size_alloc]; omega) (by show 1 ≤ maxLen; simp [maxLen])
  rw [World.size_alloc] at hes
  have hfb : Fr [] w6 ((w6.alloc (.cells #[.int .i64 bp, .int .i64 bk, .int .i64 bi, .string ⟨bz.toArray⟩] 46)).alloc (.cells #[.int .i64 po, .int .i64 pk, .int .i64 pi, .string ⟨pz.toArray⟩, .string ⟨pt.toArray⟩, .string ⟨pn.toArray⟩, .slice pa pe pc] 41)) := ((Fr.refl [] w6).alloc _).alloc _
  have hPB := (Blk.new w6 46 [.int .i64 bp, .int .i64 bk, .int .i64 bi, .string ⟨bz.toArray⟩]).alloc (.cells #[.int .i64 po, .int .i64 pk, .int .i64 pi, .string ⟨pz.toArray⟩, .string ⟨pt.toArray⟩, .string ⟨pn.toArray⟩, .slice pa pe pc] 41)
  have HPB := Lib.hid hPB
  have HTB6b := Lib.hid (HTB6.out.keep hfb (by simp))
  have HF6b := Lib.hid (HF6.out.trans hfb)
  have HTR6b := Lib.hid (HTR6.out.keep hfb (by simp))
  have HCH := Lib.hid (rchoose_any tn l ix _ _ ta ia tc ic (by have := HTI.out.1; omega) (by have := HTI.out.2.1; omega) p.ex _ ((w6.alloc (.cells #[.int .i64 bp, .int .i64 bk, .int .i64 bi, .string ⟨bz.toArray⟩] 46)).alloc (.cells #[.int .i64 po, .int .i64 pk, .int .i64 pi, .string ⟨pz.toArray⟩, .string ⟨pt.toArray⟩, .string ⟨pn.toArray⟩, .slice pa pe pc] 41)) HTR6b.out hes)
  have t0 := HTB6.out.cell 0
  have t1 := HTB6.out.cell 1
  have t2 := HTB6.out.cell 2
  simp only [List.getElem?_cons_zero, List.getElem?_cons_succ] at t0 t1 t2
  obtain ⟨e0, e1, e2, e3, e4, e5, e6, -⟩ := Px.c7_of HEB6.out
  have htb6 := HTB6.out.lt
  have heb6 := HEB6.out.lt
  have hne6 : ¬ w2.heap.size = w6.heap.size := by omega
  have hne6b : ¬ w6.heap.size = w2.heap.size := by omega
  have hne6c : ¬ w5.heap.size = w6.heap.size := by omega
  have hne6d : ¬ w6.heap.size = w5.heap.size := by omega
  clear hL hes hfb hPB
  go_wp2_with fail
  refine HCH.out.mono ?_
  rintro e w7 ⟨⟨cp, ck, ci, cz, rfl, hq⟩, hf7⟩
  rw [HP.out] at hq
  simp only [Prod.mk.injEq] at hq
  obtain ⟨rfl, rfl, rfl, rfl⟩ := hq
  have HTB7 := Lib.hid ((HTB6b.out.keep hf7 (by simp)).alloc (.cells #[.int .i64 bk, .int .i64 bi, .string ⟨bz.toArray⟩] 38))
  have HPB7 := Lib.hid ((HPB.out.keep hf7 (by simp)).alloc (.cells #[.int .i64 bk, .int .i64 bi, .string ⟨bz.toArray⟩] 38))
  have HVB7 := Lib.hid (Blk.new w7 38 [.int .i64 bk, .int .i64 bi, .string ⟨bz.toArray⟩])
  have hf8 := hf7.alloc (.cells #[.int .i64 bk, .int .i64 bi, .string ⟨bz.toArray⟩] 38)
  have HF7 := Lib.hid (HF6b.out.trans hf8)
  have htr7 := HTR6b.out.keep hf8 (by simp)
  have HXY := both_any tn l ix _ ta ia tc ic (by have := HTI.out.1; omega) (by have := HTI.out.2.2; omega) HCOL.out p HSZ.out bp bk bi bz HP.out (w7.alloc (.cells #[.int .i64 bk, .int .i64 bi, .string ⟨bz.toArray⟩] 38)) htr7.cols (HEN.out.keep HF7.out)
  obtain ⟨res, hX, hY⟩ := HXY
  have HX := Lib.hid hX
  have HY := Lib.hid hY
  have hs7 := hf8.size
  clear hX hY hf7 hf8 HCH HPB HTB6 HTB6b HTR6 HTR6b HF6 HF6b HEB6 HREP6 t0 t1 t2 e0 e1 e2 e3 e4 e5 e6 htb6 heb6 hne6 hne6b hne6c hne6d htr7
  go_upto_region 10 with fail
  generalize w7.alloc (.cells #[.int .i64 bk, .int .i64 bi, .string ⟨bz.toArray⟩] 38) = w8 at HTB7 HPB7 HVB7 HF7 HX HY hs7 ⊢
  refine Seq3.wp_region_text (fun i => i != 13 && i != 17) (fun _ => none) (fun i => false) (fun W => Fr [] w8 W) (by kernel_rfl) (by kernel_rfl) ((Fr.refl [] w8).drew) ?_
  refine Seq3.wpL_quiet rfl rfl rfl (fun K hK => ?_)
  go_big_quiet_op
  first | refine hK _ ?_ | refine ⟨_, by intros; rfl, hK _ ?_⟩
  clear hK K
  refine Seq3.wpL_held (v := .int .i64 bp) rfl rfl (fun wz hz => ?_) ?_
  · have l0 := (HPB7.out.keep hz (by simp)).cell 0
    simp [go_sem, execOp, l0]
  simp only [Act.put, List.setIfInBounds_toArray, List.set_cons_succ, List.set_cons_zero]
  refine Seq3.wpL_quiet rfl rfl rfl (fun K hK => ?_)
  go_big_quiet_op
  first | refine hK _ ?_ | refine ⟨_, by intros; rfl, hK _ ?_⟩
  clear hK K
  refine Seq3.wpL_held (v := .bool true) rfl rfl (fun wz hz => ?_) ?_
  · simp [go_sem, execOp]
  simp only [Act.put, List.setIfInBounds_toArray, List.set_cons_succ, List.set_cons_zero]
  refine Seq3.wpL_quiet rfl rfl rfl (fun K hK => ?_)
  go_big_quiet_op
  first | refine hK _ ?_ | refine ⟨_, by intros; rfl, hK _ ?_⟩
  clear hK K
  refine Seq3.wpL_quiet rfl rfl rfl (fun K hK => ?_)
  go_big_quiet_op
  first | refine hK _ ?_ | refine ⟨_, by intros; rfl, hK _ ?_⟩
  clear hK K
  refine Seq3.wpL_held (v := .agg #[.int .i64 bk, .int .i64 bi, .string ⟨bz.toArray⟩]) rfl rfl (fun wz hz => ?_) ?_
  · have l0 := (HPB7.out.keep hz (by simp)).cell 1
    have l1 := (HPB7.out.keep hz (by simp)).cell 2
    have l2 := (HPB7.out.keep hz (by simp)).cell 3
    simp [go_sem, execOp, l0, l1, l2]
  simp only [Act.put, List.setIfInBounds_toArray, List.set_cons_succ, List.set_cons_zero]
  refine Seq3.wpL_held (v := .agg #[.int .i64 bk, .int .i64 bi, .string ⟨bz.toArray⟩]) rfl rfl (fun wz hz => ?_) ?_
  · have l0 := (HVB7.out.keep hz (by simp)).cell 0
    have l1 := (HVB7.out.keep hz (by simp)).cell 1
    have l2 := (HVB7.out.keep hz (by simp)).cell 2
    simp [go_sem, execOp, l0, l1, l2]
  simp only [Act.put, List.setIfInBounds_toArray, List.set_cons_succ, List.set_cons_zero]
  refine Seq3.wpL_held (v := .bool true) rfl rfl (fun wz hz => ?_) ?_
  · simp [go_sem, execOp]
  simp only [Act.put, List.setIfInBounds_toArray, List.set_cons_succ, List.set_cons_zero]
  refine Seq3.wpL_held (v := .bool true) rfl rfl (fun wz hz => ?_) ?_
  · simp [go_sem, execOp]
  simp only [Act.put, List.setIfInBounds_toArray, List.set_cons_succ, List.set_cons_zero]
  refine Seq3.wpL_quiet rfl rfl rfl (fun K hK => ?_)
  go_big_quiet_op
  first | refine hK _ ?_ | refine ⟨_, by intros; rfl, hK _ ?_⟩
  clear hK K
  refine Seq3.wpL_held (v := .agg #[.string ⟨tn.toArray⟩, .slice ta l.length tc, .slice ia ix.length ic]) rfl rfl (fun wz hz => ?_) ?_
  · have l0 := (HTB7.out.keep hz (by simp)).cell 0
    have l1 := (HTB7.out.keep hz (by simp)).cell 1
    have l2 := (HTB7.out.keep hz (by simp)).cell 2
    simp [go_sem, execOp, l0, l1, l2]
  simp only [Act.put, List.setIfInBounds_toArray, List.set_cons_succ, List.set_cons_zero]
  refine Seq3.wpL_held (v := .agg #[.int .i64 bp, .int .i64 bk, .int .i64 bi, .string ⟨bz.toArray⟩]) rfl rfl (fun wz hz => ?_) ?_
  · have l0 := (HPB7.out.keep hz (by simp)).cell 0
    have l1 := (HPB7.out.keep hz (by simp)).cell 1
    have l2 := (HPB7.out.keep hz (by simp)).cell 2
    have l3 := (HPB7.out.keep hz (by simp)).cell 3
    simp [go_sem, execOp, l0, l1, l2, l3]
  simp only [Act.put, List.setIfInBounds_toArray, List.set_cons_succ, List.set_cons_zero]
  refine Seq3.wpL_call rfl rfl (by first | kernel_rfl | simp [go_sem, execOp]) (HX.out _ (Fr.refl [] w8).drew) ?_
  rintro e w9 ⟨rfl, hf9⟩
  have HF9 := Lib.hid ((Fr.drew (Fr.refl [] w8)).trans hf9)
  refine ⟨_, rfl, HF9.out, ?_⟩
  simp only [Act.put, List.setIfInBounds_toArray, List.set_cons_succ, List.set_cons_zero]
  refine Seq3.wpL_held (v := .agg #[.string ⟨tn.toArray⟩, .slice ta l.length tc, .slice ia ix.length ic]) rfl rfl (fun wz hz => ?_) ?_
  · have l0 := (HTB7.out.keep hz (by simp)).cell 0
    have l1 := (HTB7.out.keep hz (by simp)).cell 1
    have l2 := (HTB7.out.keep hz (by simp)).cell 2
    simp [go_sem, execOp, l0, l1, l2]
  simp only [Act.put, List.setIfInBounds_toArray, List.set_cons_succ, List.set_cons_zero]
  refine Seq3.wpL_quiet rfl rfl rfl (fun K hK => ?_)
  go_big_quiet_op
  first | refine hK _ ?_ | refine ⟨_, by intros; rfl, hK _ ?_⟩
  clear hK K
  refine Seq3.wpL_held (v := .agg #[.int .i64 bk, .int .i64 bi, .string ⟨bz.toArray⟩]) rfl rfl (fun wz hz => ?_) ?_
  · have l0 := (HVB7.out.keep hz (by simp)).cell 0
    have l1 := (HVB7.out.keep hz (by simp)).cell 1
    have l2 := (HVB7.out.keep hz (by simp)).cell 2
    simp [go_sem, execOp, l0, l1, l2]
  simp only [Act.put, List.setIfInBounds_toArray, List.set_cons_succ, List.set_cons_zero]
  refine Seq3.wpL_call rfl rfl (by first | kernel_rfl | simp [go_sem, execOp]) (HY.out _ HF9.out) ?_
  rintro e w10 ⟨rfl, hf10⟩
  have HF10 := Lib.hid (HF9.out.trans hf10)
  refine ⟨_, rfl, HF10.out, ?_⟩
  simp only [Act.put, List.setIfInBounds_toArray, List.set_cons_succ, List.set_cons_zero]
  refine Seq3.wpL_held (v := .bool true) rfl rfl (fun wz hz => ?_) ?_
  · simp [go_sem, execOp]
  simp only [Act.put, List.setIfInBounds_toArray, List.set_cons_succ, List.set_cons_zero]
  refine Seq3.wpL_held (v := .bool true) rfl rfl (fun wz hz => ?_) ?_
  · simp [go_sem, execOp]
  simp only [Act.put, List.setIfInBounds_toArray, List.set_cons_succ, List.set_cons_zero]
  refine Seq3.wpL_quiet rfl rfl rfl (fun K hK => ?_)
  go_big_quiet_op
  first | refine hK _ ?_ | refine ⟨_, by intros; rfl, hK _ ?_⟩
  clear hK K
  refine Seq3.wpL_nil ?_
  go_wp2_with fail
  go_ret
  exact ⟨rfl, HF7.out.trans HF10.out⟩
end Pn
end Go.Proofs.YtmdnhinpaflamaaDoor
