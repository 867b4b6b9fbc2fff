/- parse: the law ParseShownExprs: an expression in as many brackets as it is shown in is parsed as it was. -/
import Derived.Test.YthmdgiodhjlbcaaDoorGaE
import Derived.Test.YthmdgiodhjlbcaaDoorExl
import Derived.Test.YthmdgiodhjlbcaaDoorShB
import Derived.Test.YthmdgiodhjlbcaaDoorPaF
import Derived.Deep.RegionHeld3
namespace Go.Proofs.YthmdgiodhjlbcaaDoor
open Go.RowKit
set_option linter.unusedVariables false
namespace Gn
open PM (Ex B)
open CM (Pr)
open Sh (bt bt_cat bt_size)
theorem sr_vals {A : Nat → Prop} {w : World} {c : Px.Cells13} {kind : Int} {table name join : B} {cols : List PM.Col} {tags : List Int} {values on wher order : List Ex} {items : List PM.It} {desc : Bool} {inner : List PM.St} (h : Px.SR A w (.mk kind table name cols tags values items join on wher order desc inner) c.list) :
    Rep.Es 30 A w values (.slice c.a5 c.l5 c.c5) ∧ Rep.Es 30 A w wher (.slice c.a9 c.l9 c.c9) := by
  obtain ⟨c_kind, c_table, c_name, c_join, a3, a4, a5, a6, a8, a9, a10, a12, l3, l4, l5, l6, l8, l9, l10, l12, c3, c4, c5, c6, c8, c9, c10, c12, c_desc⟩ := c
  simp only [Px.Cells13.list] at h
  cases h with
  | mk _ _ _ _ _ _ _ _ _ _ _ _ _ v3 v4 v5 v6 v8 v9 v10 v12 h3 h4 h5 h6 h8 h9 h10 h12 => exact ⟨h5, h9⟩
/-- a statement that is parsed, told: its expressions -/
theorem parse_two (S : B) (w : World) (m : Int) (hm : w.cell? ⟨1, 0, none⟩ = some (.int .i64 m)) (h00 : 1 < w.heap.size) (hS : S.length ≤ 1000) {kind : Int} {table name join : B} {cols : List PM.Col} {tags : List Int} {values on wher order : List Ex} {items : List PM.It} {desc : Bool} {inner : List PM.St}
    (hp : PM.parse S = .inr (.mk kind table name cols tags values items join on wher order desc inner)) :
    Calls Tryd.prog 17 #[.string ⟨S.toArray⟩] w fun e w' => ∃ (c : Px.Cells13) (q : Int), e = .returned (.tuple #[.agg #[.int .i64 c.kind, .string ⟨c.table.toArray⟩, .string ⟨c.name.toArray⟩, .slice c.a3 c.l3 c.c3, .slice c.a4 c.l4 c.c4, .slice c.a5 c.l5 c.c5, .slice c.a6 c.l6 c.c6, .string ⟨c.join.toArray⟩, .slice c.a8 c.l8 c.c8, .slice c.a9 c.l9 c.c9, .slice c.a10 c.l10 c.c10, .bool c.desc, .slice c.a12 c.l12 c.c12], .int .i64 q, .int .i64 0]) ∧
      Rep.Es 30 (fun b => w.heap.size ≤ b) w' values (.slice c.a5 c.l5 c.c5) ∧ Rep.Es 30 (fun b => w.heap.size ≤ b) w' wher (.slice c.a9 c.l9 c.c9) ∧ Fr [] w w' := by
  refine (Px.parse_told S w m hm h00 (by omega)).mono ?_
  rintro e w' ⟨c, rfl, hs, hf⟩
  have h := sr_vals (hs _ hp)
  rw [hp]
  exact ⟨c, _, rfl, h.1, h.2, hf⟩
theorem field_tabs (x y : Value) (w : World) : (Instr.field 44 (.agg #[x, y]) 0).run Tryd.prog w = .ok x w := by kernel_rfl
set_option maxRecDepth 100000 in
set_option maxHeartbeats 8000000 in
theorem pse_law (a : Option Addr) (len cap : Nat) (kind : Int) (h0 : 0 ≤ kind) (h255 : kind ≤ 255) (w : World) (m : Int) (hm : w.cell? ⟨1, 0, none⟩ = some (.int .i64 m)) (h00 : 1 < w.heap.size) (hlen : len ≤ maxLen)
    (h : ∀ j, j < len → ∃ (g off k : Nat), a = some ⟨g, off, none⟩ ∧ g < w.heap.size ∧ k ≤ 255 ∧ w.cell? ⟨g, off + j, none⟩ = some (.int .u8 k)) :
    Calls Tryd.prog 4 #[.slice a len cap, .int .u8 kind] w fun e w' => e = .returned (.bool true) ∧ Fr [] w w' := by
  have HB := Lib.hid (Px.begun_any w m hm h00)
  have HM := Lib.hid hm
  have HH := Lib.hid h
  clear hm h
  go_enter Tryd.func4, Tryd.ntmps4
  go_wp2_with fail
  refine HB.out.mono ?_
  rintro e w1 ⟨rfl, hf1⟩
  have HF1 := Lib.hid hf1
  clear hf1 HB
  by_cases hl : len > 50
  · have hl' : (50 : Int) < len := by omega
    go_wp2_with fail
    go_ret
    exact ⟨rfl, HF1.out⟩
  have hl' : (len : Int) ≤ 50 := by omega
  go_wp2_with fail
  refine (schema_any w1).mono ?_
  rintro e w2 ⟨rfl, hsch, hf2⟩
  have HS := Lib.hid hsch
  have HF2 := Lib.hid (HF1.out.trans hf2)
  have t0 := hsch.l.cell 0
  have t1 := hsch.l.cell 1
  have t2 := hsch.l.cell 2
  simp only [tabs, List.getElem?_cons_zero, List.getElem?_cons_succ] at t0 t1 t2
  have hlt := hsch.l.lt
  clear hsch hf2
  have hfd := fun x y w => field_tabs x y w
  go_wp2_with fail
  clear hfd
  refine (cols_tab (i := 0) (n := w1.heap.size) (by decide) _ HS.out).mono ?_
  rintro e w3 ⟨vc, vk, rfl, hc, hk, hf3⟩
  have HC3 := Lib.hid hc
  have HK3 := Lib.hid hk
  have HF3 := Lib.hid (HF2.out.trans hf3)
  clear hc hk hf3 t0 t1 t2 HS
  go_wp2_with fail
  refine (made_any w3 a len cap (by omega) (fun j hj => ?_)).mono ?_
  · obtain ⟨g, off, k, e1, e2, e3, e4⟩ := HH.out j hj
    exact ⟨g, off, k, e1, Nat.lt_of_lt_of_le e2 HF3.out.size, e3, (HF3.out.cell (p := ⟨g, off + j, none⟩) e2 (by simp)).trans e4⟩
  rintro e w4 ⟨rfl, hk4, hf4⟩
  have HK4 := Lib.hid hk4
  have HF4 := Lib.hid (HF3.out.trans hf4)
  have hs4 := hf4.size
  have HC4 : Hid (Cols w3.heap.size w3.heap.size w4 vc vk (tits 0) (tkinds 0)) := Lib.hid (cols_of hf4.size (Px.FlatS.keep hf4 (by simp) (Px.FlatS.mono (fun g hg => ⟨hg.2, by omega⟩) HC3.out.live)) (Px.FlatS.keep hf4 (by simp) (Px.FlatS.mono (fun g hg => ⟨hg.2, by omega⟩) HK3.out.live)) tits_ok (by rw [tits_len, tkinds_len]) (by rw [tits_len]; decide) tkinds_has)
  clear hk4 hf4 HC3 HK3
  obtain ⟨kd, hkd⟩ : ∃ kd : Int, 1 + kind % 3 = kd := ⟨_, rfl⟩
  have hkd3 : (kd = 1 ∨ kd = 2) ∨ (kd = 3 ∧ 2 ≤ 6) := by omega
  have HKD := Lib.hid hkd3
  clear hkd3
  go_wp2_with fail
  refine (expr_gen w3.heap.size vc vk (tits 0) (tkinds 0) 6 kd 0 (by decide) (by decide) (by decide) HKD.out w4 HK4.out HC4.out).mono ?_
  rintro e w5 ⟨⟨p, hsz, hx⟩, hk5, hf5⟩
  have HF5 : Hid (Fr [] w w5) := Lib.hid (HF4.out.trans' hf5 (fun i hi => by simp at hi; have := HF3.out.size; omega))
  have hs5 := hf5.size
  obtain ⟨po, pk, pi, pz, pt, pn, pa, pe, pc, rfl, hrep⟩ := Px.ex_cells hx
  have HREP := Lib.hid hrep
  have HSZ := Lib.hid hsz
  clear hx hrep hsz hk5 hf5 HC4 HK4
  have hl2560 : (sh p).length ≤ 2560 := by have := HSZ.out.len; omega
  obtain ⟨s, hs⟩ : ∃ s, bt (sh p) = s := ⟨_, rfl⟩
  have hss : (s.size : Int) ≤ 2560 := by rw [← hs, bt_size]; omega
  have HE : Hid (∀ W, Fr [] w5 W → Calls Tryd.prog 16 #[.agg #[.int .i64 po, .int .i64 pk, .int .i64 pi, .string ⟨pz.toArray⟩, .string ⟨pt.toArray⟩, .string ⟨pn.toArray⟩, .slice pa pe pc]] W fun e w' => e = .returned (.string s) ∧ Fr [] W w') := Lib.hid (fun W hf => by
    have := Sh.shown_any p HSZ.out.ok (by omega) _ _ _ (Rep.E.keep hf (by simp) HREP.out)
    rwa [hs] at this)
  have HSS := Lib.hid hs
  clear hs hl2560
  go_wp2_with fail
  refine (HE.out _ ((Fr.refl [] w5).alloc _)).mono ?_
  rintro e w6 ⟨rfl, hf6⟩
  have HEB := Lib.hid ((Blk.new w5 30 [.int .i64 po, .int .i64 pk, .int .i64 pi, .string ⟨pz.toArray⟩, .string ⟨pt.toArray⟩, .string ⟨pn.toArray⟩, .slice pa pe pc]).keep hf6 (by simp))
  have HF6 := Lib.hid ((HF5.out.alloc _).trans hf6)
  have HREP6 := Lib.hid (Rep.E.keep (((Fr.refl [] w5).alloc _).trans hf6) (by simp) HREP.out)
  clear hf6 HE HREP
  by_cases h150 : (150 : Int) < s.size
  · go_wp2_with fail
    go_ret
    exact ⟨rfl, HF6.out⟩
  have hsl : (sh p).length ≤ 150 := by
    have := bt_size (sh p)
    rw [HSS.out] at this
    omega
  have hcell : Hid (∀ W, Fr [] w W → W.cell? ⟨1, 0, none⟩ = some (.int .i64 m)) := Lib.hid fun W hf => (hf.cell (p := ⟨1, 0, none⟩) h00 (by simp)).trans HM.out
  have HOK := Lib.hid (Sz.okPr HSZ.out (by decide))
  have HW : Hid (∀ W, Fr [] w W → Calls Tryd.prog 10 #[.string s] W fun e w' => Px.WhY W w' e p.ex) := Lib.hid (fun W hf => by
    have := Px.where_yes (sh p) W m (hcell.out W hf) (Nat.lt_of_lt_of_le h00 hf.size) (by omega) (del_parse HOK.out hsl)
    rwa [show (⟨(sh p).toArray⟩ : ByteArray) = s from HSS.out] at this)
  go_wp2_with fail
  refine (HW.out _ HF6.out).mono ?_
  rintro e w7 ⟨cs, rfl, hrep, hf7⟩
  obtain ⟨ao, ak, ai, az, at', an, ag, aa, am, ac, _, rfl, _⟩ := Sm.e_cells hrep
  have HRA := Lib.hid hrep
  have HF7 := Lib.hid (HF6.out.trans hf7)
  have HEB7 := Lib.hid (HEB.out.keep hf7 (by simp))
  have HREP7 := Lib.hid (Rep.E.keep hf7 (by simp) HREP6.out)
  clear hrep hf7 HEB HREP6 HW
  have HI : Hid (∀ W, Fr [] w W → Calls Tryd.prog 17 #[.string (bt preI ++ s ++ bt [44, 32] ++ s ++ bt [41])] W fun e w' => ∃ (c : Px.Cells13) (q : Int), e = .returned (.tuple #[.agg #[.int .i64 c.kind, .string ⟨c.table.toArray⟩, .string ⟨c.name.toArray⟩, .slice c.a3 c.l3 c.c3, .slice c.a4 c.l4 c.c4, .slice c.a5 c.l5 c.c5, .slice c.a6 c.l6 c.c6, .string ⟨c.join.toArray⟩, .slice c.a8 c.l8 c.c8, .slice c.a9 c.l9 c.c9, .slice c.a10 c.l10 c.c10, .bool c.desc, .slice c.a12 c.l12 c.c12], .int .i64 q, .int .i64 0]) ∧
      Rep.Es 30 (fun b => W.heap.size ≤ b) w' [p.ex, p.ex] (.slice c.a5 c.l5 c.c5) ∧ Rep.Es 30 (fun b => W.heap.size ≤ b) w' [] (.slice c.a9 c.l9 c.c9) ∧ Fr [] W w') := Lib.hid (fun W hf => by
    have e : bt preI ++ s ++ bt [44, 32] ++ s ++ bt [41] = ⟨(preI ++ sh p ++ [44, 32] ++ sh p ++ [41]).toArray⟩ := by rw [← HSS.out, bt_cat, bt_cat, bt_cat, bt_cat]
    rw [e]
    exact parse_two _ W m (hcell.out W hf) (Nat.lt_of_lt_of_le h00 hf.size) (by simp only [List.length_append]; have : preI.length = 21 := rfl; simp; omega) (ins_parse HOK.out hsl))
  have HU : Hid (∀ W, Fr [] w W → Calls Tryd.prog 17 #[.string (bt preU ++ s ++ bt [32, 119, 104, 101, 114, 101, 32] ++ s)] W fun e w' => ∃ (c : Px.Cells13) (q : Int), e = .returned (.tuple #[.agg #[.int .i64 c.kind, .string ⟨c.table.toArray⟩, .string ⟨c.name.toArray⟩, .slice c.a3 c.l3 c.c3, .slice c.a4 c.l4 c.c4, .slice c.a5 c.l5 c.c5, .slice c.a6 c.l6 c.c6, .string ⟨c.join.toArray⟩, .slice c.a8 c.l8 c.c8, .slice c.a9 c.l9 c.c9, .slice c.a10 c.l10 c.c10, .bool c.desc, .slice c.a12 c.l12 c.c12], .int .i64 q, .int .i64 0]) ∧
      Rep.Es 30 (fun b => W.heap.size ≤ b) w' [p.ex] (.slice c.a5 c.l5 c.c5) ∧ Rep.Es 30 (fun b => W.heap.size ≤ b) w' [p.ex] (.slice c.a9 c.l9 c.c9) ∧ Fr [] W w') := Lib.hid (fun W hf => by
    have e : bt preU ++ s ++ bt [32, 119, 104, 101, 114, 101, 32] ++ s = ⟨(preU ++ sh p ++ [32, 119, 104, 101, 114, 101, 32] ++ sh p).toArray⟩ := by rw [← HSS.out, bt_cat, bt_cat, bt_cat]
    rw [e]
    exact parse_two _ W m (hcell.out W hf) (Nat.lt_of_lt_of_le h00 hf.size) (by simp only [List.length_append]; have : preU.length = 17 := rfl; simp; omega) (upd_parse HOK.out hsl))
  have HA7 := Lib.hid (Blk.new w7 30 [.int .i64 ao, .int .i64 ak, .int .i64 ai, .string ⟨az.toArray⟩, .string ⟨at'.toArray⟩, .string ⟨an.toArray⟩, .slice aa am ac])
  have HF7b := Lib.hid (HF7.out.alloc (.cells #[.int .i64 ao, .int .i64 ak, .int .i64 ai, .string ⟨az.toArray⟩, .string ⟨at'.toArray⟩, .string ⟨an.toArray⟩, .slice aa am ac] 30))
  have q1 : (s.size : Int) ≤ 150 := by omega
  go_wp2_with fail
  refine (HI.out _ HF7b.out).mono ?_
  rintro e w8 ⟨c, q, rfl, hes, -, hf8⟩
  obtain ⟨c_kind, c_table, c_name, c_join, a3, a4, a5, a6, a8, a9, a10, a12, l3, l4, l5, l6, l8, l9, l10, l12, c3, c4, c5, c6, c8, c9, c10, c12, c_desc⟩ := c
  simp only [] at hes
  obtain ⟨g1, o1, y1, z1, rfl, rfl, hc5, hg1, hy1, hz1, -, hzc⟩ := Sh.two_at hes
  obtain ⟨zo, zk, zi, zz, zt, zn, zg, za, zm, zc, _, rfl, _⟩ := Sm.e_cells hz1
  have HZ := Lib.hid hz1
  have HZC := Lib.hid (Sh.sev hzc)
  have HF8 := Lib.hid (HF7b.out.trans hf8)
  have HA8 := Lib.hid (HA7.out.keep hf8 (by simp))
  have hfe := ((Fr.refl [] w7).alloc (.cells #[.int .i64 ao, .int .i64 ak, .int .i64 ai, .string ⟨az.toArray⟩, .string ⟨at'.toArray⟩, .string ⟨an.toArray⟩, .slice aa am ac] 30)).trans hf8
  have HEB8 := Lib.hid (HEB7.out.keep hfe (by simp))
  have HREP8 := Lib.hid (Rep.E.keep hfe (by simp) HREP7.out)
  have HRA8 := Lib.hid (Rep.E.keep hfe (by simp) HRA.out)
  clear hes hy1 hz1 hzc hf8 hfe HA7 HEB7 HREP7 HRA HI HF7b
  go_wp2_with fail
  refine (HU.out _ (HF8.out.alloc (.cells #[.int .i64 c_kind, .string ⟨c_table.toArray⟩, .string ⟨c_name.toArray⟩, .slice a3 l3 c3, .slice a4 l4 c4, .slice (some ⟨g1, o1, none⟩) 2 c5, .slice a6 l6 c6, .string ⟨c_join.toArray⟩, .slice a8 l8 c8, .slice a9 l9 c9, .slice a10 l10 c10, .bool c_desc, .slice a12 l12 c12] 53))).mono ?_
  rintro e w10 ⟨d, q', rfl, hes, hes2, hf10⟩
  obtain ⟨d_kind, d_table, d_name, d_join, b3, b4, b5, b6, b8, b9, b10, b12, k3, k4, k5, k6, k8, k9, k10, k12, d3, d4, d5, d6, d8, d9, d10, d12, d_desc⟩ := d
  simp only [] at hes hes2
  obtain ⟨g2, o2, y2, rfl, rfl, hd5, hg2, hv, hvc⟩ := Sh.one_at hes
  obtain ⟨g3, o3, y3, rfl, rfl, hd9, hg3, hx, hxc⟩ := Sh.one_at hes2
  obtain ⟨vo, vvk, vi, vz, vt, vn, vg, va, vm, vvc, _, rfl, _⟩ := Sm.e_cells hv
  obtain ⟨xo, xk, xi, xz, xt, xn, xg, xa, xm, xc, _, rfl, _⟩ := Sm.e_cells hx
  have hfs := ((Fr.refl [] w8).alloc (.cells #[.int .i64 c_kind, .string ⟨c_table.toArray⟩, .string ⟨c_name.toArray⟩, .slice a3 l3 c3, .slice a4 l4 c4, .slice (some ⟨g1, o1, none⟩) 2 c5, .slice a6 l6 c6, .string ⟨c_join.toArray⟩, .slice a8 l8 c8, .slice a9 l9 c9, .slice a10 l10 c10, .bool c_desc, .slice a12 l12 c12] 53)).trans hf10
  have HUB := Lib.hid (Blk.new w10 53 [.int .i64 d_kind, .string ⟨d_table.toArray⟩, .string ⟨d_name.toArray⟩, .slice b3 k3 d3, .slice b4 k4 d4, .slice (some ⟨g2, o2, none⟩) 1 d5, .slice b6 k6 d6, .string ⟨d_join.toArray⟩, .slice b8 k8 d8, .slice (some ⟨g3, o3, none⟩) 1 d9, .slice b10 k10 d10, .bool d_desc, .slice b12 k12 d12])
  have hfz := hfs.alloc (.cells #[.int .i64 d_kind, .string ⟨d_table.toArray⟩, .string ⟨d_name.toArray⟩, .slice b3 k3 d3, .slice b4 k4 d4, .slice (some ⟨g2, o2, none⟩) 1 d5, .slice b6 k6 d6, .string ⟨d_join.toArray⟩, .slice b8 k8 d8, .slice (some ⟨g3, o3, none⟩) 1 d9, .slice b10 k10 d10, .bool d_desc, .slice b12 k12 d12] 53)
  have hft := (Fr.refl [] w10).alloc (.cells #[.int .i64 d_kind, .string ⟨d_table.toArray⟩, .string ⟨d_name.toArray⟩, .slice b3 k3 d3, .slice b4 k4 d4, .slice (some ⟨g2, o2, none⟩) 1 d5, .slice b6 k6 d6, .string ⟨d_join.toArray⟩, .slice b8 k8 d8, .slice (some ⟨g3, o3, none⟩) 1 d9, .slice b10 k10 d10, .bool d_desc, .slice b12 k12 d12] 53)
  have HSB := Lib.hid (((Blk.new w8 53 [.int .i64 c_kind, .string ⟨c_table.toArray⟩, .string ⟨c_name.toArray⟩, .slice a3 l3 c3, .slice a4 l4 c4, .slice (some ⟨g1, o1, none⟩) 2 c5, .slice a6 l6 c6, .string ⟨c_join.toArray⟩, .slice a8 l8 c8, .slice a9 l9 c9, .slice a10 l10 c10, .bool c_desc, .slice a12 l12 c12]).keep hf10 (by simp)).keep hft (by simp))
  have HAB := Lib.hid (HA8.out.keep hfz (by simp))
  have HEB := Lib.hid (HEB8.out.keep hfz (by simp))
  have HRE := Lib.hid (Rep.E.keep hfz (by simp) HREP8.out)
  have HR1 := Lib.hid (Rep.E.keep hfz (by simp) HRA8.out)
  have HR2 := Lib.hid (Rep.E.keep hfz (by simp) HZ.out)
  have HR3 := Lib.hid (Rep.E.keep hft (by simp) hv)
  have HR4 := Lib.hid (Rep.E.keep hft (by simp) hx)
  have HFZ := Lib.hid (HF8.out.trans hfz)
  have HZC2 : Hid (∀ i, g1 < w8.heap.size → (w10.alloc (.cells #[.int .i64 d_kind, .string ⟨d_table.toArray⟩, .string ⟨d_name.toArray⟩, .slice b3 k3 d3, .slice b4 k4 d4, .slice (some ⟨g2, o2, none⟩) 1 d5, .slice b6 k6 d6, .string ⟨d_join.toArray⟩, .slice b8 k8 d8, .slice (some ⟨g3, o3, none⟩) 1 d9, .slice b10 k10 d10, .bool d_desc, .slice b12 k12 d12] 53)).cell? ⟨g1, i, none⟩ = w8.cell? ⟨g1, i, none⟩) := Lib.hid (fun i h => hfz.cell (p := ⟨g1, i, none⟩) h (by simp))
  have HVC : Hid (∀ i, (w10.alloc (.cells #[.int .i64 d_kind, .string ⟨d_table.toArray⟩, .string ⟨d_name.toArray⟩, .slice b3 k3 d3, .slice b4 k4 d4, .slice (some ⟨g2, o2, none⟩) 1 d5, .slice b6 k6 d6, .string ⟨d_join.toArray⟩, .slice b8 k8 d8, .slice (some ⟨g3, o3, none⟩) 1 d9, .slice b10 k10 d10, .bool d_desc, .slice b12 k12 d12] 53)).cell? ⟨g2, i, none⟩ = w10.cell? ⟨g2, i, none⟩) := Lib.hid (fun i => hft.cell (p := ⟨g2, i, none⟩) hg2 (by simp))
  have HXC : Hid (∀ i, (w10.alloc (.cells #[.int .i64 d_kind, .string ⟨d_table.toArray⟩, .string ⟨d_name.toArray⟩, .slice b3 k3 d3, .slice b4 k4 d4, .slice (some ⟨g2, o2, none⟩) 1 d5, .slice b6 k6 d6, .string ⟨d_join.toArray⟩, .slice b8 k8 d8, .slice (some ⟨g3, o3, none⟩) 1 d9, .slice b10 k10 d10, .bool d_desc, .slice b12 k12 d12] 53)).cell? ⟨g3, i, none⟩ = w10.cell? ⟨g3, i, none⟩) := Lib.hid (fun i => hft.cell (p := ⟨g3, i, none⟩) hg3 (by simp))
  have HV7 := Lib.hid (Sh.sev hvc)
  have HX7 := Lib.hid (Sh.sev hxc)
  have hn1 : g1 < (w10.alloc (.cells #[.int .i64 d_kind, .string ⟨d_table.toArray⟩, .string ⟨d_name.toArray⟩, .slice b3 k3 d3, .slice b4 k4 d4, .slice (some ⟨g2, o2, none⟩) 1 d5, .slice b6 k6 d6, .string ⟨d_join.toArray⟩, .slice b8 k8 d8, .slice (some ⟨g3, o3, none⟩) 1 d9, .slice b10 k10 d10, .bool d_desc, .slice b12 k12 d12] 53)).heap.size := Nat.lt_of_lt_of_le hg1 hfz.size
  have hn2 : g2 < (w10.alloc (.cells #[.int .i64 d_kind, .string ⟨d_table.toArray⟩, .string ⟨d_name.toArray⟩, .slice b3 k3 d3, .slice b4 k4 d4, .slice (some ⟨g2, o2, none⟩) 1 d5, .slice b6 k6 d6, .string ⟨d_join.toArray⟩, .slice b8 k8 d8, .slice (some ⟨g3, o3, none⟩) 1 d9, .slice b10 k10 d10, .bool d_desc, .slice b12 k12 d12] 53)).heap.size := Nat.lt_of_lt_of_le hg2 hft.size
  have hn3 : g3 < (w10.alloc (.cells #[.int .i64 d_kind, .string ⟨d_table.toArray⟩, .string ⟨d_name.toArray⟩, .slice b3 k3 d3, .slice b4 k4 d4, .slice (some ⟨g2, o2, none⟩) 1 d5, .slice b6 k6 d6, .string ⟨d_join.toArray⟩, .slice b8 k8 d8, .slice (some ⟨g3, o3, none⟩) 1 d9, .slice b10 k10 d10, .bool d_desc, .slice b12 k12 d12] 53)).heap.size := Nat.lt_of_lt_of_le hg3 hft.size
  clear hes hes2 hv hx hvc hxc hf10 hfs hfz hft HA8 HEB8 HREP8 HRA8 HZ HU
  have q5 : (2 : Int) ≤ c5 := by omega
  have q6 : (1 : Int) ≤ d5 := by omega
  have q7 : (1 : Int) ≤ d9 := by omega
  go_wp2_with fail
  generalize w10.alloc (.cells #[.int .i64 d_kind, .string ⟨d_table.toArray⟩, .string ⟨d_name.toArray⟩, .slice b3 k3 d3, .slice b4 k4 d4, .slice (some ⟨g2, o2, none⟩) 1 d5, .slice b6 k6 d6, .string ⟨d_join.toArray⟩, .slice b8 k8 d8, .slice (some ⟨g3, o3, none⟩) 1 d9, .slice b10 k10 d10, .bool d_desc, .slice b12 k12 d12] 53) = w11 at HUB HSB HAB HEB HRE HR1 HR2 HR3 HR4 HFZ HZC2 HVC HXC hn1 hn2 hn3 ⊢
  have HQ1 : Hid (∀ W, Fr [] w11 W → Calls Tryd.prog 11 #[.agg #[.int .i64 ao, .int .i64 ak, .int .i64 ai, .string ⟨az.toArray⟩, .string ⟨at'.toArray⟩, .string ⟨an.toArray⟩, .slice aa am ac], .agg #[.int .i64 po, .int .i64 pk, .int .i64 pi, .string ⟨pz.toArray⟩, .string ⟨pt.toArray⟩, .string ⟨pn.toArray⟩, .slice pa pe pc]] W fun e w' => e = .returned (.bool true) ∧ Fr [] W w') := Lib.hid (fun W hf => Sm.same_e p.ex _ _ W _ _ (Rep.E.keep hf (by simp) HR1.out) (Rep.E.keep hf (by simp) HRE.out))
  have HQ2 : Hid (∀ W, Fr [] w11 W → Calls Tryd.prog 11 #[.agg #[.int .i64 zo, .int .i64 zk, .int .i64 zi, .string ⟨zz.toArray⟩, .string ⟨zt.toArray⟩, .string ⟨zn.toArray⟩, .slice za zm zc], .agg #[.int .i64 po, .int .i64 pk, .int .i64 pi, .string ⟨pz.toArray⟩, .string ⟨pt.toArray⟩, .string ⟨pn.toArray⟩, .slice pa pe pc]] W fun e w' => e = .returned (.bool true) ∧ Fr [] W w') := Lib.hid (fun W hf => Sm.same_e p.ex _ _ W _ _ (Rep.E.keep hf (by simp) HR2.out) (Rep.E.keep hf (by simp) HRE.out))
  have HQ3 : Hid (∀ W, Fr [] w11 W → Calls Tryd.prog 11 #[.agg #[.int .i64 vo, .int .i64 vvk, .int .i64 vi, .string ⟨vz.toArray⟩, .string ⟨vt.toArray⟩, .string ⟨vn.toArray⟩, .slice va vm vvc], .agg #[.int .i64 po, .int .i64 pk, .int .i64 pi, .string ⟨pz.toArray⟩, .string ⟨pt.toArray⟩, .string ⟨pn.toArray⟩, .slice pa pe pc]] W fun e w' => e = .returned (.bool true) ∧ Fr [] W w') := Lib.hid (fun W hf => Sm.same_e p.ex _ _ W _ _ (Rep.E.keep hf (by simp) HR3.out) (Rep.E.keep hf (by simp) HRE.out))
  have HQ4 : Hid (∀ W, Fr [] w11 W → Calls Tryd.prog 11 #[.agg #[.int .i64 xo, .int .i64 xk, .int .i64 xi, .string ⟨xz.toArray⟩, .string ⟨xt.toArray⟩, .string ⟨xn.toArray⟩, .slice xa xm xc], .agg #[.int .i64 po, .int .i64 pk, .int .i64 pi, .string ⟨pz.toArray⟩, .string ⟨pt.toArray⟩, .string ⟨pn.toArray⟩, .slice pa pe pc]] W fun e w' => e = .returned (.bool true) ∧ Fr [] W w') := Lib.hid (fun W hf => Sm.same_e p.ex _ _ W _ _ (Rep.E.keep hf (by simp) HR4.out) (Rep.E.keep hf (by simp) HRE.out))
  have HKEY : Hid (∀ W, Fr [] w11 W → W.cell? ⟨w7.heap.size, 0, none⟩ = some (.int .i64 ao) ∧ W.cell? ⟨w7.heap.size, 1, none⟩ = some (.int .i64 ak) ∧ W.cell? ⟨w7.heap.size, 2, none⟩ = some (.int .i64 ai) ∧ W.cell? ⟨w7.heap.size, 3, none⟩ = some (.string ⟨az.toArray⟩) ∧ W.cell? ⟨w7.heap.size, 4, none⟩ = some (.string ⟨at'.toArray⟩) ∧ W.cell? ⟨w7.heap.size, 5, none⟩ = some (.string ⟨an.toArray⟩) ∧ W.cell? ⟨w7.heap.size, 6, none⟩ = some (.slice aa am ac) ∧ W.cell? ⟨w5.heap.size, 0, none⟩ = some (.int .i64 po) ∧ W.cell? ⟨w5.heap.size, 1, none⟩ = some (.int .i64 pk) ∧ W.cell? ⟨w5.heap.size, 2, none⟩ = some (.int .i64 pi) ∧ W.cell? ⟨w5.heap.size, 3, none⟩ = some (.string ⟨pz.toArray⟩) ∧ W.cell? ⟨w5.heap.size, 4, none⟩ = some (.string ⟨pt.toArray⟩) ∧ W.cell? ⟨w5.heap.size, 5, none⟩ = some (.string ⟨pn.toArray⟩) ∧ W.cell? ⟨w5.heap.size, 6, none⟩ = some (.slice pa pe pc) ∧ W.cell? ⟨w8.heap.size, 5, none⟩ = some (.slice (some ⟨g1, o1, none⟩) 2 c5) ∧ W.cell? ⟨w10.heap.size, 5, none⟩ = some (.slice (some ⟨g2, o2, none⟩) 1 d5) ∧ W.cell? ⟨w10.heap.size, 9, none⟩ = some (.slice (some ⟨g3, o3, none⟩) 1 d9) ∧ W.cell? ⟨g1, o1 + 7, none⟩ = some (.int .i64 zo) ∧ W.cell? ⟨g1, o1 + 7 + 1, none⟩ = some (.int .i64 zk) ∧ W.cell? ⟨g1, o1 + 7 + 2, none⟩ = some (.int .i64 zi) ∧ W.cell? ⟨g1, o1 + 7 + 3, none⟩ = some (.string ⟨zz.toArray⟩) ∧ W.cell? ⟨g1, o1 + 7 + 4, none⟩ = some (.string ⟨zt.toArray⟩) ∧ W.cell? ⟨g1, o1 + 7 + 5, none⟩ = some (.string ⟨zn.toArray⟩) ∧ W.cell? ⟨g1, o1 + 7 + 6, none⟩ = some (.slice za zm zc) ∧ W.cell? ⟨g2, o2, none⟩ = some (.int .i64 vo) ∧ W.cell? ⟨g2, o2 + 1, none⟩ = some (.int .i64 vvk) ∧ W.cell? ⟨g2, o2 + 2, none⟩ = some (.int .i64 vi) ∧ W.cell? ⟨g2, o2 + 3, none⟩ = some (.string ⟨vz.toArray⟩) ∧ W.cell? ⟨g2, o2 + 4, none⟩ = some (.string ⟨vt.toArray⟩) ∧ W.cell? ⟨g2, o2 + 5, none⟩ = some (.string ⟨vn.toArray⟩) ∧ W.cell? ⟨g2, o2 + 6, none⟩ = some (.slice va vm vvc) ∧ W.cell? ⟨g3, o3, none⟩ = some (.int .i64 xo) ∧ W.cell? ⟨g3, o3 + 1, none⟩ = some (.int .i64 xk) ∧ W.cell? ⟨g3, o3 + 2, none⟩ = some (.int .i64 xi) ∧ W.cell? ⟨g3, o3 + 3, none⟩ = some (.string ⟨xz.toArray⟩) ∧ W.cell? ⟨g3, o3 + 4, none⟩ = some (.string ⟨xt.toArray⟩) ∧ W.cell? ⟨g3, o3 + 5, none⟩ = some (.string ⟨xn.toArray⟩) ∧ W.cell? ⟨g3, o3 + 6, none⟩ = some (.slice xa xm xc)) := Lib.hid (by
    intro W hW
    have kA := HAB.out.keep hW (by simp)
    have kE := HEB.out.keep hW (by simp)
    have kS := HSB.out.keep hW (by simp)
    have kU := HUB.out.keep hW (by simp)
    obtain ⟨z0, z1, z2, z3, z4, z5, z6⟩ := HZC.out
    obtain ⟨v0, v1, v2, v3, v4, v5, v6⟩ := HV7.out
    obtain ⟨x0, x1, x2, x3, x4, x5, x6⟩ := HX7.out
    have kz : ∀ i u, w8.cell? ⟨g1, i, none⟩ = some u → W.cell? ⟨g1, i, none⟩ = some u := fun i u h => (hW.cell (p := ⟨g1, i, none⟩) hn1 (by simp)).trans ((HZC2.out i hg1).trans h)
    have kv : ∀ i u, w10.cell? ⟨g2, i, none⟩ = some u → W.cell? ⟨g2, i, none⟩ = some u := fun i u h => (hW.cell (p := ⟨g2, i, none⟩) hn2 (by simp)).trans ((HVC.out i).trans h)
    have kx : ∀ i u, w10.cell? ⟨g3, i, none⟩ = some u → W.cell? ⟨g3, i, none⟩ = some u := fun i u h => (hW.cell (p := ⟨g3, i, none⟩) hn3 (by simp)).trans ((HXC.out i).trans h)
    exact ⟨kA.cell 0, kA.cell 1, kA.cell 2, kA.cell 3, kA.cell 4, kA.cell 5, kA.cell 6, kE.cell 0, kE.cell 1, kE.cell 2, kE.cell 3, kE.cell 4, kE.cell 5, kE.cell 6, kS.cell 5, kU.cell 5, kU.cell 9, kz _ _ z0, kz _ _ z1, kz _ _ z2, kz _ _ z3, kz _ _ z4, kz _ _ z5, kz _ _ z6, kv _ _ v0, kv _ _ v1, kv _ _ v2, kv _ _ v3, kv _ _ v4, kv _ _ v5, kv _ _ v6, kx _ _ x0, kx _ _ x1, kx _ _ x2, kx _ _ x3, kx _ _ x4, kx _ _ x5, kx _ _ x6⟩)
  have HFa : Hid (Fr [] w11 w11) := Lib.hid (Fr.refl [] w11)
  clear HUB HSB HAB HEB HZC2 HVC HXC hn1 hn2 hn3
  go_region_held3 (fun W => W.cell? ⟨w7.heap.size, 0, none⟩ = some (.int .i64 ao) ∧ W.cell? ⟨w7.heap.size, 1, none⟩ = some (.int .i64 ak) ∧ W.cell? ⟨w7.heap.size, 2, none⟩ = some (.int .i64 ai) ∧ W.cell? ⟨w7.heap.size, 3, none⟩ = some (.string ⟨az.toArray⟩) ∧ W.cell? ⟨w7.heap.size, 4, none⟩ = some (.string ⟨at'.toArray⟩) ∧ W.cell? ⟨w7.heap.size, 5, none⟩ = some (.string ⟨an.toArray⟩) ∧ W.cell? ⟨w7.heap.size, 6, none⟩ = some (.slice aa am ac) ∧ W.cell? ⟨w5.heap.size, 0, none⟩ = some (.int .i64 po) ∧ W.cell? ⟨w5.heap.size, 1, none⟩ = some (.int .i64 pk) ∧ W.cell? ⟨w5.heap.size, 2, none⟩ = some (.int .i64 pi) ∧ W.cell? ⟨w5.heap.size, 3, none⟩ = some (.string ⟨pz.toArray⟩) ∧ W.cell? ⟨w5.heap.size, 4, none⟩ = some (.string ⟨pt.toArray⟩) ∧ W.cell? ⟨w5.heap.size, 5, none⟩ = some (.string ⟨pn.toArray⟩) ∧ W.cell? ⟨w5.heap.size, 6, none⟩ = some (.slice pa pe pc) ∧ W.cell? ⟨w8.heap.size, 5, none⟩ = some (.slice (some ⟨g1, o1, none⟩) 2 c5) ∧ W.cell? ⟨w10.heap.size, 5, none⟩ = some (.slice (some ⟨g2, o2, none⟩) 1 d5) ∧ W.cell? ⟨w10.heap.size, 9, none⟩ = some (.slice (some ⟨g3, o3, none⟩) 1 d9) ∧ W.cell? ⟨g1, o1 + 7, none⟩ = some (.int .i64 zo) ∧ W.cell? ⟨g1, o1 + 7 + 1, none⟩ = some (.int .i64 zk) ∧ W.cell? ⟨g1, o1 + 7 + 2, none⟩ = some (.int .i64 zi) ∧ W.cell? ⟨g1, o1 + 7 + 3, none⟩ = some (.string ⟨zz.toArray⟩) ∧ W.cell? ⟨g1, o1 + 7 + 4, none⟩ = some (.string ⟨zt.toArray⟩) ∧ W.cell? ⟨g1, o1 + 7 + 5, none⟩ = some (.string ⟨zn.toArray⟩) ∧ W.cell? ⟨g1, o1 + 7 + 6, none⟩ = some (.slice za zm zc) ∧ W.cell? ⟨g2, o2, none⟩ = some (.int .i64 vo) ∧ W.cell? ⟨g2, o2 + 1, none⟩ = some (.int .i64 vvk) ∧ W.cell? ⟨g2, o2 + 2, none⟩ = some (.int .i64 vi) ∧ W.cell? ⟨g2, o2 + 3, none⟩ = some (.string ⟨vz.toArray⟩) ∧ W.cell? ⟨g2, o2 + 4, none⟩ = some (.string ⟨vt.toArray⟩) ∧ W.cell? ⟨g2, o2 + 5, none⟩ = some (.string ⟨vn.toArray⟩) ∧ W.cell? ⟨g2, o2 + 6, none⟩ = some (.slice va vm vvc) ∧ W.cell? ⟨g3, o3, none⟩ = some (.int .i64 xo) ∧ W.cell? ⟨g3, o3 + 1, none⟩ = some (.int .i64 xk) ∧ W.cell? ⟨g3, o3 + 2, none⟩ = some (.int .i64 xi) ∧ W.cell? ⟨g3, o3 + 3, none⟩ = some (.string ⟨xz.toArray⟩) ∧ W.cell? ⟨g3, o3 + 4, none⟩ = some (.string ⟨xt.toArray⟩) ∧ W.cell? ⟨g3, o3 + 5, none⟩ = some (.string ⟨xn.toArray⟩) ∧ W.cell? ⟨g3, o3 + 6, none⟩ = some (.slice xa xm xc))
    (first
      | exact HKEY.out _ HFa.out
      | exact HKEY.out _ HFa.out.drew)
    (first
      | (go_at_call 11
         with_reducible refine Calls.mono (HQ1.out _ ?hf0) ?_
         case hf0 => first | exact HFa.out | exact HFa.out.drew
         rintro e wz ⟨rfl, hf⟩
         replace HFa : Hid (Fr [] w11 wz) := Lib.hid (by first | exact HFa.out.trans hf | exact HFa.out.drew.trans hf)
         clear hf)
      | (go_at_call 11
         with_reducible refine Calls.mono (HQ2.out _ ?hf0) ?_
         case hf0 => first | exact HFa.out | exact HFa.out.drew
         rintro e wz ⟨rfl, hf⟩
         replace HFa : Hid (Fr [] w11 wz) := Lib.hid (by first | exact HFa.out.trans hf | exact HFa.out.drew.trans hf)
         clear hf)
      | (go_at_call 11
         with_reducible refine Calls.mono (HQ3.out _ ?hf0) ?_
         case hf0 => first | exact HFa.out | exact HFa.out.drew
         rintro e wz ⟨rfl, hf⟩
         replace HFa : Hid (Fr [] w11 wz) := Lib.hid (by first | exact HFa.out.trans hf | exact HFa.out.drew.trans hf)
         clear hf)
      | (go_at_call 11
         with_reducible refine Calls.mono (HQ4.out _ ?hf0) ?_
         case hf0 => first | exact HFa.out | exact HFa.out.drew
         rintro e wz ⟨rfl, hf⟩
         replace HFa : Hid (Fr [] w11 wz) := Lib.hid (by first | exact HFa.out.trans hf | exact HFa.out.drew.trans hf)
         clear hf))
  all_goals
    go_wp2_with fail
    go_ret
    exact ⟨rfl, HFZ.out.trans HFa.out⟩
end Gn
end Go.Proofs.YthmdgiodhjlbcaaDoor
