/- show: the law ShowAll: statements and expressions are shown as the document shows them. -/
import Derived.Test.YtmdnhinpaflamaaDoorGst
import Derived.Test.YtmdnhinpaflamaaDoorShE
import Derived.Test.YtmdnhinpaflamaaDoorSwD
import Derived.Test.YtmdnhinpaflamaaDoorShK
import Derived.Deep.RegionHeld3
namespace Go.Proofs.YtmdnhinpaflamaaDoor
open Go.RowKit
set_option linter.unusedVariables false
set_option linter.unusedSimpArgs false
namespace Gn
open PM (Ex B)
open Px (SR StR)
open CM (Pr Qs)
open Sh (bt bt_cat bt_size qsT)
theorem field_tabs8 (a b : Value) (w : World) : (Instr.field 31 (.agg #[a, b]) 0).run Tryd.prog w = .ok a w := by kernel_rfl
set_option maxRecDepth 100000 in
set_option maxHeartbeats 4000000 in
/-- begun -/
theorem begun8_any (w : World) (hE : Sw.Env w) :
    Calls Tryd.prog 20 #[] w fun e w' => e = .returned (.bool true) ∧ Fr [] w w' := by
  have HE := Lib.hid hE
  clear hE
  go_enter Tryd.func20, Tryd.ntmps20
  go_wp2_with fail
  have hb := Blk.new w 41 [.int .i64 2, .int .i64 0, .int .i64 0, .string ⟨#[]⟩, .string ⟨#[]⟩, .string ⟨#[97]⟩, .slice none 0 0]
  have hf0 := ((Fr.refl [] w).alloc (.cells #[.int .i64 2, .int .i64 0, .int .i64 0, .string ⟨#[]⟩, .string ⟨#[]⟩, .string ⟨#[97]⟩, .slice none 0 0] 41)).alloc (.cells #[.int .i64 2, .int .i64 0, .int .i64 0, .string ⟨#[]⟩, .string ⟨#[]⟩, .string ⟨#[97]⟩, .slice none 0 0, .int .i64 2, .int .i64 0, .int .i64 0, .string ⟨#[]⟩, .string ⟨#[]⟩, .string ⟨#[97]⟩, .slice none 0 0] 41)
  have hr : Rep.E 41 (fun _ => True) ((w.alloc (.cells #[.int .i64 2, .int .i64 0, .int .i64 0, .string ⟨#[]⟩, .string ⟨#[]⟩, .string ⟨#[97]⟩, .slice none 0 0] 41)).alloc (.cells #[.int .i64 2, .int .i64 0, .int .i64 0, .string ⟨#[]⟩, .string ⟨#[]⟩, .string ⟨#[97]⟩, .slice none 0 0, .int .i64 2, .int .i64 0, .int .i64 0, .string ⟨#[]⟩, .string ⟨#[]⟩, .string ⟨#[97]⟩, .slice none 0 0] 41)) (Pr.bin 0 (.col [97]) (.col [97])).ex [.int .i64 5, .int .i64 0, .int .i64 0, .string ⟨#[]⟩, .string ⟨#[]⟩, .string ⟨#[]⟩, .slice (some ⟨w.heap.size + 1, 0, none⟩) 2 2] := by
    have h1 : ∀ W, Rep.E 41 (fun _ => True) W (Pr.ex (.col [97])) [.int .i64 2, .int .i64 0, .int .i64 0, .string ⟨#[]⟩, .string ⟨#[]⟩, .string ⟨#[97]⟩, .slice none 0 0] := fun W => .mk 2 0 0 [] [] [97] [] _ Rep.Es.nil
    have hL : Rep.L 41 (fun _ => True) (w.alloc (.cells #[.int .i64 2, .int .i64 0, .int .i64 0, .string ⟨#[]⟩, .string ⟨#[]⟩, .string ⟨#[97]⟩, .slice none 0 0] 41)) [Pr.ex (.col [97]), Pr.ex (.col [97])] _ := .cons _ _ _ _ (h1 _) (.cons _ _ _ _ (h1 _) .nil)
    have h2 := es_new hL trivial (by simp [maxLen])
    rw [World.size_alloc] at h2
    exact .mk 5 0 0 [] [] [] _ _ h2
  have HX := Lib.hid (Sw.shown_any (.bin 0 (.col [97]) (.col [97])) (by decide) (by decide) _ _ _ (HE.out.keep hf0) hr)
  rw [show bt (sh (.bin 0 (.col [97]) (.col [97]))) = ⟨#[40, 97, 32, 43, 32, 97, 41]⟩ from by rw [show sh (.bin 0 (.col [97]) (.col [97])) = [40, 97, 32, 43, 32, 97, 41] from by decide]] at HX
  refine HX.out.mono ?_
  rintro e w1 ⟨rfl, hf1⟩
  have HF1 := Lib.hid (hf0.trans hf1)
  clear hb hf0 hr hf1 HX
  have HS := Lib.hid (Sw.show_any (.plain 0) 64 (by decide) (by decide) (fun _ => True) w1 [.int .i64 9, .string ⟨#[]⟩, .string ⟨#[]⟩, .slice none 0 0, .slice none 0 0, .slice none 0 0, .slice none 0 0, .string ⟨#[]⟩, .slice none 0 0, .slice none 0 0, .slice none 0 0, .bool false, .slice none 0 0] (HE.out.keep HF1.out) (.mk 9 [] [] [] [] [] [] [] [] [] [] false [] _ _ _ _ _ _ _ _ .nil .nil Rep.Es.nil .nil Rep.Es.nil Rep.Es.nil Rep.Es.nil Px.SS.nil))
  rw [show bt (qsT (.plain 0)) = ⟨#[98, 101, 103, 105, 110]⟩ from rfl] at HS
  go_wp2_with fail
  refine HS.out.mono ?_
  rintro e w2 ⟨rfl, hf2⟩
  have HF2 := Lib.hid (HF1.out.trans hf2)
  clear hf2 HS
  go_wp2_with fail
  go_ret
  exact ⟨rfl, HF2.out⟩
set_option maxRecDepth 4000000 in
set_option maxHeartbeats 16000000 in
theorem showall_law (a : Option Addr) (len cap : Nat) (kind : Int) (hk0 : 0 ≤ kind) (hk255 : kind ≤ 255) (w : World) (hE : Sw.Env w) (hlen : len ≤ maxLen)
    (h : ∀ j, j < len → ∃ (g off k : Nat), a = some ⟨g, off, none⟩ ∧ g < w.heap.size ∧ k ≤ 255 ∧ w.cell? ⟨g, off + j, none⟩ = some (.int .u8 k)) :
    Calls Tryd.prog 5 #[.slice a len cap, .int .u8 kind] w fun e w' => e = .returned (.bool true) ∧ Fr [] w w' := by
  have HB := Lib.hid (begun8_any w hE)
  have HEN := Lib.hid hE
  have HH := Lib.hid h
  clear hE h
  go_enter Tryd.func5, Tryd.ntmps5
  go_wp2_with fail
  refine HB.out.mono ?_
  rintro e w1 ⟨rfl, hf1⟩
  have HF1 := Lib.hid hf1
  clear hf1 HB
  by_cases hl : len > 100
  · have hl' : (100 : Int) < len := by omega
    go_wp2_with fail
    go_ret
    exact ⟨rfl, HF1.out⟩
  have hl' : (len : Int) ≤ 100 := by omega
  go_wp2_with fail
  refine (made_any w1 a len cap (by omega) (fun j hj => ?_)).mono ?_
  · obtain ⟨g, off, k, e1, e2, e3, e4⟩ := HH.out j hj
    exact ⟨g, off, k, e1, Nat.lt_of_lt_of_le e2 HF1.out.size, e3, (HF1.out.cell (p := ⟨g, off + j, none⟩) e2 (by simp)).trans e4⟩
  rintro e w2 ⟨rfl, hk2, hf2⟩
  have HK2 := Lib.hid hk2
  have HF2 := Lib.hid (HF1.out.trans hf2)
  have hk2l := hk2.lt'
  clear hk2 hf2 HH
  go_wp2_with fail
  refine (schema_any w2).mono ?_
  rintro e w3 ⟨rfl, hsch, hf3⟩
  have HS := Lib.hid hsch
  have HF3 := Lib.hid (HF2.out.trans hf3)
  have HK3 := Lib.hid (HK2.out.keep hf3 (by simp))
  have t0 := hsch.l.cell 0
  have t1 := hsch.l.cell 1
  have t2 := hsch.l.cell 2
  simp only [tabs, List.getElem?_cons_zero, List.getElem?_cons_succ] at t0 t1 t2
  have hlt := hsch.l.lt
  have hs3 := hf3.size
  clear hsch hf3 HK2
  have hfd := fun x y w => field_tabs8 x y w
  go_wp2_with fail
  clear hfd
  refine (cols_tab (i := 0) (n := w2.heap.size) (by decide) _ HS.out).mono ?_
  rintro e w4 ⟨vc, vk, rfl, hc, hk, hf4⟩
  have HC4 := Lib.hid hc
  have HKK4 := Lib.hid hk
  have HF4 := Lib.hid (HF3.out.trans hf4)
  have HK4 := Lib.hid (HK3.out.keep hf4 (by simp))
  have hs4 := hf4.size
  clear hc hk hf4 t0 t1 t2 HS HK3
  have HCC : Hid (Cols w4.heap.size w1.heap.size w4 vc vk (tits 0) (tkinds 0)) := Lib.hid (cols_of (Nat.le_refl _) (Px.FlatS.mono (fun g hg => ⟨hg.2, by omega⟩) HC4.out.live) (Px.FlatS.mono (fun g hg => ⟨hg.2, by omega⟩) HKK4.out.live) tits_ok (by rw [tits_len, tkinds_len]) (by rw [tits_len]; decide) tkinds_has)
  obtain ⟨kd, hkd⟩ : ∃ kd : Int, 1 + kind % 3 = kd := ⟨_, rfl⟩
  have hkd3 : (kd = 1 ∨ kd = 2) ∨ (kd = 3 ∧ 2 ≤ 6) := by omega
  have HKD := Lib.hid hkd3
  clear hkd3 HC4 HKK4
  go_wp2_with fail
  refine (expr_gen w1.heap.size vc vk (tits 0) (tkinds 0) 6 kd 0 (by decide) (by decide) (by decide) HKD.out w4 HK4.out HCC.out).mono ?_
  rintro e w5 ⟨⟨p, hsz, hx⟩, hk5, hf5⟩
  have HF5 : Hid (Fr [] w w5) := Lib.hid (HF4.out.trans' hf5 (fun i hi => by simp at hi; have := HF1.out.size; omega))
  have hs5 := hf5.size
  obtain ⟨po, pk, pi, pz, pt, pn, pa, pe, pc, rfl, hrep⟩ := Px.ex_cells hx
  have HREP := Lib.hid hrep
  have HSZ := Lib.hid hsz
  have HK5 := Lib.hid (hk5.alloc (.cells #[.int .i64 po, .int .i64 pk, .int .i64 pi, .string ⟨pz.toArray⟩, .string ⟨pt.toArray⟩, .string ⟨pn.toArray⟩, .slice pa pe pc] 41))
  have HF5A := Lib.hid (HF5.out.alloc (.cells #[.int .i64 po, .int .i64 pk, .int .i64 pi, .string ⟨pz.toArray⟩, .string ⟨pt.toArray⟩, .string ⟨pn.toArray⟩, .slice pa pe pc] 41))
  have HEB := Lib.hid (Blk.new w5 41 [.int .i64 po, .int .i64 pk, .int .i64 pi, .string ⟨pz.toArray⟩, .string ⟨pt.toArray⟩, .string ⟨pn.toArray⟩, .slice pa pe pc])
  clear hx hrep hsz hk5 hf5 HCC HK4
  go_wp2_with fail
  refine (stmt_any w1.heap.size _ HK5.out).mono ?_
  rintro e w6 ⟨⟨q, hok, hst⟩, hk6, hf6⟩
  have HF6 : Hid (Fr [] w w6) := Lib.hid (HF5A.out.trans' hf6 (fun i hi => by simp at hi; have := HF1.out.size; omega))
  have hs6 := hf6.size
  obtain ⟨knd, table, name, join, a3, a4, a5, a6, a8, a9, a10, a12, l3, l4, l5, l6, l8, l9, l10, l12, c3, c4, c5, c6, c8, c9, c10, c12, desc, rfl, hsr⟩ := Px.st_cells hst
  have HSR := Lib.hid hsr
  have HOK := Lib.hid hok
  have HEB6 := Lib.hid (HEB.out.keep hf6 (by simp; omega))
  have HR6 := Lib.hid (Rep.E.keep (((Fr.refl [some w1.heap.size] w5).alloc (.cells #[.int .i64 po, .int .i64 pk, .int .i64 pi, .string ⟨pz.toArray⟩, .string ⟨pt.toArray⟩, .string ⟨pn.toArray⟩, .slice pa pe pc] 41)).trans hf6) (fun g hg => by simp; omega) HREP.out)
  clear hst hsr hok hk6 hf6 HEB HREP HK5
  obtain ⟨s, hs⟩ : ∃ s, bt (qsT q) = s := ⟨_, rfl⟩
  obtain ⟨d, hd⟩ : ∃ d, bt (sh p) = d := ⟨_, rfl⟩
  have hqn : (qsT q).length ≤ 9000 := by have h1 := HOK.out.2; rw [Sh.qs_text] at h1; have h2 : bndS q ≤ 9000 := (by cases q <;> simp [bndS]); omega
  have hpn : (sh p).length ≤ 9000 := by have := HSZ.out.len; omega
  have HFw : Hid (Fr [] w (w6.alloc (.cells #[.int .i64 knd, .string ⟨table.toArray⟩, .string ⟨name.toArray⟩, .slice a3 l3 c3, .slice a4 l4 c4, .slice a5 l5 c5, .slice a6 l6 c6, .string ⟨join.toArray⟩, .slice a8 l8 c8, .slice a9 l9 c9, .slice a10 l10 c10, .bool desc, .slice a12 l12 c12] 64))) := Lib.hid (HF6.out.alloc _)
  have HPB := Lib.hid (Blk.alloc HEB6.out (.cells #[.int .i64 knd, .string ⟨table.toArray⟩, .string ⟨name.toArray⟩, .slice a3 l3 c3, .slice a4 l4 c4, .slice a5 l5 c5, .slice a6 l6 c6, .string ⟨join.toArray⟩, .slice a8 l8 c8, .slice a9 l9 c9, .slice a10 l10 c10, .bool desc, .slice a12 l12 c12] 64))
  have HQB := Lib.hid (Blk.new w6 64 [.int .i64 knd, .string ⟨table.toArray⟩, .string ⟨name.toArray⟩, .slice a3 l3 c3, .slice a4 l4 c4, .slice a5 l5 c5, .slice a6 l6 c6, .string ⟨join.toArray⟩, .slice a8 l8 c8, .slice a9 l9 c9, .slice a10 l10 c10, .bool desc, .slice a12 l12 c12])
  have HRw := Lib.hid (Rep.E.keep ((Fr.refl [] w6).alloc (.cells #[.int .i64 knd, .string ⟨table.toArray⟩, .string ⟨name.toArray⟩, .slice a3 l3 c3, .slice a4 l4 c4, .slice a5 l5 c5, .slice a6 l6 c6, .string ⟨join.toArray⟩, .slice a8 l8 c8, .slice a9 l9 c9, .slice a10 l10 c10, .bool desc, .slice a12 l12 c12] 64)) (by simp) HR6.out)
  have HSw := Lib.hid (Px.SR.keep ((Fr.refl [] w6).alloc (.cells #[.int .i64 knd, .string ⟨table.toArray⟩, .string ⟨name.toArray⟩, .slice a3 l3 c3, .slice a4 l4 c4, .slice a5 l5 c5, .slice a6 l6 c6, .string ⟨join.toArray⟩, .slice a8 l8 c8, .slice a9 l9 c9, .slice a10 l10 c10, .bool desc, .slice a12 l12 c12] 64)) (by simp) HSR.out)
  go_upto_region 9 with fail
  generalize (w6.alloc (.cells #[.int .i64 knd, .string ⟨table.toArray⟩, .string ⟨name.toArray⟩, .slice a3 l3 c3, .slice a4 l4 c4, .slice a5 l5 c5, .slice a6 l6 c6, .string ⟨join.toArray⟩, .slice a8 l8 c8, .slice a9 l9 c9, .slice a10 l10 c10, .bool desc, .slice a12 l12 c12] 64)) = w7 at HFw HPB HQB HRw HSw ⊢
  have H1 : Hid (∀ W, Fr [] w7 W → Calls Tryd.prog 22 #[.agg #[.int .i64 po, .int .i64 pk, .int .i64 pi, .string ⟨pz.toArray⟩, .string ⟨pt.toArray⟩, .string ⟨pn.toArray⟩, .slice pa pe pc]] W fun e w'' => e = .returned (.string d) ∧ Fr [] W w'') := Lib.hid (fun W hf => by have := Sw.shown_any p HSZ.out.ok (by omega) _ W _ (HEN.out.keep (HFw.out.trans hf)) (Rep.E.keep hf (by simp) HRw.out); rwa [hd] at this)
  have H2 : Hid (∀ W, Fr [] w7 W → Calls Tryd.prog 23 #[.agg #[.int .i64 po, .int .i64 pk, .int .i64 pi, .string ⟨pz.toArray⟩, .string ⟨pt.toArray⟩, .string ⟨pn.toArray⟩, .slice pa pe pc]] W fun e w'' => e = .returned (.string d) ∧ Fr [] W w'') := Lib.hid (fun W hf => by have := Sh.shown_any p HSZ.out.ok (by omega) _ W _ (Rep.E.keep hf (by simp) HRw.out); rwa [hd] at this)
  have H3 : Hid (∀ W, Fr [] w7 W → Calls Tryd.prog 24 #[.agg #[.int .i64 knd, .string ⟨table.toArray⟩, .string ⟨name.toArray⟩, .slice a3 l3 c3, .slice a4 l4 c4, .slice a5 l5 c5, .slice a6 l6 c6, .string ⟨join.toArray⟩, .slice a8 l8 c8, .slice a9 l9 c9, .slice a10 l10 c10, .bool desc, .slice a12 l12 c12]] W fun e w'' => e = .returned (.string s) ∧ Fr [] W w'') := Lib.hid (fun W hf => by have := Sw.show_any q 64 HOK.out.1 (by omega) _ W _ (HEN.out.keep (HFw.out.trans hf)) (Px.SR.keep hf (by simp) HSw.out); rwa [hs] at this)
  have H4 : Hid (∀ W, Fr [] w7 W → Calls Tryd.prog 25 #[.agg #[.int .i64 knd, .string ⟨table.toArray⟩, .string ⟨name.toArray⟩, .slice a3 l3 c3, .slice a4 l4 c4, .slice a5 l5 c5, .slice a6 l6 c6, .string ⟨join.toArray⟩, .slice a8 l8 c8, .slice a9 l9 c9, .slice a10 l10 c10, .bool desc, .slice a12 l12 c12]] W fun e w'' => e = .returned (.string s) ∧ Fr [] W w'') := Lib.hid (fun W hf => by have := Sh.show_any q 64 HOK.out.1 (by omega) _ W _ (Px.SR.keep hf (by simp) HSw.out); rwa [hs] at this)
  clear hs hd hqn hpn
  have HKEY : Hid (∀ W, Fr [] w7 W → W.cell? ⟨w5.heap.size, 0, none⟩ = some (.int .i64 po) ∧ W.cell? ⟨w5.heap.size, 1, none⟩ = some (.int .i64 pk) ∧ W.cell? ⟨w5.heap.size, 2, none⟩ = some (.int .i64 pi) ∧ W.cell? ⟨w5.heap.size, 3, none⟩ = some (.string ⟨pz.toArray⟩) ∧ W.cell? ⟨w5.heap.size, 4, none⟩ = some (.string ⟨pt.toArray⟩) ∧ W.cell? ⟨w5.heap.size, 5, none⟩ = some (.string ⟨pn.toArray⟩) ∧ W.cell? ⟨w5.heap.size, 6, none⟩ = some (.slice pa pe pc) ∧ W.cell? ⟨w6.heap.size, 0, none⟩ = some (.int .i64 knd) ∧ W.cell? ⟨w6.heap.size, 1, none⟩ = some (.string ⟨table.toArray⟩) ∧ W.cell? ⟨w6.heap.size, 2, none⟩ = some (.string ⟨name.toArray⟩) ∧ W.cell? ⟨w6.heap.size, 3, none⟩ = some (.slice a3 l3 c3) ∧ W.cell? ⟨w6.heap.size, 4, none⟩ = some (.slice a4 l4 c4) ∧ W.cell? ⟨w6.heap.size, 5, none⟩ = some (.slice a5 l5 c5) ∧ W.cell? ⟨w6.heap.size, 6, none⟩ = some (.slice a6 l6 c6) ∧ W.cell? ⟨w6.heap.size, 7, none⟩ = some (.string ⟨join.toArray⟩) ∧ W.cell? ⟨w6.heap.size, 8, none⟩ = some (.slice a8 l8 c8) ∧ W.cell? ⟨w6.heap.size, 9, none⟩ = some (.slice a9 l9 c9) ∧ W.cell? ⟨w6.heap.size, 10, none⟩ = some (.slice a10 l10 c10) ∧ W.cell? ⟨w6.heap.size, 11, none⟩ = some (.bool desc) ∧ W.cell? ⟨w6.heap.size, 12, none⟩ = some (.slice a12 l12 c12)) := Lib.hid fun W hW => ⟨(HPB.out.keep hW (by simp)).cell 0, (HPB.out.keep hW (by simp)).cell 1, (HPB.out.keep hW (by simp)).cell 2, (HPB.out.keep hW (by simp)).cell 3, (HPB.out.keep hW (by simp)).cell 4, (HPB.out.keep hW (by simp)).cell 5, (HPB.out.keep hW (by simp)).cell 6, (HQB.out.keep hW (by simp)).cell 0, (HQB.out.keep hW (by simp)).cell 1, (HQB.out.keep hW (by simp)).cell 2, (HQB.out.keep hW (by simp)).cell 3, (HQB.out.keep hW (by simp)).cell 4, (HQB.out.keep hW (by simp)).cell 5, (HQB.out.keep hW (by simp)).cell 6, (HQB.out.keep hW (by simp)).cell 7, (HQB.out.keep hW (by simp)).cell 8, (HQB.out.keep hW (by simp)).cell 9, (HQB.out.keep hW (by simp)).cell 10, (HQB.out.keep hW (by simp)).cell 11, (HQB.out.keep hW (by simp)).cell 12⟩
  have HFa : Hid (Fr [] w7 w7) := Lib.hid (Fr.refl [] w7)
  go_region_held3 (fun W => W.cell? ⟨w5.heap.size, 0, none⟩ = some (.int .i64 po) ∧ W.cell? ⟨w5.heap.size, 1, none⟩ = some (.int .i64 pk) ∧ W.cell? ⟨w5.heap.size, 2, none⟩ = some (.int .i64 pi) ∧ W.cell? ⟨w5.heap.size, 3, none⟩ = some (.string ⟨pz.toArray⟩) ∧ W.cell? ⟨w5.heap.size, 4, none⟩ = some (.string ⟨pt.toArray⟩) ∧ W.cell? ⟨w5.heap.size, 5, none⟩ = some (.string ⟨pn.toArray⟩) ∧ W.cell? ⟨w5.heap.size, 6, none⟩ = some (.slice pa pe pc) ∧ W.cell? ⟨w6.heap.size, 0, none⟩ = some (.int .i64 knd) ∧ W.cell? ⟨w6.heap.size, 1, none⟩ = some (.string ⟨table.toArray⟩) ∧ W.cell? ⟨w6.heap.size, 2, none⟩ = some (.string ⟨name.toArray⟩) ∧ W.cell? ⟨w6.heap.size, 3, none⟩ = some (.slice a3 l3 c3) ∧ W.cell? ⟨w6.heap.size, 4, none⟩ = some (.slice a4 l4 c4) ∧ W.cell? ⟨w6.heap.size, 5, none⟩ = some (.slice a5 l5 c5) ∧ W.cell? ⟨w6.heap.size, 6, none⟩ = some (.slice a6 l6 c6) ∧ W.cell? ⟨w6.heap.size, 7, none⟩ = some (.string ⟨join.toArray⟩) ∧ W.cell? ⟨w6.heap.size, 8, none⟩ = some (.slice a8 l8 c8) ∧ W.cell? ⟨w6.heap.size, 9, none⟩ = some (.slice a9 l9 c9) ∧ W.cell? ⟨w6.heap.size, 10, none⟩ = some (.slice a10 l10 c10) ∧ W.cell? ⟨w6.heap.size, 11, none⟩ = some (.bool desc) ∧ W.cell? ⟨w6.heap.size, 12, none⟩ = some (.slice a12 l12 c12))
    ((refine HKEY.out _ ?_; repeat (first | with_reducible exact HFa.out | with_reducible refine Fr.drew ?_ | with_reducible refine Fr.alloc ?_ _)))
    (first
      | (go_at_call 22
         with_reducible refine Calls.mono (H1.out _ ?hf0) ?_
         case hf0 => (repeat (first | with_reducible exact HFa.out | with_reducible refine Fr.drew ?_ | with_reducible refine Fr.alloc ?_ _))
         rintro e wz ⟨rfl, hf⟩
         replace HFa : Hid (Fr [] w7 wz) := Lib.hid (Fr.trans (b := _) (by repeat (first | with_reducible exact HFa.out | with_reducible refine Fr.drew ?_ | with_reducible refine Fr.alloc ?_ _)) hf)
         clear hf)
      | (go_at_call 23
         with_reducible refine Calls.mono (H2.out _ ?hf0) ?_
         case hf0 => (repeat (first | with_reducible exact HFa.out | with_reducible refine Fr.drew ?_ | with_reducible refine Fr.alloc ?_ _))
         rintro e wz ⟨rfl, hf⟩
         replace HFa : Hid (Fr [] w7 wz) := Lib.hid (Fr.trans (b := _) (by repeat (first | with_reducible exact HFa.out | with_reducible refine Fr.drew ?_ | with_reducible refine Fr.alloc ?_ _)) hf)
         clear hf)
      | (go_at_call 24
         with_reducible refine Calls.mono (H3.out _ ?hf0) ?_
         case hf0 => (repeat (first | with_reducible exact HFa.out | with_reducible refine Fr.drew ?_ | with_reducible refine Fr.alloc ?_ _))
         rintro e wz ⟨rfl, hf⟩
         replace HFa : Hid (Fr [] w7 wz) := Lib.hid (Fr.trans (b := _) (by repeat (first | with_reducible exact HFa.out | with_reducible refine Fr.drew ?_ | with_reducible refine Fr.alloc ?_ _)) hf)
         clear hf)
      | (go_at_call 25
         with_reducible refine Calls.mono (H4.out _ ?hf0) ?_
         case hf0 => (repeat (first | with_reducible exact HFa.out | with_reducible refine Fr.drew ?_ | with_reducible refine Fr.alloc ?_ _))
         rintro e wz ⟨rfl, hf⟩
         replace HFa : Hid (Fr [] w7 wz) := Lib.hid (Fr.trans (b := _) (by repeat (first | with_reducible exact HFa.out | with_reducible refine Fr.drew ?_ | with_reducible refine Fr.alloc ?_ _)) hf)
         clear hf))
  all_goals
    go_wp2_with fail
    go_ret
    exact ⟨rfl, HFw.out.trans (by repeat (first | with_reducible exact HFa.out | with_reducible refine Fr.drew ?_ | with_reducible refine Fr.alloc ?_ _))⟩
end Gn
end Go.Proofs.YtmdnhinpaflamaaDoor
