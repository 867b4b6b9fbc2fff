/- plan: the law PlanPasses. -/
import Derived.Test.YtmdnhinpaflamaaDoorPnX
import Derived.Test.YtmdnhinpaflamaaDoorRg
namespace Go.Proofs.YtmdnhinpaflamaaDoor
open Go.RowKit
set_option linter.unusedVariables false
set_option linter.unusedSimpArgs false
namespace Pn
open PM (Ex B Col It)
open CM (Pr)
open Gn (PK sh)
open Px (ColS colC put7 frPut7 blkPut7)
open Sh (bt bt_cat bt_size)
/-- what every operation of the where's making keeps -/
structure Rr (B n : Nat) (w w' : World) : Prop where
  sz : w.heap.size ≤ w'.heap.size
  blk : ∀ b E cs, E ≠ 77 → Blk w b E cs → Blk w' b E cs
  pk : ∀ P, B ≤ P → PK (P + 1) n w P → PK (P + 1) n w' P
theorem Rr.fr {B n : Nat} {w w' : World} (h : Fr [] w w') : Rr B n w w' := ⟨h.size, fun b E cs _ hb => hb.keep h (by simp), fun P _ hp => hp.keep h (by simp)⟩
theorem Rr.refl {B n : Nat} (w : World) : Rr B n w w := Rr.fr (Fr.refl _ _)
theorem Rr.read {B n : Nat} {w w' : World} {Q : Nat} (h : PK (Q + 1) n w Q) (h' : PK (Q + 1) n w' Q) (hf : Fr [some Q] w w') : Rr B n w w' := by
  refine ⟨hf.size, fun b E cs hE hb => hb.keep hf ?_, fun P _ hp => ?_⟩
  · simp only [List.mem_singleton, Option.some.injEq]
    rintro rfl
    obtain ⟨_, _, a, len, cap, m, _, _, h3, _⟩ := h
    unfold Blk at h3 hb
    rw [hb] at h3
    simp only [Option.some.injEq, Obj.cells.injEq] at h3
    exact hE (by simpa using h3.2)
  · by_cases hPQ : P = Q
    · subst hPQ; exact h'
    · exact pk_beside hp h hPQ hf
theorem colN_get {r : Nat} (hr : r < 3) : ([.string ⟨#[107]⟩, .string ⟨#[110]⟩, .string ⟨#[118]⟩] : List Value)[r]? = some (.string ⟨(colN r).toArray⟩) := by
  rcases (by omega : r = 0 ∨ r = 1 ∨ r = 2) with rfl | rfl | rfl <;> rfl
theorem es_of {A : Nat → Prop} {w : World} {l : List Ex} {cs : List Value} {b : Nat} (hL : Rep.L 41 A w l cs) (hb : Blk w b 41 cs) (hA : A b) (hm : l.length ≤ maxLen) :
    Rep.Es 41 A w l (.slice (some ⟨b, 0, none⟩) l.length l.length) := by
  have hlen := hL.length
  refine .mk l _ cs hL ⟨hlen, .inr ⟨b, 0, l.length, cs, rfl, hb, Nat.le_refl _, hm, by omega, ?_⟩⟩ (fun g hg => ?_)
  · rw [List.drop_zero, List.take_of_length_le (by omega)]
  · simp only [Value.ownBlock, Option.some.injEq] at hg
    subst hg
    exact hA
theorem row_slice {w : World} {E : TypeId} {size n : Nat} {v : Value} {xs : List Value} (h : Row w E size v n xs) : ∃ a l c, v = .slice a l c := by
  rcases h.2 with ⟨rfl, _⟩ | ⟨g, off, cap, cur, rfl, _⟩
  · exact ⟨_, _, _, rfl⟩
  · exact ⟨_, _, _, rfl⟩
/-- the where, made of the first one and twice the other -/
theorem and_rep {A : Nat → Prop} {w : World} {r b n1 n2 : Nat} {k i : Int} {t : B} {y : Ex} {Y : List Value} (hy : Rep.E 41 A w y Y)
    (hb : Blk w b 41 [.int .i64 2, .int .i64 0, .int .i64 0, .string ⟨#[]⟩, .string ⟨#[]⟩, .string ⟨(colN r).toArray⟩, .slice none 0 0, .int .i64 1, .int .i64 k, .int .i64 i, .string ⟨t.toArray⟩, .string ⟨#[]⟩, .string ⟨#[]⟩, .slice none 0 0]) (h1 : Blk w n1 41 ([.int .i64 8, .int .i64 0, .int .i64 0, .string ⟨#[]⟩, .string ⟨#[]⟩, .string ⟨#[]⟩, .slice (some ⟨b, 0, none⟩) 2 2] ++ Y)) (h2 : Blk w n2 41 ([.int .i64 14, .int .i64 0, .int .i64 0, .string ⟨#[]⟩, .string ⟨#[]⟩, .string ⟨#[]⟩, .slice (some ⟨n1, 0, none⟩) 2 2] ++ Y)) (a0 : A b) (a1 : A n1) (a2 : A n2) :
    Rep.E 41 A w (exA (exA (exF r k i t) y) y) [.int .i64 14, .int .i64 0, .int .i64 0, .string ⟨#[]⟩, .string ⟨#[]⟩, .string ⟨#[]⟩, .slice (some ⟨n2, 0, none⟩) 2 2] := by
  have hm : (2 : Nat) ≤ maxLen := by simp [maxLen]
  have e0 : Rep.L 41 A w [Ex.mk 2 0 0 [] [] (colN r) [], Ex.mk 1 k i t [] [] []] ([.int .i64 2, .int .i64 0, .int .i64 0, .string ⟨#[]⟩, .string ⟨#[]⟩, .string ⟨(colN r).toArray⟩, .slice none 0 0] ++ ([.int .i64 1, .int .i64 k, .int .i64 i, .string ⟨t.toArray⟩, .string ⟨#[]⟩, .string ⟨#[]⟩, .slice none 0 0] ++ [])) := .cons _ _ _ _ (.mk 2 0 0 [] [] (colN r) [] _ Rep.Es.nil) (.cons _ _ _ _ (.mk 1 k i t [] [] [] _ Rep.Es.nil) .nil)
  have e1 : Rep.E 41 A w (exF r k i t) [.int .i64 8, .int .i64 0, .int .i64 0, .string ⟨#[]⟩, .string ⟨#[]⟩, .string ⟨#[]⟩, .slice (some ⟨b, 0, none⟩) 2 2] := .mk 8 0 0 [] [] [] _ _ (es_of e0 hb a0 hm)
  have e2 : Rep.L 41 A w [exF r k i t, y] ([.int .i64 8, .int .i64 0, .int .i64 0, .string ⟨#[]⟩, .string ⟨#[]⟩, .string ⟨#[]⟩, .slice (some ⟨b, 0, none⟩) 2 2] ++ (Y ++ [])) := .cons _ _ _ _ e1 (.cons _ _ _ _ hy .nil)
  rw [List.append_nil] at e2
  have e3 : Rep.E 41 A w (exA (exF r k i t) y) [.int .i64 14, .int .i64 0, .int .i64 0, .string ⟨#[]⟩, .string ⟨#[]⟩, .string ⟨#[]⟩, .slice (some ⟨n1, 0, none⟩) 2 2] := .mk 14 0 0 [] [] [] _ _ (es_of e2 h1 a1 hm)
  have e4 : Rep.L 41 A w [exA (exF r k i t) y, y] ([.int .i64 14, .int .i64 0, .int .i64 0, .string ⟨#[]⟩, .string ⟨#[]⟩, .string ⟨#[]⟩, .slice (some ⟨n1, 0, none⟩) 2 2] ++ (Y ++ [])) := .cons _ _ _ _ e3 (.cons _ _ _ _ hy .nil)
  rw [List.append_nil] at e4
  exact .mk 14 0 0 [] [] [] _ _ (es_of e4 h2 a2 hm)
/-- what Eval answers of it -/
theorem eva_where (A1 A2 : Nat → Prop) (vc vv : Value) (l : List It) (vals : List (Int × Int × B)) (hvl : vals.length ≤ l.length) (hl : l.length ≤ 20) (hfine : ∀ v ∈ vals, Fine v.2.1 v.2.2) (w : World) (hc : Px.ItS A1 w vc l) (hv : ValS A2 w vv vals)
    (r : Nat) (k i : Int) (t : B) (hit : Fine i t) (p : Pr) (hp : p.ok = true) :
    EvA vc vv w (exA (exA (exF r k i t) p.ex) p.ex) (BinP 14 (BinP 14 (BinP 8 (ColP l vals [] (colN r)) (LitP k i t)) AnyP) AnyP) := by
  have hy : EvA vc vv w p.ex AnyP := eval_any A1 A2 vc vv l vals hvl hl hfine w hc hv p hp
  have hcol : EvA vc vv w (.mk 2 0 0 [] [] (colN r) []) (ColP l vals [] (colN r)) := fun A W cs hf hr => by
    obtain ⟨a, n, c, rfl, -⟩ := e_inv hr
    exact ev_col _ _ vc vv l vals hvl hl 0 0 [] [] (colN r) a n c W (Px.FlatS.keep hf (by simp) hc) (Px.FlatS.keep hf (by simp) hv)
  have hlit : EvA vc vv w (.mk 1 k i t [] [] []) (LitP k i t) := fun A W cs hf hr => by
    obtain ⟨a, n, c, rfl, -⟩ := e_inv hr
    exact ev_lit vc vv k i t [] [] a n c W
  have fcol : ∀ k' i' t' x, ColP l vals [] (colN r) k' i' t' x → Fine i' t' := by
    rintro k' i' t' x ⟨h1, h2⟩
    by_cases h0 : (atF ((l.take vals.length).map (mt [] (colN r))) 0 (-1)).2 = 0
    · obtain ⟨_, hk, he⟩ := h1 h0
      have := hfine _ (List.getElem_mem hk)
      rw [← he] at this
      exact this
    · obtain ⟨_, rfl, rfl⟩ := h2 h0
      exact ⟨by decide, Nat.zero_le _⟩
  have flit : ∀ k' i' t' x, LitP k i t k' i' t' x → Fine i' t' := by
    rintro k' i' t' x ⟨rfl, rfl, rfl, rfl⟩
    exact hit
  have h8 : EvA vc vv w (exF r k i t) (BinP 8 (ColP l vals [] (colN r)) (LitP k i t)) := fun A W cs hf hr => by
    obtain ⟨a, n, c, rfl, hes⟩ := e_inv hr
    exact ev_bin vc vv _ _ fcol flit 8 0 0 [] [] [] _ _ a n c (by decide) (by decide) A W hes (hcol.keep hf) (hlit.keep hf)
  have h9 : EvA vc vv w (exA (exF r k i t) p.ex) (BinP 14 (BinP 8 (ColP l vals [] (colN r)) (LitP k i t)) AnyP) := fun A W cs hf hr => by
    obtain ⟨a, n, c, rfl, hes⟩ := e_inv hr
    exact ev_and vc vv _ AnyP (fun _ _ _ _ h => h.1) (fun _ _ _ _ h => h) 0 0 [] [] [] _ _ a n c A W hes (h8.keep hf) (hy.keep hf)
  exact fun A W cs hf hr => by
    obtain ⟨a, n, c, rfl, hes⟩ := e_inv hr
    exact ev_and vc vv _ AnyP (fun _ _ _ _ h => h.1) (fun _ _ _ _ h => h) 0 0 [] [] [] _ _ a n c A W hes (h9.keep hf) (hy.keep hf)
set_option maxRecDepth 4000000 in
set_option maxHeartbeats 8000000 in
theorem planpasses_law (a : Option Addr) (len cap : Nat) (va : Option Addr) (vn vc0 : Nat) (wh : Int) (hk0 : 0 ≤ wh) (hk255 : wh ≤ 255) (w : World) (hE : Sw.Env w) (hlen : len ≤ maxLen) (hvn : vn ≤ maxLen)
    (h : ∀ j, j < len → ∃ (g off k : Nat), a = some ⟨g, off, none⟩ ∧ g < w.heap.size ∧ k ≤ 255 ∧ w.cell? ⟨g, off + j, none⟩ = some (.int .u8 k))
    (hv : ∀ j, j < vn → ∃ (g off k : Nat), va = some ⟨g, off, none⟩ ∧ g < w.heap.size ∧ k ≤ 255 ∧ w.cell? ⟨g, off + j, none⟩ = some (.int .u8 k)) :
    Calls Tryd.prog 4 #[.slice a len cap, .slice va vn vc0, .int .u8 wh] w fun e w' => e = .returned (.bool true) ∧ Fr [] w w' := by
  have HB := Lib.hid (begun21_any w hE)
  have HEN := Lib.hid hE
  have HH := Lib.hid h
  have HV := Lib.hid hv
  clear hE h hv
  obtain ⟨r, hwr⟩ : ∃ r : Nat, wh % 3 = (r : Int) := ⟨(wh % 3).toNat, by omega⟩
  have hr3 : r < 3 := by omega
  go_enter Tryd.func4, Tryd.ntmps4
  go_wp2_with fail
  refine HB.out.mono ?_
  rintro e w1 ⟨rfl, hf1⟩
  have HF1 := Lib.hid hf1
  clear hf1 HB
  by_cases hl : len > 60
  · have hl' : (60 : Int) < len := by omega
    go_wp2_with fail
    go_ret
    exact ⟨rfl, HF1.out⟩
  have hl' : (len : Int) ≤ 60 := by omega
  by_cases hvl : vn > 20
  · have hvl' : (20 : Int) < vn := by omega
    go_wp2_with fail
    go_ret
    exact ⟨rfl, HF1.out⟩
  have hvl' : (vn : Int) ≤ 20 := by omega
  go_wp2_with fail
  refine (Gn.schema_any w1).mono ?_
  rintro e w2 ⟨rfl, hsch, hf2⟩
  obtain ⟨ta, ia, tc, ic, hv, htr⟩ := tab_form (i := 0) (by decide) hsch
  obtain ⟨t0, t1, t2⟩ := tab_cells (i := 0) (by decide) hsch hv
  simp only [Nat.zero_mul, Nat.zero_add] at t0 t1 t2
  have HCT : Hid (∀ W, Fr [] w2 W → Calls Tryd.prog 9 #[.agg (Gn.tabV w1.heap.size 0).toArray] W fun e w' => ∃ vc vk, e = .returned (.tuple #[vc, vk]) ∧ Px.ItS (fun g => W.heap.size ≤ g) w' vc (Gn.tits 0) ∧ Gn.IntS (fun g => W.heap.size ≤ g) w' vk (Gn.tkinds 0) ∧ Fr [] W w') := Lib.hid (fun W hW => Gn.cols_tab (n := w1.heap.size) (i := 0) (by decide) W (hsch.keep hW (by simp)))
  rw [hv] at HCT
  have hn3 := tcol_len 0
  have hx1 := tix_len 0
  have ht1 := tname_len 0
  have hlt := hsch.l.lt
  have HTR := Lib.hid htr
  have HF2 := Lib.hid (HF1.out.trans hf2)
  have hs2 := hf2.size
  clear hsch hf2 hv htr
  generalize htn : Gn.tname 0 = tn at HTR HCT t0 ht1
  generalize hl0 : tcol 0 = l at HTR HCT t1 hn3
  generalize hix : tix 0 = ix at HTR HCT t2 hx1
  have HTI := Lib.hid (And.intro hn3 (And.intro hx1 ht1))
  have HTN := Lib.hid (And.intro htn (And.intro hl0 hix))
  clear hn3 hx1 ht1 htn hl0 hix
  have hfd := fun x y w => field_tabs21 x y w
  go_wp2_with fail
  clear hfd t0 t1 t2
  refine (HCT.out _ ((Fr.refl [] w2).alloc _)).mono ?_
  rintro e w3 ⟨vc, vk, rfl, hc, hk, hf3⟩
  have hfa := ((Fr.refl [] w2).alloc (.cells #[.string ⟨tn.toArray⟩, .slice ta l.length tc, .slice ia ix.length ic] 27)).trans hf3
  have HTB := Lib.hid ((Blk.new w2 27 [.string ⟨tn.toArray⟩, .slice ta l.length tc, .slice ia ix.length ic]).keep hf3 (by simp))
  have HTR3 := Lib.hid (HTR.out.keep hfa (by simp))
  have HF3 := Lib.hid (HF2.out.trans hfa)
  have hs3 := hfa.size
  have HC3 := Lib.hid hc.live
  have HK3 := Lib.hid hk.live
  have htbl := HTB.out.lt
  clear hc hk hf3 hfa HCT HTR
  go_wp2_with fail
  refine (Gn.made_any w3 a len cap (by omega) (fun j hj => ?_)).mono ?_
  · obtain ⟨g, off, k, e1, e2, e3, e4⟩ := HH.out j hj
    exact ⟨g, off, k, e1, Nat.lt_of_lt_of_le e2 HF3.out.size, e3, (HF3.out.cell (p := ⟨g, off + j, none⟩) e2 (by simp)).trans e4⟩
  rintro e w4 ⟨rfl, hk4, hf4⟩
  have hpk := hk4.lt'
  have HCC : Hid (Gn.Cols w3.heap.size w3.heap.size w4 vc vk (Gn.tits 0) (Gn.tkinds 0)) := Lib.hid ((Gn.cols_of (C := w3.heap.size) (P := w3.heap.size) (Nat.le_refl _) (Px.FlatS.mono (fun g hg => ⟨hg.2, by omega⟩) HC3.out) (Px.FlatS.mono (fun g hg => ⟨hg.2, by omega⟩) HK3.out) Gn.tits_ok (by rw [Gn.tits_len, Gn.tkinds_len]) (by rw [Gn.tits_len]; decide) Gn.tkinds_has).keep hf4 (by simp))
  have HK4 := Lib.hid hk4
  have HTB4 := Lib.hid (HTB.out.keep hf4 (by simp))
  have HTR4 := Lib.hid (HTR3.out.keep hf4 (by simp))
  have HF4 := Lib.hid (HF3.out.trans hf4)
  have hs4 := hf4.size
  have HC4 := Lib.hid (Px.FlatS.keep hf4 (by simp) HC3.out)
  clear hk4 hf4 HTB HTR3 HC3 HK3 HH
  go_wp2_with fail
  refine (Gn.expr_gen w3.heap.size vc vk (Gn.tits 0) (Gn.tkinds 0) 6 3 0 (by decide) (by decide) (by decide) (.inr ⟨rfl, by decide⟩) w4 HK4.out HCC.out).mono ?_
  rintro e w5 ⟨⟨p, hsz, hx⟩, hk5, hf5⟩
  obtain ⟨po, pk, pi, pz, pt, pn, pa, pe, pc, rfl, hrep⟩ := Px.ex_cells hx
  have HSZ := Lib.hid hsz.ok
  have HF5 : Hid (Fr [] w w5) := Lib.hid (HF4.out.trans' hf5 (fun i hi => by simp at hi; have := HF3.out.size; omega))
  have HTB5 := Lib.hid (HTB4.out.keep hf5 (by simp; omega))
  have HTR5 := Lib.hid (HTR4.out.keep hf5 (fun g hg => by simp; omega))
  have HC5 := Lib.hid (Px.FlatS.keep hf5 (fun g hg => by simp; omega) HC4.out)
  have hs5 := hf5.size
  have HREP := Lib.hid hrep
  clear hx hk5 hf5 hsz hrep HK4 HCC HTB4 HTR4 HC4
  go_upto_region 8 with fail
  have hfb : Fr [] w5 (w5.alloc (.cells #[.int .i64 po, .int .i64 pk, .int .i64 pi, .string ⟨pz.toArray⟩, .string ⟨pt.toArray⟩, .string ⟨pn.toArray⟩, .slice pa pe pc] 41)) := (Fr.refl [] w5).alloc _
  have HEB := Lib.hid (Blk.new w5 41 [.int .i64 po, .int .i64 pk, .int .i64 pi, .string ⟨pz.toArray⟩, .string ⟨pt.toArray⟩, .string ⟨pn.toArray⟩, .slice pa pe pc])
  have HTB6 := Lib.hid (HTB5.out.keep hfb (by simp))
  have HTR6 := Lib.hid (HTR5.out.keep hfb (by simp))
  have HC6 := Lib.hid (Px.FlatS.keep hfb (by simp) HC5.out)
  have HREP6 := Lib.hid (Rep.E.keep hfb (by simp) HREP.out)
  have HF6 := Lib.hid (HF5.out.trans hfb)
  have hs6 : w5.heap.size < (w5.alloc (.cells #[.int .i64 po, .int .i64 pk, .int .i64 pi, .string ⟨pz.toArray⟩, .string ⟨pt.toArray⟩, .string ⟨pn.toArray⟩, .slice pa pe pc] 41)).heap.size := by simp
  clear hfb HTB5 HTR5 HC5 HREP HF5
  generalize (w5.alloc (.cells #[.int .i64 po, .int .i64 pk, .int .i64 pi, .string ⟨pz.toArray⟩, .string ⟨pt.toArray⟩, .string ⟨pn.toArray⟩, .slice pa pe pc] 41)) = w6 at HEB HTB6 HTR6 HC6 HREP6 HF6 hs6 ⊢
  have hmod : Int.tmod wh 3 = (r : Int) := by rw [Int.tmod_eq_emod_of_nonneg hk0]; exact hwr
  have hdiv : Int.tdiv (r : Int) 2 = ((r / 2 : Nat) : Int) := by rw [Int.tdiv_eq_ediv_of_nonneg (by omega)]; omega
  have hadd : IntKind.i64.wrap (1 + (r : Int) / 2) = 1 + (r : Int) / 2 := IntWalk.i64_in _ (by omega)
  have hw1 : IntKind.i64.wrap ((r : Int) / 2) = (r : Int) / 2 := IntWalk.i64_in _ (by omega)
  have hwrr : IntKind.i64.wrap (r : Int) = (r : Int) := IntWalk.i64_in _ (by omega)
  refine Rg.wp_region [[], [], [1], [0, 2], [3], [4], [], [6], [], [8], [9], [10], [11], [7, 12], [13], [5, 14], [15], [], [16, 17]] [some 41, some 42, some 43, some 44, some 45, some 46, some 47, some 48, some 49, some 50, some 51, some 52, some 53, some 54, some 55, some 56, some 57, some 11, none] 18 (fun j v wz => match j with | 0 => ∃ b : Nat, v = .slice (some ⟨b, 0, none⟩) 3 3 ∧ w6.heap.size ≤ b ∧ Blk wz b 9 [.string ⟨#[107]⟩, .string ⟨#[110]⟩, .string ⟨#[118]⟩] | 1 => v = .int .u8 wh | 2 => v = .int .u8 (r : Int) | 3 => ∃ b : Nat, v = .pointer (some ⟨b, r, none⟩) ∧ w6.heap.size ≤ b ∧ Blk wz b 9 [.string ⟨#[107]⟩, .string ⟨#[110]⟩, .string ⟨#[118]⟩] | 4 => v = .string ⟨(colN r).toArray⟩ | 5 => v = .agg #[.int .i64 2, .int .i64 0, .int .i64 0, .string ⟨#[]⟩, .string ⟨#[]⟩, .string ⟨(colN r).toArray⟩, .slice none 0 0] | 6 => v = .slice va vn vc0 | 7 => ∃ P : Nat, v = .pointer (some ⟨P, 0, none⟩) ∧ w6.heap.size ≤ P ∧ PK (P + 1) vn wz P | 8 => v = .int .u8 wh | 9 => v = .int .u8 (r : Int) | 10 => v = .int .i64 (r : Int) | 11 => v = .int .i64 ((r / 2 : Nat) : Int) | 12 => v = .int .i64 (1 + ((r / 2 : Nat) : Int)) | 13 => ∃ (k i : Int) (t : B), v = .agg #[.int .i64 k, .int .i64 i, .string ⟨t.toArray⟩] ∧ Gn.Lit (1 + ((r / 2 : Nat) : Int)) k i t | 14 => ∃ (k i : Int) (t : B), v = .agg #[.int .i64 1, .int .i64 k, .int .i64 i, .string ⟨t.toArray⟩, .string ⟨#[]⟩, .string ⟨#[]⟩, .slice none 0 0] ∧ Gn.Lit (1 + ((r / 2 : Nat) : Int)) k i t | 15 => ∃ (k i : Int) (t : B) (b : Nat), v = .slice (some ⟨b, 0, none⟩) 2 2 ∧ Gn.Lit (1 + ((r / 2 : Nat) : Int)) k i t ∧ w6.heap.size ≤ b ∧ Blk wz b 41 [.int .i64 2, .int .i64 0, .int .i64 0, .string ⟨#[]⟩, .string ⟨#[]⟩, .string ⟨(colN r).toArray⟩, .slice none 0 0, .int .i64 1, .int .i64 k, .int .i64 i, .string ⟨t.toArray⟩, .string ⟨#[]⟩, .string ⟨#[]⟩, .slice none 0 0] | 16 => ∃ (k i : Int) (t : B) (b : Nat), v = .agg #[.int .i64 8, .int .i64 0, .int .i64 0, .string ⟨#[]⟩, .string ⟨#[]⟩, .string ⟨#[]⟩, .slice (some ⟨b, 0, none⟩) 2 2] ∧ Gn.Lit (1 + ((r / 2 : Nat) : Int)) k i t ∧ w6.heap.size ≤ b ∧ Blk wz b 41 [.int .i64 2, .int .i64 0, .int .i64 0, .string ⟨#[]⟩, .string ⟨#[]⟩, .string ⟨(colN r).toArray⟩, .slice none 0 0, .int .i64 1, .int .i64 k, .int .i64 i, .string ⟨t.toArray⟩, .string ⟨#[]⟩, .string ⟨#[]⟩, .slice none 0 0] | 17 => ∃ b : Nat, v = .pointer (some ⟨b, 0, none⟩) ∧ w6.heap.size ≤ b ∧ Blk wz b 41 [.int .i64 0, .int .i64 0, .int .i64 0, .string ⟨#[]⟩, .string ⟨#[]⟩, .string ⟨#[]⟩, .slice none 0 0] | _ => True) (fun wz => Fr [] w6 wz) (fun wz wz' => Rr w6.heap.size vn wz wz') (by kernel_rfl) (by kernel_rfl) (by kernel_rfl) (by kernel_rfl) ((Fr.refl [] w6).drew) ?_ ?_
  · intro j hj v wz wz' hR
    match j, hj with
    | 0, _ =>
      rintro ⟨b, e, hb, h⟩
      exact ⟨b, e, hb, hR.blk _ _ _ (by decide) h⟩
    | 1, _ => exact fun h => h
    | 2, _ => exact fun h => h
    | 3, _ =>
      rintro ⟨b, e, hb, h⟩
      exact ⟨b, e, hb, hR.blk _ _ _ (by decide) h⟩
    | 4, _ => exact fun h => h
    | 5, _ => exact fun h => h
    | 6, _ => exact fun h => h
    | 7, _ =>
      rintro ⟨P, e, hb, h⟩
      exact ⟨P, e, hb, hR.pk _ hb h⟩
    | 8, _ => exact fun h => h
    | 9, _ => exact fun h => h
    | 10, _ => exact fun h => h
    | 11, _ => exact fun h => h
    | 12, _ => exact fun h => h
    | 13, _ => exact fun h => h
    | 14, _ => exact fun h => h
    | 15, _ =>
      rintro ⟨k, i, t, b, e, hl, hb, h⟩
      exact ⟨k, i, t, b, e, hl, hb, hR.blk _ _ _ (by decide) h⟩
    | 16, _ =>
      rintro ⟨k, i, t, b, e, hl, hb, h⟩
      exact ⟨k, i, t, b, e, hl, hb, hR.blk _ _ _ (by decide) h⟩
    | 17, _ =>
      rintro ⟨b, e, hb, h⟩
      exact ⟨b, e, hb, hR.blk _ _ _ (by decide) h⟩
    | j + 18, hj => exact absurd hj (by omega)
  refine Rg.Each.cons (fun vals wr hI hφ => ?_) ?_
  · change Rg.Does _ _ _ _ (fun v wz => (Fr [] w6 wz) ∧ (Rr w6.heap.size vn wr wz) ∧ (∃ b : Nat, v = .slice (some ⟨b, 0, none⟩) 3 3 ∧ w6.heap.size ≤ b ∧ Blk wz b 9 [.string ⟨#[107]⟩, .string ⟨#[110]⟩, .string ⟨#[118]⟩]))
    clear hφ
    simp only [Rg.putsD, List.getD_cons_succ, List.getD_cons_zero]
    have hs0 := hI.size
    exact Rg.Does.val (v := .slice (some ⟨wr.heap.size, 0, none⟩) 3 3) (w' := wr.alloc (.cells #[.string ⟨#[107]⟩, .string ⟨#[110]⟩, .string ⟨#[118]⟩] 9)) (by first | kernel_rfl | simp [go_sem, execOp]) ⟨hI.alloc _, Rr.fr ((Fr.refl [] wr).alloc _), wr.heap.size, rfl, hs0, Blk.new wr _ [.string ⟨#[107]⟩, .string ⟨#[110]⟩, .string ⟨#[118]⟩]⟩
  refine Rg.Each.cons (fun vals wr hI hφ => ?_) ?_
  · change Rg.Does _ _ _ _ (fun v wz => (Fr [] w6 wz) ∧ (Rr w6.heap.size vn wr wz) ∧ (v = .int .u8 wh))
    clear hφ
    simp only [Rg.putsD, List.getD_cons_succ, List.getD_cons_zero]
    exact Rg.Does.val (v := .int .u8 wh) (by first | rfl | kernel_rfl) ⟨hI, Rr.refl _, rfl⟩
  refine Rg.Each.cons (fun vals wr hI hφ => ?_) ?_
  · change Rg.Does _ _ _ _ (fun v wz => (Fr [] w6 wz) ∧ (Rr w6.heap.size vn wr wz) ∧ (v = .int .u8 (r : Int)))
    have h1 : _ = _ := hφ 1 (by decide)
    clear hφ
    simp only [Rg.putsD, List.getD_cons_succ, List.getD_cons_zero]
    rw [h1]
    exact Rg.Does.val (v := .int .u8 (r : Int)) (by simp [go_sem, execOp, Act.put, Act.eval, hmod]) ⟨hI, Rr.refl _, rfl⟩
  refine Rg.Each.cons (fun vals wr hI hφ => ?_) ?_
  · change Rg.Does _ _ _ _ (fun v wz => (Fr [] w6 wz) ∧ (Rr w6.heap.size vn wr wz) ∧ (∃ b : Nat, v = .pointer (some ⟨b, r, none⟩) ∧ w6.heap.size ≤ b ∧ Blk wz b 9 [.string ⟨#[107]⟩, .string ⟨#[110]⟩, .string ⟨#[118]⟩]))
    have h0 := hφ 0 (by decide)
    have h2 : _ = _ := hφ 2 (by decide)
    clear hφ
    simp only [Rg.putsD, List.getD_cons_succ, List.getD_cons_zero]
    obtain ⟨b, eb, hb, hblk⟩ := h0
    rw [eb, h2]
    have hr1 : (0 : Int) ≤ (r : Int) := by omega
    have hr2 : (r : Int) < 3 := by omega
    exact Rg.Does.val (v := .pointer (some ⟨b, r, none⟩)) (by simp [go_sem, execOp, Act.put, Act.eval]; omega) ⟨hI, Rr.refl _, b, rfl, hb, hblk⟩
  refine Rg.Each.cons (fun vals wr hI hφ => ?_) ?_
  · change Rg.Does _ _ _ _ (fun v wz => (Fr [] w6 wz) ∧ (Rr w6.heap.size vn wr wz) ∧ (v = .string ⟨(colN r).toArray⟩))
    have h3 := hφ 3 (by decide)
    clear hφ
    simp only [Rg.putsD, List.getD_cons_succ, List.getD_cons_zero]
    obtain ⟨b, eb, hb, hblk⟩ := h3
    rw [eb]
    have hc : wr.cell? ⟨b, r, none⟩ = some (.string ⟨(colN r).toArray⟩) := (hblk.cell r).trans (colN_get hr3)
    exact Rg.Does.val (v := .string ⟨(colN r).toArray⟩) (by simp [go_sem, execOp, Act.put, Act.eval, hc]) ⟨hI, Rr.refl _, rfl⟩
  refine Rg.Each.cons (fun vals wr hI hφ => ?_) ?_
  · change Rg.Does _ _ _ _ (fun v wz => (Fr [] w6 wz) ∧ (Rr w6.heap.size vn wr wz) ∧ (v = .agg #[.int .i64 2, .int .i64 0, .int .i64 0, .string ⟨#[]⟩, .string ⟨#[]⟩, .string ⟨(colN r).toArray⟩, .slice none 0 0]))
    have h4 : _ = _ := hφ 4 (by decide)
    clear hφ
    simp only [Rg.putsD, List.getD_cons_succ, List.getD_cons_zero]
    rw [h4]
    exact Rg.Does.val (v := .agg #[.int .i64 2, .int .i64 0, .int .i64 0, .string ⟨#[]⟩, .string ⟨#[]⟩, .string ⟨(colN r).toArray⟩, .slice none 0 0]) (by first | rfl | kernel_rfl) ⟨hI, Rr.refl _, rfl⟩
  refine Rg.Each.cons (fun vals wr hI hφ => ?_) ?_
  · change Rg.Does _ _ _ _ (fun v wz => (Fr [] w6 wz) ∧ (Rr w6.heap.size vn wr wz) ∧ (v = .slice va vn vc0))
    clear hφ
    simp only [Rg.putsD, List.getD_cons_succ, List.getD_cons_zero]
    exact Rg.Does.val (v := .slice va vn vc0) (by first | rfl | kernel_rfl) ⟨hI, Rr.refl _, rfl⟩
  refine Rg.Each.cons (fun vals wr hI hφ => ?_) ?_
  · change Rg.Does _ _ _ _ (fun v wz => (Fr [] w6 wz) ∧ (Rr w6.heap.size vn wr wz) ∧ (∃ P : Nat, v = .pointer (some ⟨P, 0, none⟩) ∧ w6.heap.size ≤ P ∧ PK (P + 1) vn wz P))
    have h6 : _ = _ := hφ 6 (by decide)
    clear hφ
    simp only [Rg.putsD, List.getD_cons_succ, List.getD_cons_zero]
    rw [h6]
    have hs0 := hI.size
    refine Rg.Does.call (by kernel_rfl) (Gn.made_any wr va vn vc0 (by omega) (fun j hj => ?_)) ?_
    · obtain ⟨g, off, k, e1, e2, e3, e4⟩ := HV.out j hj
      exact ⟨g, off, k, e1, Nat.lt_of_lt_of_le e2 (HF6.out.trans hI).size, e3, ((HF6.out.trans hI).cell (p := ⟨g, off + j, none⟩) e2 (by simp)).trans e4⟩
    rintro e wx ⟨rfl, hk, hf⟩
    exact ⟨_, rfl, hI.trans hf, Rr.fr hf, _, rfl, hs0, hk⟩
  refine Rg.Each.cons (fun vals wr hI hφ => ?_) ?_
  · change Rg.Does _ _ _ _ (fun v wz => (Fr [] w6 wz) ∧ (Rr w6.heap.size vn wr wz) ∧ (v = .int .u8 wh))
    clear hφ
    simp only [Rg.putsD, List.getD_cons_succ, List.getD_cons_zero]
    exact Rg.Does.val (v := .int .u8 wh) (by first | rfl | kernel_rfl) ⟨hI, Rr.refl _, rfl⟩
  refine Rg.Each.cons (fun vals wr hI hφ => ?_) ?_
  · change Rg.Does _ _ _ _ (fun v wz => (Fr [] w6 wz) ∧ (Rr w6.heap.size vn wr wz) ∧ (v = .int .u8 (r : Int)))
    have h8 : _ = _ := hφ 8 (by decide)
    clear hφ
    simp only [Rg.putsD, List.getD_cons_succ, List.getD_cons_zero]
    rw [h8]
    exact Rg.Does.val (v := .int .u8 (r : Int)) (by simp [go_sem, execOp, Act.put, Act.eval, hmod]) ⟨hI, Rr.refl _, rfl⟩
  refine Rg.Each.cons (fun vals wr hI hφ => ?_) ?_
  · change Rg.Does _ _ _ _ (fun v wz => (Fr [] w6 wz) ∧ (Rr w6.heap.size vn wr wz) ∧ (v = .int .i64 (r : Int)))
    have h9 : _ = _ := hφ 9 (by decide)
    clear hφ
    simp only [Rg.putsD, List.getD_cons_succ, List.getD_cons_zero]
    rw [h9]
    exact Rg.Does.val (v := .int .i64 (r : Int)) (by simp [go_sem, execOp, Act.put, Act.eval, hwrr]) ⟨hI, Rr.refl _, rfl⟩
  refine Rg.Each.cons (fun vals wr hI hφ => ?_) ?_
  · change Rg.Does _ _ _ _ (fun v wz => (Fr [] w6 wz) ∧ (Rr w6.heap.size vn wr wz) ∧ (v = .int .i64 ((r / 2 : Nat) : Int)))
    have h10 : _ = _ := hφ 10 (by decide)
    clear hφ
    simp only [Rg.putsD, List.getD_cons_succ, List.getD_cons_zero]
    rw [h10]
    exact Rg.Does.val (v := .int .i64 ((r / 2 : Nat) : Int)) (by simp [go_sem, execOp, Act.put, Act.eval, hdiv, hw1]) ⟨hI, Rr.refl _, rfl⟩
  refine Rg.Each.cons (fun vals wr hI hφ => ?_) ?_
  · change Rg.Does _ _ _ _ (fun v wz => (Fr [] w6 wz) ∧ (Rr w6.heap.size vn wr wz) ∧ (v = .int .i64 (1 + ((r / 2 : Nat) : Int))))
    have h11 : _ = _ := hφ 11 (by decide)
    clear hφ
    simp only [Rg.putsD, List.getD_cons_succ, List.getD_cons_zero]
    rw [h11]
    exact Rg.Does.val (v := .int .i64 (1 + ((r / 2 : Nat) : Int))) (by simp [go_sem, execOp, Act.put, Act.eval, hadd]) ⟨hI, Rr.refl _, rfl⟩
  refine Rg.Each.cons (fun vals wr hI hφ => ?_) ?_
  · change Rg.Does _ _ _ _ (fun v wz => (Fr [] w6 wz) ∧ (Rr w6.heap.size vn wr wz) ∧ (∃ (k i : Int) (t : B), v = .agg #[.int .i64 k, .int .i64 i, .string ⟨t.toArray⟩] ∧ Gn.Lit (1 + ((r / 2 : Nat) : Int)) k i t))
    have h7 := hφ 7 (by decide)
    have h12 : _ = _ := hφ 12 (by decide)
    clear hφ
    simp only [Rg.putsD, List.getD_cons_succ, List.getD_cons_zero]
    obtain ⟨P, eP, hP, hpk⟩ := h7
    rw [eP, h12]
    refine Rg.Does.call (by kernel_rfl) (Gn.value_any P (1 + ((r / 2 : Nat) : Int)) wr hpk) ?_
    rintro e wx ⟨k, i, t, rfl, hlit, hk, hf⟩
    exact ⟨_, rfl, hI.trans' hf (fun g hg => by simp at hg; omega), Rr.read hpk hk hf, k, i, t, rfl, hlit⟩
  refine Rg.Each.cons (fun vals wr hI hφ => ?_) ?_
  · change Rg.Does _ _ _ _ (fun v wz => (Fr [] w6 wz) ∧ (Rr w6.heap.size vn wr wz) ∧ (∃ (k i : Int) (t : B), v = .agg #[.int .i64 1, .int .i64 k, .int .i64 i, .string ⟨t.toArray⟩, .string ⟨#[]⟩, .string ⟨#[]⟩, .slice none 0 0] ∧ Gn.Lit (1 + ((r / 2 : Nat) : Int)) k i t))
    have h13 := hφ 13 (by decide)
    clear hφ
    simp only [Rg.putsD, List.getD_cons_succ, List.getD_cons_zero]
    obtain ⟨k, i, t, ek, hlit⟩ := h13
    rw [ek]
    exact Rg.Does.val (v := .agg #[.int .i64 1, .int .i64 k, .int .i64 i, .string ⟨t.toArray⟩, .string ⟨#[]⟩, .string ⟨#[]⟩, .slice none 0 0]) (by first | rfl | kernel_rfl) ⟨hI, Rr.refl _, k, i, t, rfl, hlit⟩
  refine Rg.Each.cons (fun vals wr hI hφ => ?_) ?_
  · change Rg.Does _ _ _ _ (fun v wz => (Fr [] w6 wz) ∧ (Rr w6.heap.size vn wr wz) ∧ (∃ (k i : Int) (t : B) (b : Nat), v = .slice (some ⟨b, 0, none⟩) 2 2 ∧ Gn.Lit (1 + ((r / 2 : Nat) : Int)) k i t ∧ w6.heap.size ≤ b ∧ Blk wz b 41 [.int .i64 2, .int .i64 0, .int .i64 0, .string ⟨#[]⟩, .string ⟨#[]⟩, .string ⟨(colN r).toArray⟩, .slice none 0 0, .int .i64 1, .int .i64 k, .int .i64 i, .string ⟨t.toArray⟩, .string ⟨#[]⟩, .string ⟨#[]⟩, .slice none 0 0]))
    have h5 : _ = _ := hφ 5 (by decide)
    have h14 := hφ 14 (by decide)
    clear hφ
    simp only [Rg.putsD, List.getD_cons_succ, List.getD_cons_zero]
    obtain ⟨k, i, t, ek, hlit⟩ := h14
    rw [ek, h5]
    have hs0 := hI.size
    exact Rg.Does.val (v := .slice (some ⟨wr.heap.size, 0, none⟩) 2 2) (w' := wr.alloc (.cells #[.int .i64 2, .int .i64 0, .int .i64 0, .string ⟨#[]⟩, .string ⟨#[]⟩, .string ⟨(colN r).toArray⟩, .slice none 0 0, .int .i64 1, .int .i64 k, .int .i64 i, .string ⟨t.toArray⟩, .string ⟨#[]⟩, .string ⟨#[]⟩, .slice none 0 0] 41)) (by first | simp [go_sem, execOp, Act.put, Act.eval] | kernel_rfl) ⟨hI.alloc _, Rr.fr ((Fr.refl [] wr).alloc _), k, i, t, wr.heap.size, rfl, hlit, hs0, Blk.new wr _ [.int .i64 2, .int .i64 0, .int .i64 0, .string ⟨#[]⟩, .string ⟨#[]⟩, .string ⟨(colN r).toArray⟩, .slice none 0 0, .int .i64 1, .int .i64 k, .int .i64 i, .string ⟨t.toArray⟩, .string ⟨#[]⟩, .string ⟨#[]⟩, .slice none 0 0]⟩
  refine Rg.Each.cons (fun vals wr hI hφ => ?_) ?_
  · change Rg.Does _ _ _ _ (fun v wz => (Fr [] w6 wz) ∧ (Rr w6.heap.size vn wr wz) ∧ (∃ (k i : Int) (t : B) (b : Nat), v = .agg #[.int .i64 8, .int .i64 0, .int .i64 0, .string ⟨#[]⟩, .string ⟨#[]⟩, .string ⟨#[]⟩, .slice (some ⟨b, 0, none⟩) 2 2] ∧ Gn.Lit (1 + ((r / 2 : Nat) : Int)) k i t ∧ w6.heap.size ≤ b ∧ Blk wz b 41 [.int .i64 2, .int .i64 0, .int .i64 0, .string ⟨#[]⟩, .string ⟨#[]⟩, .string ⟨(colN r).toArray⟩, .slice none 0 0, .int .i64 1, .int .i64 k, .int .i64 i, .string ⟨t.toArray⟩, .string ⟨#[]⟩, .string ⟨#[]⟩, .slice none 0 0]))
    have h15 := hφ 15 (by decide)
    clear hφ
    simp only [Rg.putsD, List.getD_cons_succ, List.getD_cons_zero]
    obtain ⟨k, i, t, b, eb, hlit, hb, hblk⟩ := h15
    rw [eb]
    exact Rg.Does.val (v := .agg #[.int .i64 8, .int .i64 0, .int .i64 0, .string ⟨#[]⟩, .string ⟨#[]⟩, .string ⟨#[]⟩, .slice (some ⟨b, 0, none⟩) 2 2]) (by first | rfl | kernel_rfl) ⟨hI, Rr.refl _, k, i, t, b, rfl, hlit, hb, hblk⟩
  refine Rg.Each.cons (fun vals wr hI hφ => ?_) ?_
  · change Rg.Does _ _ _ _ (fun v wz => (Fr [] w6 wz) ∧ (Rr w6.heap.size vn wr wz) ∧ (∃ b : Nat, v = .pointer (some ⟨b, 0, none⟩) ∧ w6.heap.size ≤ b ∧ Blk wz b 41 [.int .i64 0, .int .i64 0, .int .i64 0, .string ⟨#[]⟩, .string ⟨#[]⟩, .string ⟨#[]⟩, .slice none 0 0]))
    clear hφ
    simp only [Rg.putsD, List.getD_cons_succ, List.getD_cons_zero]
    have hs0 := hI.size
    exact Rg.Does.val (v := .pointer (some ⟨wr.heap.size, 0, none⟩)) (w' := wr.alloc (.cells #[.int .i64 0, .int .i64 0, .int .i64 0, .string ⟨#[]⟩, .string ⟨#[]⟩, .string ⟨#[]⟩, .slice none 0 0] 41)) (by first | rfl | kernel_rfl | simp [go_sem, execOp]) ⟨hI.alloc _, Rr.fr ((Fr.refl [] wr).alloc _), wr.heap.size, rfl, hs0, Blk.new wr _ [.int .i64 0, .int .i64 0, .int .i64 0, .string ⟨#[]⟩, .string ⟨#[]⟩, .string ⟨#[]⟩, .slice none 0 0]⟩
  refine Rg.Each.one (fun vals wr hI hφ => ?_)
  have h16 := hφ 16 (by decide)
  have h17 := hφ 17 (by decide)
  clear hφ
  obtain ⟨k, i, t, b, e16, hlit, hb, hblk⟩ := h16
  obtain ⟨c, e17, hc, hblc⟩ := h17
  obtain ⟨q0, q1, q2, q3, q4, q5, q6, g0, g1, g2, g3, g4, g5, g6⟩ := Px.c7_of hblc
  have hlc := hblc.lt
  have hbc : ¬ b = c := by
    rintro rfl
    have z1 := hblk.cell 7
    have z2 := hblc.cell 7
    rw [z1] at z2
    simp at z2
  rw [show List.range 18 = [0, 1, 2, 3, 4, 5, 6, 7, 8, 9, 10, 11, 12, 13, 14, 15, 16, 17] from rfl]
  simp only [Rg.putsD, List.getD_cons_succ, List.getD_cons_zero]
  rw [e16, e17]
  refine Rg.Does.skip (w' := put7 wr c (.int .i64 8) (.int .i64 0) (.int .i64 0) (.string ⟨#[]⟩) (.string ⟨#[]⟩) (.string ⟨#[]⟩) (.slice (some ⟨b, 0, none⟩) 2 2)) (by unfold put7; simp [go_sem, execOp, Act.put, Act.eval, q0, q1, q2, q3, q4, q5, q6, g0, g1, g2, g3, g4, g5, g6]) ?_
  simp only [Act.put, List.setIfInBounds_toArray, List.set_cons_succ, List.set_cons_zero]
  have hff := frPut7 (T := c) (Fr.refl [some c] wr) (.inl (by simp)) (.int .i64 8) (.int .i64 0) (.int .i64 0) (.string ⟨#[]⟩) (.string ⟨#[]⟩) (.string ⟨#[]⟩) (.slice (some ⟨b, 0, none⟩) 2 2)
  have hs0 := hI.size
  have hfz : Fr [] w6 (put7 wr c (.int .i64 8) (.int .i64 0) (.int .i64 0) (.string ⟨#[]⟩) (.string ⟨#[]⟩) (.string ⟨#[]⟩) (.slice (some ⟨b, 0, none⟩) 2 2)) := hI.trans' hff (fun g hg => by simp at hg; omega)
  have HFB := Lib.hid (blkPut7 hblc rfl (.int .i64 8) (.int .i64 0) (.int .i64 0) (.string ⟨#[]⟩) (.string ⟨#[]⟩) (.string ⟨#[]⟩) (.slice (some ⟨b, 0, none⟩) 2 2))
  have HSB := Lib.hid (hblk.keep hff (by simp; exact hbc))
  have HLIT := Lib.hid hlit
  have HEB8 := Lib.hid (HEB.out.keep hfz (by simp))
  have HTB8 := Lib.hid (HTB6.out.keep hfz (by simp))
  have HTR8 := Lib.hid (HTR6.out.keep hfz (by simp))
  have HC8 := Lib.hid (Px.FlatS.keep hfz (by simp) HC6.out)
  have HREP8 := Lib.hid (Rep.E.keep hfz (by simp) HREP6.out)
  have HF8 := Lib.hid (HF6.out.trans hfz)
  have hs8 := hff.size
  clear hff hfz hblk hblc hlit hI e16 e17 q0 q1 q2 q3 q4 q5 q6 g0 g1 g2 g3 g4 g5 g6 HEB HTB6 HTR6 HC6 HREP6 HF6
  generalize put7 wr c (.int .i64 8) (.int .i64 0) (.int .i64 0) (.string ⟨#[]⟩) (.string ⟨#[]⟩) (.string ⟨#[]⟩) (.slice (some ⟨b, 0, none⟩) 2 2) = w8 at HFB HSB HEB8 HTB8 HTR8 HC8 HREP8 HF8 hs8 ⊢
  obtain ⟨f0, f1, f2, f3, f4, f5, f6, -⟩ := Px.c7_of HFB.out
  obtain ⟨e0, e1, e2, e3, e4, e5, e6, -⟩ := Px.c7_of HEB8.out
  have hfbl := HFB.out.lt
  have hebl := HEB8.out.lt
  have hx1 := ((Blk.new w8 41 [.int .i64 8, .int .i64 0, .int .i64 0, .string ⟨#[]⟩, .string ⟨#[]⟩, .string ⟨#[]⟩, .slice (some ⟨b, 0, none⟩) 2 2, .int .i64 po, .int .i64 pk, .int .i64 pi, .string ⟨pz.toArray⟩, .string ⟨pt.toArray⟩, .string ⟨pn.toArray⟩, .slice pa pe pc]).alloc (.cells #[.int .i64 14, .int .i64 0, .int .i64 0, .string ⟨#[]⟩, .string ⟨#[]⟩, .string ⟨#[]⟩, .slice (some ⟨w8.heap.size, 0, none⟩) 2 2, .int .i64 po, .int .i64 pk, .int .i64 pi, .string ⟨pz.toArray⟩, .string ⟨pt.toArray⟩, .string ⟨pn.toArray⟩, .slice pa pe pc] 41)).alloc (.cells #[.int .i64 14, .int .i64 0, .int .i64 0, .string ⟨#[]⟩, .string ⟨#[]⟩, .string ⟨#[]⟩, .slice (some ⟨(w8.heap.size + 1), 0, none⟩) 2 2] 41)
  have hx2 := (Blk.new (w8.alloc (.cells #[.int .i64 8, .int .i64 0, .int .i64 0, .string ⟨#[]⟩, .string ⟨#[]⟩, .string ⟨#[]⟩, .slice (some ⟨b, 0, none⟩) 2 2, .int .i64 po, .int .i64 pk, .int .i64 pi, .string ⟨pz.toArray⟩, .string ⟨pt.toArray⟩, .string ⟨pn.toArray⟩, .slice pa pe pc] 41)) 41 [.int .i64 14, .int .i64 0, .int .i64 0, .string ⟨#[]⟩, .string ⟨#[]⟩, .string ⟨#[]⟩, .slice (some ⟨w8.heap.size, 0, none⟩) 2 2, .int .i64 po, .int .i64 pk, .int .i64 pi, .string ⟨pz.toArray⟩, .string ⟨pt.toArray⟩, .string ⟨pn.toArray⟩, .slice pa pe pc]).alloc (.cells #[.int .i64 14, .int .i64 0, .int .i64 0, .string ⟨#[]⟩, .string ⟨#[]⟩, .string ⟨#[]⟩, .slice (some ⟨(w8.heap.size + 1), 0, none⟩) 2 2] 41)
  have hx3 := Blk.new ((w8.alloc (.cells #[.int .i64 8, .int .i64 0, .int .i64 0, .string ⟨#[]⟩, .string ⟨#[]⟩, .string ⟨#[]⟩, .slice (some ⟨b, 0, none⟩) 2 2, .int .i64 po, .int .i64 pk, .int .i64 pi, .string ⟨pz.toArray⟩, .string ⟨pt.toArray⟩, .string ⟨pn.toArray⟩, .slice pa pe pc] 41)).alloc (.cells #[.int .i64 14, .int .i64 0, .int .i64 0, .string ⟨#[]⟩, .string ⟨#[]⟩, .string ⟨#[]⟩, .slice (some ⟨w8.heap.size, 0, none⟩) 2 2, .int .i64 po, .int .i64 pk, .int .i64 pi, .string ⟨pz.toArray⟩, .string ⟨pt.toArray⟩, .string ⟨pn.toArray⟩, .slice pa pe pc] 41)) 41 [.int .i64 14, .int .i64 0, .int .i64 0, .string ⟨#[]⟩, .string ⟨#[]⟩, .string ⟨#[]⟩, .slice (some ⟨(w8.heap.size + 1), 0, none⟩) 2 2]
  simp only [World.size_alloc] at hx2 hx3
  have hfc : Fr [] w8 (((w8.alloc (.cells #[.int .i64 8, .int .i64 0, .int .i64 0, .string ⟨#[]⟩, .string ⟨#[]⟩, .string ⟨#[]⟩, .slice (some ⟨b, 0, none⟩) 2 2, .int .i64 po, .int .i64 pk, .int .i64 pi, .string ⟨pz.toArray⟩, .string ⟨pt.toArray⟩, .string ⟨pn.toArray⟩, .slice pa pe pc] 41)).alloc (.cells #[.int .i64 14, .int .i64 0, .int .i64 0, .string ⟨#[]⟩, .string ⟨#[]⟩, .string ⟨#[]⟩, .slice (some ⟨w8.heap.size, 0, none⟩) 2 2, .int .i64 po, .int .i64 pk, .int .i64 pi, .string ⟨pz.toArray⟩, .string ⟨pt.toArray⟩, .string ⟨pn.toArray⟩, .slice pa pe pc] 41)).alloc (.cells #[.int .i64 14, .int .i64 0, .int .i64 0, .string ⟨#[]⟩, .string ⟨#[]⟩, .string ⟨#[]⟩, .slice (some ⟨(w8.heap.size + 1), 0, none⟩) 2 2] 41)) := (((Fr.refl [] w8).alloc _).alloc _).alloc _
  have hsc : w8.heap.size + 1 + 1 < (((w8.alloc (.cells #[.int .i64 8, .int .i64 0, .int .i64 0, .string ⟨#[]⟩, .string ⟨#[]⟩, .string ⟨#[]⟩, .slice (some ⟨b, 0, none⟩) 2 2, .int .i64 po, .int .i64 pk, .int .i64 pi, .string ⟨pz.toArray⟩, .string ⟨pt.toArray⟩, .string ⟨pn.toArray⟩, .slice pa pe pc] 41)).alloc (.cells #[.int .i64 14, .int .i64 0, .int .i64 0, .string ⟨#[]⟩, .string ⟨#[]⟩, .string ⟨#[]⟩, .slice (some ⟨w8.heap.size, 0, none⟩) 2 2, .int .i64 po, .int .i64 pk, .int .i64 pi, .string ⟨pz.toArray⟩, .string ⟨pt.toArray⟩, .string ⟨pn.toArray⟩, .slice pa pe pc] 41)).alloc (.cells #[.int .i64 14, .int .i64 0, .int .i64 0, .string ⟨#[]⟩, .string ⟨#[]⟩, .string ⟨#[]⟩, .slice (some ⟨(w8.heap.size + 1), 0, none⟩) 2 2] 41)).heap.size := by simp
  have hrep := and_rep (A := fun g => w4.heap.size ≤ g) (r := r) (k := k) (i := i) (t := t) (Rep.E.keep hfc (by simp) HREP8.out) (HSB.out.keep hfc (by simp)) hx1 hx2 (by omega) (by omega) (by omega)
  have HAND := Lib.hid hrep
  have HA2 := Lib.hid hx3
  have HTB9 := Lib.hid (HTB8.out.keep hfc (by simp))
  have HTR9 := Lib.hid (HTR8.out.keep hfc (by simp))
  have HC9 := Lib.hid (Px.FlatS.keep hfc (by simp) HC8.out)
  have HF9 := Lib.hid (HF8.out.trans hfc)
  clear hx1 hx2 hx3 hfc hrep HFB HSB HEB8 HTB8 HTR8 HC8 HREP8 HF8
  go_upto_region 10 with fail
  clear f0 f1 f2 f3 f4 f5 f6 e0 e1 e2 e3 e4 e5 e6 hfbl hebl
  generalize (((w8.alloc (.cells #[.int .i64 8, .int .i64 0, .int .i64 0, .string ⟨#[]⟩, .string ⟨#[]⟩, .string ⟨#[]⟩, .slice (some ⟨b, 0, none⟩) 2 2, .int .i64 po, .int .i64 pk, .int .i64 pi, .string ⟨pz.toArray⟩, .string ⟨pt.toArray⟩, .string ⟨pn.toArray⟩, .slice pa pe pc] 41)).alloc (.cells #[.int .i64 14, .int .i64 0, .int .i64 0, .string ⟨#[]⟩, .string ⟨#[]⟩, .string ⟨#[]⟩, .slice (some ⟨w8.heap.size, 0, none⟩) 2 2, .int .i64 po, .int .i64 pk, .int .i64 pi, .string ⟨pz.toArray⟩, .string ⟨pt.toArray⟩, .string ⟨pn.toArray⟩, .slice pa pe pc] 41)).alloc (.cells #[.int .i64 14, .int .i64 0, .int .i64 0, .string ⟨#[]⟩, .string ⟨#[]⟩, .string ⟨#[]⟩, .slice (some ⟨(w8.heap.size + 1), 0, none⟩) 2 2] 41)) = w9 at HAND HA2 HTB9 HTR9 HC9 HF9 hsc ⊢
  have hfd : Fr [] w9 (w9.alloc (.cells #[.int .i64 14, .int .i64 0, .int .i64 0, .string ⟨#[]⟩, .string ⟨#[]⟩, .string ⟨#[]⟩, .slice (some ⟨(w8.heap.size + 1), 0, none⟩) 2 2] 41)) := (Fr.refl [] w9).alloc _
  have hL : Rep.L 41 (fun g => w4.heap.size ≤ g) w9 [exA (exA (exF r k i t) p.ex) p.ex] ([.int .i64 14, .int .i64 0, .int .i64 0, .string ⟨#[]⟩, .string ⟨#[]⟩, .string ⟨#[]⟩, .slice (some ⟨(w8.heap.size + 1), 0, none⟩) 2 2] ++ []) := .cons _ _ _ _ HAND.out .nil
  rw [List.append_nil] at hL
  have hes := Gn.es_new hL (by omega) (by show 1 ≤ maxLen; simp [maxLen])
  have HCH := Lib.hid (choose_any tn l ix _ _ ta ia tc ic (by have := HTI.out.1; omega) (by have := HTI.out.2.1; omega) (exA (exA (exF r k i t) p.ex) p.ex) _ (w9.alloc (.cells #[.int .i64 14, .int .i64 0, .int .i64 0, .string ⟨#[]⟩, .string ⟨#[]⟩, .string ⟨#[]⟩, .slice (some ⟨(w8.heap.size + 1), 0, none⟩) 2 2] 41)) (HTR9.out.keep hfd (by simp)) hes)
  have HAND10 := Lib.hid (Rep.E.keep hfd (by simp) HAND.out)
  have HA10 := Lib.hid (HA2.out.keep hfd (by simp))
  have HTB10 := Lib.hid (HTB9.out.keep hfd (by simp))
  have HTR10 := Lib.hid (HTR9.out.keep hfd (by simp))
  have HC10 := Lib.hid (Px.FlatS.keep hfd (by simp) HC9.out)
  have HF10 := Lib.hid (HF9.out.trans hfd)
  have t0 := HTB9.out.cell 0
  have t1 := HTB9.out.cell 1
  have t2 := HTB9.out.cell 2
  simp only [List.getElem?_cons_zero, List.getElem?_cons_succ] at t0 t1 t2
  obtain ⟨e0, e1, e2, e3, e4, e5, e6, -⟩ := Px.c7_of HA2.out
  have hbl9 := HTB9.out.lt
  clear hL hes hfd
  go_wp2_with fail
  refine HCH.out.mono ?_
  rintro e w10 ⟨⟨bp, bk, bi, bz, rfl, hp⟩, hf10⟩
  have HP := Lib.hid hp
  have hg10 := hf10.alloc (.cells #[.int .i64 bp, .int .i64 bk, .int .i64 bi, .string ⟨bz.toArray⟩] 46)
  have HPB := Lib.hid (Blk.new w10 46 [.int .i64 bp, .int .i64 bk, .int .i64 bi, .string ⟨bz.toArray⟩])
  have HAND11 := Lib.hid (Rep.E.keep hg10 (by simp) HAND10.out)
  have HA11 := Lib.hid (HA10.out.keep hg10 (by simp))
  have HTB11 := Lib.hid (HTB10.out.keep hg10 (by simp))
  have HTR11 := Lib.hid (HTR10.out.keep hg10 (by simp))
  have HC11 := Lib.hid (Px.FlatS.keep hg10 (by simp) HC10.out)
  have HF11 := Lib.hid (HF10.out.trans hg10)
  have hs10 := hf10.size
  rw [World.size_alloc] at hs10
  have hs11 : w10.heap.size < (w10.alloc (.cells #[.int .i64 bp, .int .i64 bk, .int .i64 bi, .string ⟨bz.toArray⟩] 46)).heap.size := by simp
  clear hp hf10 hg10 HCH HAND HA2 HTB9 HTR9 HC9 HF9 HAND10 HA10 HTB10 HTR10 HC10 HF10 t0 t1 t2 e0 e1 e2 e3 e4 e5 e6 hbl9
  go_upto_region 11 with fail
  generalize (w10.alloc (.cells #[.int .i64 bp, .int .i64 bk, .int .i64 bi, .string ⟨bz.toArray⟩] 46)) = w11 at HPB HAND11 HA11 HTB11 HTR11 HC11 HF11 hs11 ⊢
  have HMD : Hid (Calls Tryd.prog 10 #[.slice va vn vc0] w11.drew fun e w' => e = .returned (.pointer (some ⟨w11.heap.size, 0, none⟩)) ∧ PK (w11.heap.size + 1) vn w' w11.heap.size ∧ Fr [] w11.drew w') := Lib.hid (Gn.made_any w11.drew va vn vc0 (by omega) (fun j hj => by
    obtain ⟨g, off, k, e1, e2, e3, e4⟩ := HV.out j hj
    exact ⟨g, off, k, e1, Nat.lt_of_lt_of_le e2 HF11.out.drew.size, e3, (HF11.out.drew.cell (p := ⟨g, off + j, none⟩) e2 (by simp)).trans e4⟩))
  refine Seq3.wp_region_text (fun i => i != 1 && i != 3) (fun _ => none) (fun i => false) (fun W => Fr [] w11 W) (by kernel_rfl) (by kernel_rfl) ((Fr.refl [] w11).drew) ?_
  refine Seq3.wpL_quiet rfl rfl rfl (fun K hK => ?_)
  go_big_quiet_op
  first | refine hK _ ?_ | refine ⟨_, by intros; rfl, hK _ ?_⟩
  clear hK K
  refine Seq3.wpL_call rfl rfl (by first | kernel_rfl | simp [go_sem, execOp]) (HMD.out) ?_
  rintro e w12 ⟨rfl, hk12, hf12⟩
  have HK12 := Lib.hid hk12
  have HF12 := Lib.hid ((Fr.drew (Fr.refl [] w11)).trans hf12)
  have hs12 := HF12.out.size
  clear hk12 hf12
  refine ⟨_, rfl, HF12.out, ?_⟩
  simp only [Act.put, List.setIfInBounds_toArray, List.set_cons_succ, List.set_cons_zero]
  refine Seq3.wpL_held (v := .agg #[.string ⟨tn.toArray⟩, .slice ta l.length tc, .slice ia ix.length ic]) rfl rfl (fun wz hz => ?_) ?_
  · have l0 := (HTB11.out.keep hz (by simp)).cell 0
    have l1 := (HTB11.out.keep hz (by simp)).cell 1
    have l2 := (HTB11.out.keep hz (by simp)).cell 2
    simp [go_sem, execOp, l0, l1, l2]
  simp only [Act.put, List.setIfInBounds_toArray, List.set_cons_succ, List.set_cons_zero]
  refine Seq3.wpL_call rfl rfl (by first | kernel_rfl | simp [go_sem, execOp]) (row_any w11.heap.size tn l ix ta ia tc ic (by have := HTI.out.1; omega) _ w12 (fun g (hg : g < w2.heap.size) => by omega) HK12.out (HTR11.out.keep HF12.out (by simp))) ?_
  rintro e w13 ⟨vals, v, rfl, hvn3, HFI, HKI, HVS, HK13, hf13⟩
  have HF13 := Lib.hid (HF12.out.trans' hf13.out (fun g hg => by simp at hg; omega))
  clear hf13 HK12 HK13 HMD
  refine ⟨_, rfl, HF13.out, ?_⟩
  simp only [Act.put, List.setIfInBounds_toArray, List.set_cons_succ, List.set_cons_zero]
  refine Seq3.wpL_quiet rfl rfl rfl (fun K hK => ?_)
  go_big_quiet_op
  first | refine hK _ ?_ | refine ⟨_, by intros; rfl, hK _ ?_⟩
  clear hK K
  refine Seq3.wpL_nil ?_
  have hs13 := HF13.out.size
  have hfe : Fr [] w13 (w13.alloc (.cells #[.int .i64 14, .int .i64 0, .int .i64 0, .string ⟨#[]⟩, .string ⟨#[]⟩, .string ⟨#[]⟩, .slice (some ⟨(w8.heap.size + 1), 0, none⟩) 2 2] 41)) := (Fr.refl [] w13).alloc _
  have hge := HF13.out.trans hfe
  have hL : Rep.L 41 (fun g => w4.heap.size ≤ g) w13 [exA (exA (exF r k i t) p.ex) p.ex] ([.int .i64 14, .int .i64 0, .int .i64 0, .string ⟨#[]⟩, .string ⟨#[]⟩, .string ⟨#[]⟩, .slice (some ⟨(w8.heap.size + 1), 0, none⟩) 2 2] ++ []) := .cons _ _ _ _ (Rep.E.keep HF13.out (by simp) HAND11.out) .nil
  rw [List.append_nil] at hL
  have hes := Gn.es_new hL (by omega) (by show 1 ≤ maxLen; simp [maxLen])
  have hll : vals.length ≤ (Gn.tits 0).length := by rw [hvn3, HTI.out.1, Gn.tits_len]; decide
  have hva := eva_where _ _ vc v (Gn.tits 0) vals hll (by rw [Gn.tits_len]; decide) HFI.out (w13.alloc (.cells #[.int .i64 14, .int .i64 0, .int .i64 0, .string ⟨#[]⟩, .string ⟨#[]⟩, .string ⟨#[]⟩, .slice (some ⟨(w8.heap.size + 1), 0, none⟩) 2 2] 41)) (Px.FlatS.keep hge (by simp) HC11.out) (Px.FlatS.keep hfe (by simp) HVS.out) r k i t (lit_fine HLIT.out).1 p HSZ.out
  have HHO := Lib.hid (holds_any vc v _ _ _ _ (w13.alloc (.cells #[.int .i64 14, .int .i64 0, .int .i64 0, .string ⟨#[]⟩, .string ⟨#[]⟩, .string ⟨#[]⟩, .slice (some ⟨(w8.heap.size + 1), 0, none⟩) 2 2] 41)) hes hva)
  have ha := HA11.out.keep HF13.out (by simp)
  obtain ⟨e0, e1, e2, e3, e4, e5, e6, -⟩ := Px.c7_of ha
  have hal := ha.lt
  have HPB13 := Lib.hid (HPB.out.keep hge (by simp))
  have HVS13 := Lib.hid (Px.FlatS.keep hfe (by simp) HVS.out)
  have HFE := Lib.hid (HF11.out.trans hge)
  clear hL hes hll hva ha hfe hge
  go_wp2_with fail
  refine HHO.out.mono ?_
  rintro e w14 ⟨hor, hf14⟩
  have HOR := Lib.hid hor
  obtain ⟨hk, hi, ht, er, b9, rfl, -, -⟩ := hor.ex
  have HPB14 := Lib.hid (HPB13.out.keep hf14 (by simp))
  have HVS14 := Lib.hid (Px.FlatS.keep hf14 (by simp) HVS13.out)
  have HF14 := Lib.hid (HFE.out.trans hf14)
  clear hor hf14 HHO HPB13 HVS13 HFE e0 e1 e2 e3 e4 e5 e6 hal HPB HAND11 HA11 HTB11 HTR11 HC11 HF13 HF12 HVS
  have hway := HP.out
  rw [← HTN.out.1, ← HTN.out.2.1, ← HTN.out.2.2, wayOf_first hr3 k i t (fun h => (lit_fine HLIT.out).2 (by omega)) p.ex] at hway
  clear HP
  by_cases hr2 : r = 2
  · subst hr2
    simp only [if_pos, Option.getD_none, Prod.mk.injEq] at hway
    obtain ⟨rfl, rfl, rfl, rfl⟩ := hway
    have q0 := HPB14.out.cell 0
    have hwr2 : wh % 3 = 2 := hwr
    go_wp2_with fail
    go_ret
    exact ⟨rfl, HF14.out⟩
  simp only [if_neg hr2, Option.getD_some, Prod.mk.injEq] at hway
  obtain ⟨hb0, rfl, rfl, rfl⟩ := hway
  have hk1 : k = 1 := (lit_fine HLIT.out).2 (by omega)
  subst hk1
  have HKK := Lib.hid (fun j (h : j < vals.length) (h2 : j < (tcol 0).length) (h3 : (tcol 0)[j].kind = 1) => HKI.out j h (by rw [← HTN.out.2.1]; exact h2) (by simp only [← HTN.out.2.1]; exact h3))
  have hv3 : vals.length = 3 := by rw [hvn3, HTI.out.1]
  have hv3' : (2 : Int) < vals.length := by omega
  have hv3b : (0 : Int) < vals.length := by omega
  have HNE : Hid (∀ hne, b9 = false ∧ er = 0) := Lib.hid (fun hne => holds_first (r := r) (by omega) hv3 HKK.out HOR.out rfl hne)
  have hil := (lit_fine HLIT.out).1.2
  obtain ⟨xa, xn, xc, rfl⟩ := row_slice HVS14.out.1
  obtain ⟨rfl, -, hz⟩ := Sh.flat_form (cells := vC) (size := 3) (fun _ => rfl) HVS14.out
  have HZ := Lib.hid hz
  clear hz HVS14 HKI
  rcases (by omega : r = 0 ∨ r = 1) with rfl | rfl
  case inl =>
    obtain rfl : bp = 0 := by rw [← hb0]; rfl
    have hwr2 : wh % 3 = 0 := hwr
    have q0 := HPB14.out.cell 0
    simp only [List.getElem?_cons_zero, List.getElem?_cons_succ] at q0
    have hpl := HPB14.out.lt
    obtain ⟨g, off, rfl, -, hg, hcap, hc⟩ := HZ.out 0 (by omega)
    obtain ⟨⟨xk, xi, xt⟩, hx⟩ : ∃ x, vals[0]'(by omega) = x := ⟨_, rfl⟩
    rw [hx] at hc
    have hxk : xk = 1 := by
      have := HKK.out 0 (by omega) (by rw [tcol_len]; decide) (by decide)
      rw [hx] at this
      exact this
    subst hxk
    have hxl : xt.length ≤ 1000 := by
      have := HFI.out _ (List.getElem_mem (show 0 < vals.length by omega))
      rw [hx] at this
      exact this.2
    have HNF : Hid (xi ≠ i → b9 = false ∧ er = 0) := Lib.hid (fun h => HNE.out (fun h2 => h ((congrArg (fun z : Int × Int × B => z.2.1) hx).symm.trans h2)))
    have HXC : Hid (∀ W, Fr [] w14 W → W.cell? ⟨g, off, none⟩ = some (.int .i64 1) ∧ W.cell? ⟨g, off + 1, none⟩ = some (.int .i64 xi) ∧ W.cell? ⟨g, off + 2, none⟩ = some (.string ⟨xt.toArray⟩)) := Lib.hid (fun W hW => ⟨(hW.cell (p := ⟨g, off, none⟩) hg (by simp)).trans (hc 0 _ rfl), (hW.cell (p := ⟨g, off + 1, none⟩) hg (by simp)).trans (hc 1 _ rfl), (hW.cell (p := ⟨g, off + 2, none⟩) hg (by simp)).trans (hc 2 _ rfl)⟩)
    clear hc hx HNE HKK HZ hb0
    go_wp2_with fail
    go_region
    all_goals
      go_upto_region 17 with fail
      have HG0 : Hid (Fr [] w14 (w14.alloc (.cells #[.int .i64 0, .int .i64 2] 3)).drew) := Lib.hid (((Fr.refl [] w14).alloc _).drew)
      generalize (w14.alloc (.cells #[.int .i64 0, .int .i64 2] 3)).drew = w15 at HG0 ⊢
      refine Seq3.wp_region_text (fun i => i != 7) (fun _ => none) (fun i => false) (fun W => Fr [] w14 W) (by kernel_rfl) (by kernel_rfl) (HG0.out.drew) ?_
      refine Seq3.wpL_quiet rfl rfl rfl (fun K hK => ?_)
      go_big_quiet_op
      first | refine hK _ ?_ | refine ⟨_, by intros; rfl, hK _ ?_⟩
      clear hK K
      refine Seq3.wpL_quiet rfl rfl rfl (fun K hK => ?_)
      go_big_quiet_op
      first | refine hK _ ?_ | refine ⟨_, by intros; rfl, hK _ ?_⟩
      clear hK K
      refine Seq3.wpL_held (v := .int .i64 0) rfl rfl (fun wz hz => ?_) ?_
      · have l0 := (HPB14.out.keep hz (by simp)).cell 0
        simp [go_sem, execOp, l0]
      simp only [Act.put, List.setIfInBounds_toArray, List.set_cons_succ, List.set_cons_zero]
      refine Seq3.wpL_quiet rfl rfl rfl (fun K hK => ?_)
      go_big_quiet_op
      first | refine hK _ ?_ | refine ⟨_, by intros; rfl, hK _ ?_⟩
      clear hK K
      refine Seq3.wpL_held (v := .agg #[.int .i64 1, .int .i64 xi, .string ⟨xt.toArray⟩]) rfl rfl (fun wz hz => ?_) ?_
      · have l0 := (HXC.out _ hz).1
        have l1 := (HXC.out _ hz).2.1
        have l2 := (HXC.out _ hz).2.2
        simp [go_sem, execOp, l0, l1, l2]
      simp only [Act.put, List.setIfInBounds_toArray, List.set_cons_succ, List.set_cons_zero]
      refine Seq3.wpL_quiet rfl rfl rfl (fun K hK => ?_)
      go_big_quiet_op
      first | refine hK _ ?_ | refine ⟨_, by intros; rfl, hK _ ?_⟩
      clear hK K
      refine Seq3.wpL_held (v := .agg #[.int .i64 1, .int .i64 i, .string ⟨t.toArray⟩]) rfl rfl (fun wz hz => ?_) ?_
      · have l0 := (HPB14.out.keep hz (by simp)).cell 1
        have l1 := (HPB14.out.keep hz (by simp)).cell 2
        have l2 := (HPB14.out.keep hz (by simp)).cell 3
        simp [go_sem, execOp, l0, l1, l2]
      simp only [Act.put, List.setIfInBounds_toArray, List.set_cons_succ, List.set_cons_zero]
      refine Seq3.wpL_call rfl rfl (by first | kernel_rfl | simp [go_sem, execOp]) (cvalue_any 1 xi 1 i xt t hxl hil w15.drew) ?_
      rintro e w16 ⟨⟨cv, rfl, hcv⟩, hf16⟩
      have HG1 := Lib.hid (HG0.out.drew.trans hf16)
      have hcv := hcv rfl rfl
      clear hf16
      refine ⟨_, rfl, HG1.out, ?_⟩
      simp only [Act.put, List.setIfInBounds_toArray, List.set_cons_succ, List.set_cons_zero]
      by_cases hq : cv = 0
      case pos =>
        subst hq
        refine Seq3.wpL_held (v := .bool true) rfl rfl (fun wz hz => ?_) ?_
        · simp [go_sem, execOp]
        simp only [Act.put, List.setIfInBounds_toArray, List.set_cons_succ, List.set_cons_zero]
        refine Seq3.wpL_quiet rfl rfl rfl (fun K hK => ?_)
        go_big_quiet_op
        first | refine hK _ ?_ | refine ⟨_, by intros; rfl, hK _ ?_⟩
        clear hK K
        refine Seq3.wpL_skip (HG1.out) rfl ?_
        simp only [Act.put, List.setIfInBounds_toArray, List.set_cons_succ, List.set_cons_zero]
        refine Seq3.wpL_skip (HG1.out) rfl ?_
        simp only [Act.put, List.setIfInBounds_toArray, List.set_cons_succ, List.set_cons_zero]
        refine Seq3.wpL_skip (HG1.out) rfl ?_
        simp only [Act.put, List.setIfInBounds_toArray, List.set_cons_succ, List.set_cons_zero]
        refine Seq3.wpL_skip (HG1.out) rfl ?_
        simp only [Act.put, List.setIfInBounds_toArray, List.set_cons_succ, List.set_cons_zero]
        refine Seq3.wpL_skip (HG1.out) rfl ?_
        simp only [Act.put, List.setIfInBounds_toArray, List.set_cons_succ, List.set_cons_zero]
        refine Seq3.wpL_skip (HG1.out) rfl ?_
        simp only [Act.put, List.setIfInBounds_toArray, List.set_cons_succ, List.set_cons_zero]
        refine Seq3.wpL_held (v := .bool true) rfl rfl (fun wz hz => ?_) ?_
        · simp [go_sem, execOp]
        simp only [Act.put, List.setIfInBounds_toArray, List.set_cons_succ, List.set_cons_zero]
        refine Seq3.wpL_quiet rfl rfl rfl (fun K hK => ?_)
        go_big_quiet_op
        first | refine hK _ ?_ | refine ⟨_, by intros; rfl, hK _ ?_⟩
        clear hK K
        refine Seq3.wpL_nil ?_
        go_wp2_with fail
        go_ret
        exact ⟨rfl, HF14.out.trans HG1.out⟩
      case neg =>
        obtain ⟨rfl, rfl⟩ := HNF.out (fun h => hq (hcv.2 h))
        refine Seq3.wpL_held (v := .bool false) rfl rfl (fun wz hz => ?_) ?_
        · simp [go_sem, execOp, hq]
        simp only [Act.put, List.setIfInBounds_toArray, List.set_cons_succ, List.set_cons_zero]
        refine Seq3.wpL_quiet rfl rfl rfl (fun K hK => ?_)
        go_big_quiet_op
        first | refine hK _ ?_ | refine ⟨_, by intros; rfl, hK _ ?_⟩
        clear hK K
        refine Seq3.wpL_quiet rfl rfl rfl (fun K hK => ?_)
        go_big_quiet_op
        first | refine hK _ ?_ | refine ⟨_, by intros; rfl, hK _ ?_⟩
        clear hK K
        refine Seq3.wpL_held (v := .bool true) rfl rfl (fun wz hz => ?_) ?_
        · simp [go_sem, execOp]
        simp only [Act.put, List.setIfInBounds_toArray, List.set_cons_succ, List.set_cons_zero]
        refine Seq3.wpL_quiet rfl rfl rfl (fun K hK => ?_)
        go_big_quiet_op
        first | refine hK _ ?_ | refine ⟨_, by intros; rfl, hK _ ?_⟩
        clear hK K
        refine Seq3.wpL_quiet rfl rfl rfl (fun K hK => ?_)
        go_big_quiet_op
        first | refine hK _ ?_ | refine ⟨_, by intros; rfl, hK _ ?_⟩
        clear hK K
        refine Seq3.wpL_held (v := .bool true) rfl rfl (fun wz hz => ?_) ?_
        · simp [go_sem, execOp]
        simp only [Act.put, List.setIfInBounds_toArray, List.set_cons_succ, List.set_cons_zero]
        refine Seq3.wpL_held (v := .bool true) rfl rfl (fun wz hz => ?_) ?_
        · simp [go_sem, execOp]
        simp only [Act.put, List.setIfInBounds_toArray, List.set_cons_succ, List.set_cons_zero]
        refine Seq3.wpL_held (v := .bool true) rfl rfl (fun wz hz => ?_) ?_
        · simp [go_sem, execOp]
        simp only [Act.put, List.setIfInBounds_toArray, List.set_cons_succ, List.set_cons_zero]
        refine Seq3.wpL_quiet rfl rfl rfl (fun K hK => ?_)
        go_big_quiet_op
        first | refine hK _ ?_ | refine ⟨_, by intros; rfl, hK _ ?_⟩
        clear hK K
        refine Seq3.wpL_nil ?_
        go_wp2_with fail
        go_ret
        exact ⟨rfl, HF14.out.trans HG1.out⟩
  case inr =>
    obtain rfl : bp = 2 := by rw [← hb0]; rfl
    have hwr2 : wh % 3 = 1 := hwr
    have q0 := HPB14.out.cell 0
    simp only [List.getElem?_cons_zero, List.getElem?_cons_succ] at q0
    have hpl := HPB14.out.lt
    obtain ⟨g, off, rfl, -, hg, hcap, hc⟩ := HZ.out 2 (by omega)
    obtain ⟨⟨xk, xi, xt⟩, hx⟩ : ∃ x, vals[2]'(by omega) = x := ⟨_, rfl⟩
    rw [hx] at hc
    have hxk : xk = 1 := by
      have := HKK.out 2 (by omega) (by rw [tcol_len]; decide) (by decide)
      rw [hx] at this
      exact this
    subst hxk
    have hxl : xt.length ≤ 1000 := by
      have := HFI.out _ (List.getElem_mem (show 2 < vals.length by omega))
      rw [hx] at this
      exact this.2
    have HNF : Hid (xi ≠ i → b9 = false ∧ er = 0) := Lib.hid (fun h => HNE.out (fun h2 => h ((congrArg (fun z : Int × Int × B => z.2.1) hx).symm.trans h2)))
    have HXC : Hid (∀ W, Fr [] w14 W → W.cell? ⟨g, off + 6, none⟩ = some (.int .i64 1) ∧ W.cell? ⟨g, off + 7, none⟩ = some (.int .i64 xi) ∧ W.cell? ⟨g, off + 8, none⟩ = some (.string ⟨xt.toArray⟩)) := Lib.hid (fun W hW => ⟨(hW.cell (p := ⟨g, off + 6, none⟩) hg (by simp)).trans (hc 0 _ rfl), (hW.cell (p := ⟨g, off + 7, none⟩) hg (by simp)).trans (hc 1 _ rfl), (hW.cell (p := ⟨g, off + 8, none⟩) hg (by simp)).trans (hc 2 _ rfl)⟩)
    clear hc hx HNE HKK HZ hb0
    go_wp2_with fail
    go_region
    all_goals
      go_upto_region 17 with fail
      have HG0 : Hid (Fr [] w14 (w14.alloc (.cells #[.int .i64 0, .int .i64 2] 3)).drew) := Lib.hid (((Fr.refl [] w14).alloc _).drew)
      generalize (w14.alloc (.cells #[.int .i64 0, .int .i64 2] 3)).drew = w15 at HG0 ⊢
      refine Seq3.wp_region_text (fun i => i != 7) (fun _ => none) (fun i => false) (fun W => Fr [] w14 W) (by kernel_rfl) (by kernel_rfl) (HG0.out.drew) ?_
      refine Seq3.wpL_quiet rfl rfl rfl (fun K hK => ?_)
      go_big_quiet_op
      first | refine hK _ ?_ | refine ⟨_, by intros; rfl, hK _ ?_⟩
      clear hK K
      refine Seq3.wpL_quiet rfl rfl rfl (fun K hK => ?_)
      go_big_quiet_op
      first | refine hK _ ?_ | refine ⟨_, by intros; rfl, hK _ ?_⟩
      clear hK K
      refine Seq3.wpL_held (v := .int .i64 2) rfl rfl (fun wz hz => ?_) ?_
      · have l0 := (HPB14.out.keep hz (by simp)).cell 0
        simp [go_sem, execOp, l0]
      simp only [Act.put, List.setIfInBounds_toArray, List.set_cons_succ, List.set_cons_zero]
      refine Seq3.wpL_quiet rfl rfl rfl (fun K hK => ?_)
      go_big_quiet_op
      first | refine hK _ ?_ | refine ⟨_, by intros; rfl, hK _ ?_⟩
      clear hK K
      refine Seq3.wpL_held (v := .agg #[.int .i64 1, .int .i64 xi, .string ⟨xt.toArray⟩]) rfl rfl (fun wz hz => ?_) ?_
      · have l0 := (HXC.out _ hz).1
        have l1 := (HXC.out _ hz).2.1
        have l2 := (HXC.out _ hz).2.2
        simp [go_sem, execOp, l0, l1, l2]
      simp only [Act.put, List.setIfInBounds_toArray, List.set_cons_succ, List.set_cons_zero]
      refine Seq3.wpL_quiet rfl rfl rfl (fun K hK => ?_)
      go_big_quiet_op
      first | refine hK _ ?_ | refine ⟨_, by intros; rfl, hK _ ?_⟩
      clear hK K
      refine Seq3.wpL_held (v := .agg #[.int .i64 1, .int .i64 i, .string ⟨t.toArray⟩]) rfl rfl (fun wz hz => ?_) ?_
      · have l0 := (HPB14.out.keep hz (by simp)).cell 1
        have l1 := (HPB14.out.keep hz (by simp)).cell 2
        have l2 := (HPB14.out.keep hz (by simp)).cell 3
        simp [go_sem, execOp, l0, l1, l2]
      simp only [Act.put, List.setIfInBounds_toArray, List.set_cons_succ, List.set_cons_zero]
      refine Seq3.wpL_call rfl rfl (by first | kernel_rfl | simp [go_sem, execOp]) (cvalue_any 1 xi 1 i xt t hxl hil w15.drew) ?_
      rintro e w16 ⟨⟨cv, rfl, hcv⟩, hf16⟩
      have HG1 := Lib.hid (HG0.out.drew.trans hf16)
      have hcv := hcv rfl rfl
      clear hf16
      refine ⟨_, rfl, HG1.out, ?_⟩
      simp only [Act.put, List.setIfInBounds_toArray, List.set_cons_succ, List.set_cons_zero]
      by_cases hq : cv = 0
      case pos =>
        subst hq
        refine Seq3.wpL_held (v := .bool true) rfl rfl (fun wz hz => ?_) ?_
        · simp [go_sem, execOp]
        simp only [Act.put, List.setIfInBounds_toArray, List.set_cons_succ, List.set_cons_zero]
        refine Seq3.wpL_quiet rfl rfl rfl (fun K hK => ?_)
        go_big_quiet_op
        first | refine hK _ ?_ | refine ⟨_, by intros; rfl, hK _ ?_⟩
        clear hK K
        refine Seq3.wpL_skip (HG1.out) rfl ?_
        simp only [Act.put, List.setIfInBounds_toArray, List.set_cons_succ, List.set_cons_zero]
        refine Seq3.wpL_skip (HG1.out) rfl ?_
        simp only [Act.put, List.setIfInBounds_toArray, List.set_cons_succ, List.set_cons_zero]
        refine Seq3.wpL_skip (HG1.out) rfl ?_
        simp only [Act.put, List.setIfInBounds_toArray, List.set_cons_succ, List.set_cons_zero]
        refine Seq3.wpL_skip (HG1.out) rfl ?_
        simp only [Act.put, List.setIfInBounds_toArray, List.set_cons_succ, List.set_cons_zero]
        refine Seq3.wpL_skip (HG1.out) rfl ?_
        simp only [Act.put, List.setIfInBounds_toArray, List.set_cons_succ, List.set_cons_zero]
        refine Seq3.wpL_skip (HG1.out) rfl ?_
        simp only [Act.put, List.setIfInBounds_toArray, List.set_cons_succ, List.set_cons_zero]
        refine Seq3.wpL_held (v := .bool true) rfl rfl (fun wz hz => ?_) ?_
        · simp [go_sem, execOp]
        simp only [Act.put, List.setIfInBounds_toArray, List.set_cons_succ, List.set_cons_zero]
        refine Seq3.wpL_quiet rfl rfl rfl (fun K hK => ?_)
        go_big_quiet_op
        first | refine hK _ ?_ | refine ⟨_, by intros; rfl, hK _ ?_⟩
        clear hK K
        refine Seq3.wpL_nil ?_
        go_wp2_with fail
        go_ret
        exact ⟨rfl, HF14.out.trans HG1.out⟩
      case neg =>
        obtain ⟨rfl, rfl⟩ := HNF.out (fun h => hq (hcv.2 h))
        refine Seq3.wpL_held (v := .bool false) rfl rfl (fun wz hz => ?_) ?_
        · simp [go_sem, execOp, hq]
        simp only [Act.put, List.setIfInBounds_toArray, List.set_cons_succ, List.set_cons_zero]
        refine Seq3.wpL_quiet rfl rfl rfl (fun K hK => ?_)
        go_big_quiet_op
        first | refine hK _ ?_ | refine ⟨_, by intros; rfl, hK _ ?_⟩
        clear hK K
        refine Seq3.wpL_quiet rfl rfl rfl (fun K hK => ?_)
        go_big_quiet_op
        first | refine hK _ ?_ | refine ⟨_, by intros; rfl, hK _ ?_⟩
        clear hK K
        refine Seq3.wpL_held (v := .bool true) rfl rfl (fun wz hz => ?_) ?_
        · simp [go_sem, execOp]
        simp only [Act.put, List.setIfInBounds_toArray, List.set_cons_succ, List.set_cons_zero]
        refine Seq3.wpL_quiet rfl rfl rfl (fun K hK => ?_)
        go_big_quiet_op
        first | refine hK _ ?_ | refine ⟨_, by intros; rfl, hK _ ?_⟩
        clear hK K
        refine Seq3.wpL_quiet rfl rfl rfl (fun K hK => ?_)
        go_big_quiet_op
        first | refine hK _ ?_ | refine ⟨_, by intros; rfl, hK _ ?_⟩
        clear hK K
        refine Seq3.wpL_held (v := .bool true) rfl rfl (fun wz hz => ?_) ?_
        · simp [go_sem, execOp]
        simp only [Act.put, List.setIfInBounds_toArray, List.set_cons_succ, List.set_cons_zero]
        refine Seq3.wpL_held (v := .bool true) rfl rfl (fun wz hz => ?_) ?_
        · simp [go_sem, execOp]
        simp only [Act.put, List.setIfInBounds_toArray, List.set_cons_succ, List.set_cons_zero]
        refine Seq3.wpL_held (v := .bool true) rfl rfl (fun wz hz => ?_) ?_
        · simp [go_sem, execOp]
        simp only [Act.put, List.setIfInBounds_toArray, List.set_cons_succ, List.set_cons_zero]
        refine Seq3.wpL_quiet rfl rfl rfl (fun K hK => ?_)
        go_big_quiet_op
        first | refine hK _ ?_ | refine ⟨_, by intros; rfl, hK _ ?_⟩
        clear hK K
        refine Seq3.wpL_nil ?_
        go_wp2_with fail
        go_ret
        exact ⟨rfl, HF14.out.trans HG1.out⟩
end Pn
end Go.Proofs.YtmdnhinpaflamaaDoor
