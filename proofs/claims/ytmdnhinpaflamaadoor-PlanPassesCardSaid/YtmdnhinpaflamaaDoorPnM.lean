/- plan: the laws' first question. -/
import Derived.Test.YtmdnhinpaflamaaDoorPnL
namespace Go.Proofs.YtmdnhinpaflamaaDoor
open Go.RowKit
set_option linter.unusedVariables false
set_option linter.unusedSimpArgs false
namespace Pn
open PM (Ex B Col)
open CM (Pr)
open Gn (sh)
open Px (ColS colC)
open Sh (bt bt_cat bt_size)
/-- k = 1 -/
def exK : Ex := .mk 8 0 0 [] [] [] [.mk 2 0 0 [] [] [107] [], .mk 1 1 1 [] [] [] []]
theorem wayK : wayOf ⟨Gn.tname 0, tcol 0, tix 0⟩ exK = some (0, 1, 1, []) := by decide
theorem lookK : bt (lookT (Gn.tname 0) [107] (sh (.int 1))) = ⟨#[108, 111, 111, 107, 32, 116, 46, 107, 32, 61, 32, 49]⟩ := by
  rw [show sh (.int 1) = [49] from by rw [Gn.sh_int]; decide +kernel]
  rfl
theorem field_tabs21 (a b : Value) (w : World) : (Instr.field 31 (.agg #[a, b]) 0).run Tryd.prog w = .ok a w := by kernel_rfl
theorem field_plan (a b c d : Value) (w : World) : (Instr.field 46 (.agg #[a, b, c, d]) 0).run Tryd.prog w = .ok a w := by kernel_rfl
set_option maxRecDepth 1000000 in
set_option maxHeartbeats 4000000 in
/-- begun -/
theorem begun21_any (w : World) (hE : Sw.Env w) :
    Calls Tryd.prog 7 #[] w fun e w' => e = .returned (.bool true) ∧ Fr [] w w' := by
  have HE := Lib.hid hE
  clear hE
  go_enter Tryd.func7, Tryd.ntmps7
  go_wp2_with fail
  refine (Gn.schema_any w).mono ?_
  rintro e w1 ⟨rfl, hsch, hf1⟩
  obtain ⟨a, ia, c, ic, hv, htr⟩ := tab_form (i := 0) (by decide) hsch
  obtain ⟨t0, t1, t2⟩ := tab_cells (i := 0) (by decide) hsch hv
  simp only [Nat.zero_mul, Nat.zero_add] at t0 t1 t2
  have HTR := Lib.hid htr
  have HF1 := Lib.hid hf1
  have hlt := hsch.l.lt
  clear hsch hf1 hv htr
  have hfd := fun x y w => field_tabs21 x y w
  have h1 : ∀ W, Rep.E 41 (fun _ => True) W (.mk 2 0 0 [] [] [107] []) [.int .i64 2, .int .i64 0, .int .i64 0, .string ⟨#[]⟩, .string ⟨#[]⟩, .string ⟨#[107]⟩, .slice none 0 0] := fun W => .mk 2 0 0 [] [] [107] [] _ Rep.Es.nil
  have h2 : ∀ W, Rep.E 41 (fun _ => True) W (.mk 1 1 1 [] [] [] []) [.int .i64 1, .int .i64 1, .int .i64 1, .string ⟨#[]⟩, .string ⟨#[]⟩, .string ⟨#[]⟩, .slice none 0 0] := fun W => .mk 1 1 1 [] [] [] [] _ Rep.Es.nil
  have hL : Rep.L 41 (fun _ => True) ((w1.alloc (.cells #[.string ⟨(Gn.tname 0).toArray⟩, .slice a (tcol 0).length c, .slice ia (tix 0).length ic] 27)).alloc (.cells #[.int .i64 1, .int .i64 1, .string ⟨#[]⟩] 38)) [.mk 2 0 0 [] [] [107] [], .mk 1 1 1 [] [] [] []] _ := .cons _ _ _ _ (h1 _) (.cons _ _ _ _ (h2 _) .nil)
  have hes := Gn.es_new hL trivial (by show 2 ≤ maxLen; simp [maxLen])
  rw [World.size_alloc, World.size_alloc] at hes
  have hE1 : Rep.E 41 (fun _ => True) ((((w1.alloc (.cells #[.string ⟨(Gn.tname 0).toArray⟩, .slice a (tcol 0).length c, .slice ia (tix 0).length ic] 27)).alloc (.cells #[.int .i64 1, .int .i64 1, .string ⟨#[]⟩] 38)).alloc (.cells #[.int .i64 2, .int .i64 0, .int .i64 0, .string ⟨#[]⟩, .string ⟨#[]⟩, .string ⟨#[107]⟩, .slice none 0 0, .int .i64 1, .int .i64 1, .int .i64 1, .string ⟨#[]⟩, .string ⟨#[]⟩, .string ⟨#[]⟩, .slice none 0 0] 41)).alloc (.cells #[.int .i64 8, .int .i64 0, .int .i64 0, .string ⟨#[]⟩, .string ⟨#[]⟩, .string ⟨#[]⟩, .slice (some ⟨w1.heap.size + 1 + 1, 0, none⟩) 2 2] 41)) exK [.int .i64 8, .int .i64 0, .int .i64 0, .string ⟨#[]⟩, .string ⟨#[]⟩, .string ⟨#[]⟩, .slice (some ⟨w1.heap.size + 1 + 1, 0, none⟩) 2 2] := .mk 8 0 0 [] [] [] _ _ (Rep.Es.keep ((Fr.refl [] _).alloc _) (by simp) hes)
  have hL1 : Rep.L 41 (fun _ => True) ((((w1.alloc (.cells #[.string ⟨(Gn.tname 0).toArray⟩, .slice a (tcol 0).length c, .slice ia (tix 0).length ic] 27)).alloc (.cells #[.int .i64 1, .int .i64 1, .string ⟨#[]⟩] 38)).alloc (.cells #[.int .i64 2, .int .i64 0, .int .i64 0, .string ⟨#[]⟩, .string ⟨#[]⟩, .string ⟨#[107]⟩, .slice none 0 0, .int .i64 1, .int .i64 1, .int .i64 1, .string ⟨#[]⟩, .string ⟨#[]⟩, .string ⟨#[]⟩, .slice none 0 0] 41)).alloc (.cells #[.int .i64 8, .int .i64 0, .int .i64 0, .string ⟨#[]⟩, .string ⟨#[]⟩, .string ⟨#[]⟩, .slice (some ⟨w1.heap.size + 1 + 1, 0, none⟩) 2 2] 41)) [exK] ([.int .i64 8, .int .i64 0, .int .i64 0, .string ⟨#[]⟩, .string ⟨#[]⟩, .string ⟨#[]⟩, .slice (some ⟨w1.heap.size + 1 + 1, 0, none⟩) 2 2] ++ []) := .cons _ _ _ _ hE1 .nil
  rw [List.append_nil] at hL1
  have hv := Gn.es_new hL1 trivial (by show 1 ≤ maxLen; simp [maxLen])
  rw [World.size_alloc, World.size_alloc, World.size_alloc, World.size_alloc] at hv
  have hfa : Fr [] w1 (((((w1.alloc (.cells #[.string ⟨(Gn.tname 0).toArray⟩, .slice a (tcol 0).length c, .slice ia (tix 0).length ic] 27)).alloc (.cells #[.int .i64 1, .int .i64 1, .string ⟨#[]⟩] 38)).alloc (.cells #[.int .i64 2, .int .i64 0, .int .i64 0, .string ⟨#[]⟩, .string ⟨#[]⟩, .string ⟨#[107]⟩, .slice none 0 0, .int .i64 1, .int .i64 1, .int .i64 1, .string ⟨#[]⟩, .string ⟨#[]⟩, .string ⟨#[]⟩, .slice none 0 0] 41)).alloc (.cells #[.int .i64 8, .int .i64 0, .int .i64 0, .string ⟨#[]⟩, .string ⟨#[]⟩, .string ⟨#[]⟩, .slice (some ⟨w1.heap.size + 1 + 1, 0, none⟩) 2 2] 41)).alloc (.cells #[.int .i64 8, .int .i64 0, .int .i64 0, .string ⟨#[]⟩, .string ⟨#[]⟩, .string ⟨#[]⟩, .slice (some ⟨w1.heap.size + 1 + 1, 0, none⟩) 2 2] 41)) := (((((Fr.refl [] w1).alloc _).alloc _).alloc _).alloc _).alloc _
  have hT := ((((Blk.new w1 27 [.string ⟨(Gn.tname 0).toArray⟩, .slice a (tcol 0).length c, .slice ia (tix 0).length ic]).alloc (.cells #[.int .i64 1, .int .i64 1, .string ⟨#[]⟩] 38)).alloc (.cells #[.int .i64 2, .int .i64 0, .int .i64 0, .string ⟨#[]⟩, .string ⟨#[]⟩, .string ⟨#[107]⟩, .slice none 0 0, .int .i64 1, .int .i64 1, .int .i64 1, .string ⟨#[]⟩, .string ⟨#[]⟩, .string ⟨#[]⟩, .slice none 0 0] 41)).alloc (.cells #[.int .i64 8, .int .i64 0, .int .i64 0, .string ⟨#[]⟩, .string ⟨#[]⟩, .string ⟨#[]⟩, .slice (some ⟨w1.heap.size + 1 + 1, 0, none⟩) 2 2] 41)).alloc (.cells #[.int .i64 8, .int .i64 0, .int .i64 0, .string ⟨#[]⟩, .string ⟨#[]⟩, .string ⟨#[]⟩, .slice (some ⟨w1.heap.size + 1 + 1, 0, none⟩) 2 2] 41)
  have hO := (((Blk.new (w1.alloc (.cells #[.string ⟨(Gn.tname 0).toArray⟩, .slice a (tcol 0).length c, .slice ia (tix 0).length ic] 27)) 38 [.int .i64 1, .int .i64 1, .string ⟨#[]⟩]).alloc (.cells #[.int .i64 2, .int .i64 0, .int .i64 0, .string ⟨#[]⟩, .string ⟨#[]⟩, .string ⟨#[107]⟩, .slice none 0 0, .int .i64 1, .int .i64 1, .int .i64 1, .string ⟨#[]⟩, .string ⟨#[]⟩, .string ⟨#[]⟩, .slice none 0 0] 41)).alloc (.cells #[.int .i64 8, .int .i64 0, .int .i64 0, .string ⟨#[]⟩, .string ⟨#[]⟩, .string ⟨#[]⟩, .slice (some ⟨w1.heap.size + 1 + 1, 0, none⟩) 2 2] 41)).alloc (.cells #[.int .i64 8, .int .i64 0, .int .i64 0, .string ⟨#[]⟩, .string ⟨#[]⟩, .string ⟨#[]⟩, .slice (some ⟨w1.heap.size + 1 + 1, 0, none⟩) 2 2] 41)
  rw [World.size_alloc] at hO
  have HCH := Lib.hid (choose_any (Gn.tname 0) (tcol 0) (tix 0) _ _ a ia c ic (by rw [tcol_len]; decide) (Nat.le_trans (tix_len 0) (by decide)) exK _ (((((w1.alloc (.cells #[.string ⟨(Gn.tname 0).toArray⟩, .slice a (tcol 0).length c, .slice ia (tix 0).length ic] 27)).alloc (.cells #[.int .i64 1, .int .i64 1, .string ⟨#[]⟩] 38)).alloc (.cells #[.int .i64 2, .int .i64 0, .int .i64 0, .string ⟨#[]⟩, .string ⟨#[]⟩, .string ⟨#[107]⟩, .slice none 0 0, .int .i64 1, .int .i64 1, .int .i64 1, .string ⟨#[]⟩, .string ⟨#[]⟩, .string ⟨#[]⟩, .slice none 0 0] 41)).alloc (.cells #[.int .i64 8, .int .i64 0, .int .i64 0, .string ⟨#[]⟩, .string ⟨#[]⟩, .string ⟨#[]⟩, .slice (some ⟨w1.heap.size + 1 + 1, 0, none⟩) 2 2] 41)).alloc (.cells #[.int .i64 8, .int .i64 0, .int .i64 0, .string ⟨#[]⟩, .string ⟨#[]⟩, .string ⟨#[]⟩, .slice (some ⟨w1.heap.size + 1 + 1, 0, none⟩) 2 2] 41)) (HTR.out.keep hfa (by simp)) hv)
  rw [wayK] at HCH
  have HFA := Lib.hid (HF1.out.trans hfa)
  have HT := Lib.hid hT
  have HO := Lib.hid hO
  have hca : ColS _ w1 (.slice a (tcol 0).length c) (tcol 0) := HTR.out.cols
  have HCA := Lib.hid (Px.FlatS.keep hfa (by simp) hca)
  clear h1 h2 hL hes hE1 hL1 hv hfa hT hO hca
  go_wp2_with fail
  clear hfd t0 t1 t2
  refine HCH.out.mono ?_
  rintro e w2 ⟨⟨p, k, i, t, rfl, hp⟩, hf2⟩
  simp only [Option.getD_some, Prod.mk.injEq] at hp
  obtain ⟨rfl, rfl, rfl, rfl⟩ := hp
  have HT2 := Lib.hid (HT.out.keep hf2 (by simp))
  have HO2 := Lib.hid (HO.out.keep hf2 (by simp))
  have HF2 := Lib.hid (HFA.out.trans hf2)
  have HC2 := Lib.hid (Px.FlatS.keep hf2 (by simp) HCA.out)
  clear hf2 HCH HT HO HFA
  have t0 := HT2.out.cell 0
  have t1 := HT2.out.cell 1
  have t2 := HT2.out.cell 2
  have o0 := HO2.out.cell 0
  have o1 := HO2.out.cell 1
  have o2 := HO2.out.cell 2
  simp only [List.getElem?_cons_zero, List.getElem?_cons_succ] at t0 t1 t2 o0 o1 o2
  have hl1 := HT2.out.lt
  have hl2 := HO2.out.lt
  have hn1 : ¬ w1.heap.size = w2.heap.size := by omega
  have hn2 : ¬ w1.heap.size + 1 = w2.heap.size := by omega
  go_wp2_with fail
  refine (choose_nil (Gn.tname 0) (tcol 0) (tix 0) a ia c ic _).mono ?_
  rintro e w3 ⟨⟨p, k, i, t, rfl, hp⟩, hf3⟩
  simp only [Option.getD_none, Prod.mk.injEq] at hp
  obtain ⟨rfl, rfl, rfl, rfl⟩ := hp
  have hfb := ((Fr.refl [] w2).alloc (.cells #[.int .i64 0, .int .i64 1, .int .i64 1, .string ⟨#[]⟩] 46)).trans hf3
  have HT3 := Lib.hid (HT2.out.keep hfb (by simp))
  have HP3 := Lib.hid ((Blk.new w2 46 [.int .i64 0, .int .i64 1, .int .i64 1, .string ⟨#[]⟩]).keep hf3 (by simp))
  have HF3 := Lib.hid (HF2.out.trans hfb)
  have HC3 := Lib.hid (Px.FlatS.keep hfb (by simp) HC2.out)
  clear hf3 hfb t0 t1 t2 o0 o1 o2 HT2 HO2
  have t0 := HT3.out.cell 0
  have t1 := HT3.out.cell 1
  have t2 := HT3.out.cell 2
  simp only [List.getElem?_cons_zero, List.getElem?_cons_succ] at t0 t1 t2
  obtain ⟨p0, p1, p2, p3, -, -, -, -⟩ := c4_of HP3.out
  have hx := pexplain_pos (Gn.tname 0) (tcol 0) (tix 0) _ a ia c ic 0 (by rw [tcol_len]; decide) (by rw [tcol_len]; decide) 1 1 [] _ (.int 1 (by decide)) (Nat.le_trans (tname_len 0) (by decide)) (tcol_name _) w3 HC3.out (HE.out.keep HF3.out)
  rw [show bt (lookT (Gn.tname 0) ((tcol 0)[0]'(by decide)).name (sh (.int 1))) = ⟨#[108, 111, 111, 107, 32, 116, 46, 107, 32, 61, 32, 49]⟩ from lookK, show ((0 : Nat) : Int) = 0 from rfl] at hx
  have HX := Lib.hid hx
  have hfp := fun a b c d w => field_plan a b c d w
  clear hx
  go_wp2_with fail
  refine HX.out.mono ?_
  rintro e w4 ⟨rfl, hf4⟩
  have HF4 := Lib.hid (HF3.out.trans hf4)
  clear hf4
  go_wp2_with fail
  go_ret
  exact ⟨rfl, HF4.out⟩
end Pn
end Go.Proofs.YtmdnhinpaflamaaDoor
