/- The document's parser: what is created. -/
import Derived.Test.YtmdnhinpaflamaaGreatDoorRfG
namespace Go.Proofs.YtmdnhinpaflamaaGreatDoor
open Go.RowKit
set_option linter.unusedVariables false
set_option linter.unusedSimpArgs false
namespace Rf
open LexM (Tok)
open PM (B Ex Col It PS zeroTok wordy two un colEx)
open Px (frSet ret_cell7 ret_cell13 put13 frPut13 blkPut13 c13_of kTag TagS ColS ItS SR SS StR kEx)
open Gn (Gr)
set_option maxRecDepth 1000000 in
set_option maxHeartbeats 8000000 in
theorem create_any (n : Nat) (P : Nat) (s : PS) (w : World) (h : RR w P s) (hw : Wd s) (hn : s.l.length <= n) :
  Calls Tryz.prog 61 #[.pointer (some ⟨P, 0, none⟩)] w (StO (fun d => CM.create n d) P s w) := by
 have hPl := h.lt
 have HH0 := Hd (h.alloc (.cells #[.int .i64 0, .string ⟨#[]⟩, .string ⟨#[]⟩, .slice none 0 0, .slice none 0 0, .slice none 0 0, .slice none 0 0, .string ⟨#[]⟩, .slice none 0 0, .slice none 0 0, .slice none 0 0, .bool false, .slice none 0 0] 29))
 have HD0 := Hd (Dp.refl hw)
 have HB0 := Hd (Blk.new w 29 [.int .i64 0, .string ⟨#[]⟩, .string ⟨#[]⟩, .slice none 0 0, .slice none 0 0, .slice none 0 0, .slice none 0 0, .string ⟨#[]⟩, .slice none 0 0, .slice none 0 0, .slice none 0 0, .bool false, .slice none 0 0])
 have HF0 := Hd ((Fr.refl [some P] w).alloc (.cells #[.int .i64 0, .string ⟨#[]⟩, .string ⟨#[]⟩, .slice none 0 0, .slice none 0 0, .slice none 0 0, .slice none 0 0, .string ⟨#[]⟩, .slice none 0 0, .slice none 0 0, .slice none 0 0, .bool false, .slice none 0 0] 29))
 clear h hw
 go_enter Tryz.func61, Tryz.ntmps61
 go_upto_region 1 with fail
 generalize hw0e : w.alloc (.cells #[.int .i64 0, .string ⟨#[]⟩, .string ⟨#[]⟩, .slice none 0 0, .slice none 0 0, .slice none 0 0, .slice none 0 0, .string ⟨#[]⟩, .slice none 0 0, .slice none 0 0, .slice none 0 0, .bool false, .slice none 0 0] 29) = w0 at HH0 HB0 HF0 ⊢
 clear hw0e
 have hb0 := HB0.out.lt
 have hp0 := HH0.out.lt
 have HHn21 := Hd (HH0.out.alloc (.cells #[.int .i64 0, .string ⟨#[]⟩, .string ⟨#[]⟩, .slice none 0 0, .slice none 0 0, .slice none 0 0, .slice none 0 0, .string ⟨#[]⟩, .slice none 0 0, .slice none 0 0, .slice none 0 0, .bool false, .slice none 0 0] 29))
 have HBn21 := Hd (Blk.alloc HB0.out (.cells #[.int .i64 0, .string ⟨#[]⟩, .string ⟨#[]⟩, .slice none 0 0, .slice none 0 0, .slice none 0 0, .slice none 0 0, .string ⟨#[]⟩, .slice none 0 0, .slice none 0 0, .slice none 0 0, .bool false, .slice none 0 0] 29))
 have HFn21 := Hd (HF0.out.alloc (.cells #[.int .i64 0, .string ⟨#[]⟩, .string ⟨#[]⟩, .slice none 0 0, .slice none 0 0, .slice none 0 0, .slice none 0 0, .string ⟨#[]⟩, .slice none 0 0, .slice none 0 0, .slice none 0 0, .bool false, .slice none 0 0] 29))
 have HXn21 := Hd (Blk.new w0 29 [.int .i64 0, .string ⟨#[]⟩, .string ⟨#[]⟩, .slice none 0 0, .slice none 0 0, .slice none 0 0, .slice none 0 0, .string ⟨#[]⟩, .slice none 0 0, .slice none 0 0, .slice none 0 0, .bool false, .slice none 0 0])
 clear HH0 HB0 HF0
 go_upto_region 2 with fail
 generalize w0.alloc (.cells #[.int .i64 0, .string ⟨#[]⟩, .string ⟨#[]⟩, .slice none 0 0, .slice none 0 0, .slice none 0 0, .slice none 0 0, .string ⟨#[]⟩, .slice none 0 0, .slice none 0 0, .slice none 0 0, .bool false, .slice none 0 0] 29) = wn21 at HHn21 HBn21 HFn21 HXn21 ⊢
 have hxn21 := HXn21.out.lt
 have hpn21 := HHn21.out.lt
 go_wp2_with fail
 refine (take_any P [116, 97, 98, 108, 101] s _ HHn21.out).mono ?_
 rintro e w22 ⟨rfl, h, hf⟩
 have HFt22 := Hd hf
 have HHt22 := Hd h
 clear h hf
 cases ht : taken [116, 97, 98, 108, 101] s with
 |true =>
  have HT22 := Hd ht
  have hf := HFt22.out
  have hh : RR w22 P (skip s) := by have := HHt22.out; rw [took, ht] at this; exact this
  clear ht HFt22 HHt22
  have hlt22 := skip_lt HT22.out
  have HB22 := Hd (HBn21.out.keep hf (by simp; omega))
  have HX22 := Hd (HXn21.out.keep hf (by simp; omega))
  have HF22 := Hd (HFn21.out.trans hf)
  have HH22 := Hd hh
  have HD22 := Hd (HD0.out.trans (Dp.skip HD0.out.wd))
  obtain ⟨s22, hs22⟩ : ∃ z, z = (skip s) := ⟨_, rfl⟩
  rw [<- hs22] at HH22 HD22 hlt22
  have HQ22 := Hd hs22
  clear hs22
  have hb22 := HB22.out.lt
  have hp22 := HH22.out.lt
  have hx22 := HX22.out.lt
  clear hf HHn21 HBn21 HFn21 HD0 HXn21
  clear hh
  go_wp2_with fail
  refine (name_any P s22 _ HH22.out).mono ?_
  rintro e w23 ⟨m23, rfl, h, hst, hf⟩
  have HS23 := Hd hst
  clear hst
  have HB23 := Hd (HB22.out.keep hf (by simp; omega))
  have HX23 := Hd (HX22.out.keep hf (by simp; omega))
  have HF23 := Hd (HF22.out.trans hf)
  have HH23 := Hd h
  have HD23 := Hd (HD22.out.trans (Dp.worded HD22.out.wd 1))
  obtain ⟨s23, hs23⟩ : ∃ z, z = (worded 1 s22) := ⟨_, rfl⟩
  rw [<- hs23] at HH23 HD23 HS23
  have HQ23 := Hd hs23
  clear hs23
  have hb23 := HB23.out.lt
  have hp23 := HH23.out.lt
  have hx23 := HX23.out.lt
  clear hf HH22 HB22 HF22 HD22 HX22
  clear h
  have x0_24 := HX23.out.cell 0
  have f0_24 := HX23.out.free 0
  simp only [List.getElem?_cons_zero, List.getElem?_cons_succ] at x0_24
  have x2_24 := HX23.out.cell 2
  have f2_24 := HX23.out.free 2
  simp only [List.getElem?_cons_zero, List.getElem?_cons_succ] at x2_24
  have hfs := (((Fr.refl [some w0.heap.size] w23).setCell (p := ⟨w0.heap.size, 0, none⟩) (.inl (by simp)) (.int .i64 1)).setCell (p := ⟨w0.heap.size, 2, none⟩) (.inl (by simp)) (.string ⟨m23.toArray⟩))
  have HHs24 := Hd (HH23.out.keepP hfs (fun g hg => by simp; omega))
  have HBs24 := Hd (HB23.out.keep hfs (by simp; omega))
  have HXs24 := Hd ((HX23.out.set 0 (.int .i64 1)).set 2 (.string ⟨m23.toArray⟩))
  simp only [List.set_cons_succ, List.set_cons_zero] at HXs24
  have HFs24 : Hid (Fr [some P] w ((w23.setCell ⟨w0.heap.size, 0, none⟩ (.int .i64 1)).setCell ⟨w0.heap.size, 2, none⟩ (.string ⟨m23.toArray⟩))) := Hd (HF23.out.trans' hfs (fun i hi => .inr (by simp at hi; omega)))
  have hsz24 : ((w23.setCell ⟨w0.heap.size, 0, none⟩ (.int .i64 1)).setCell ⟨w0.heap.size, 2, none⟩ (.string ⟨m23.toArray⟩)).heap.size = w23.heap.size := by simp [World.setCell]
  go_upto_region 4 with fail
  generalize ((w23.setCell ⟨w0.heap.size, 0, none⟩ (.int .i64 1)).setCell ⟨w0.heap.size, 2, none⟩ (.string ⟨m23.toArray⟩)) = wv24 at HHs24 HBs24 HXs24 HFs24 hsz24  ⊢
  clear hfs x0_24 f0_24 x2_24 f2_24 HH23 HB23 HF23 HX23
  have hxx24 := HXs24.out.lt
  have hpp24 := HHs24.out.lt
  have hbb24 := HBs24.out.lt
  go_wp2_with fail
  refine (must_any P [40] s23 _ HHs24.out).mono ?_
  rintro e w25 ⟨rfl, h, hf⟩
  have HS25 := Hd (St.must [40] s23)
  have HB25 := Hd (HBs24.out.keep hf (by simp; omega))
  have HX25 := Hd (HXs24.out.keep hf (by simp; omega))
  have HF25 := Hd (HFs24.out.trans hf)
  have HH25 := Hd h
  have HD25 := Hd (HD23.out.trans (Dp.musted HD23.out.wd [40]))
  obtain ⟨s25, hs25⟩ : ∃ z, z = (musted [40] s23) := ⟨_, rfl⟩
  rw [<- hs25] at HH25 HD25 HS25
  have HQ25 := Hd hs25
  clear hs25
  have hb25 := HB25.out.lt
  have hp25 := HH25.out.lt
  have hx25 := HX25.out.lt
  clear hf HHs24 HBs24 HFs24 HD23 HXs24
  clear h
  go_upto_region 5 with fail
  have HG0 : Hid (Gr kCol' 57 (w0.heap.size + 1) w25 (.slice none 0 0) []) := Hd Gr.nil
  have HLEN : Hid (([] : List Col).length <= 1000) := Hd (by simp)
  have hle1 := HD25.out.len
  have hown : ∀ b, (Value.ownBlock (.slice none 0 0)) = some b -> w0.heap.size < b /\ b < w25.heap.size := fun b hb => ⟨HG0.out.own b hb, HG0.out.live b hb⟩
  have HOWN := Hd hown
  have hnm : ∀ b, w.heap.size <= b -> b <= w0.heap.size -> some b ∉ [some P, Value.ownBlock (.slice none 0 0)] := fun b h1 h2 hm => by simp only [List.mem_cons, Option.some.injEq, List.not_mem_nil, or_false] at hm; rcases hm with h | h; omega; have := hown _ h.symm; omega
  have HNM := Hd hnm
  have HKEY : Hid (∀ W', Fr [some P, Value.ownBlock (.slice none 0 0)] w25 W' -> W'.cell? ⟨w0.heap.size, 3, none⟩ = some (.slice none 0 0)) := Hd (fun W' hW => (HX25.out.keep hW (hnm _ (by omega) (Nat.le_refl _))).cell 3)
  have hfq : Fr [some P, Value.ownBlock (.slice none 0 0)] w25 w25.drew := Fr.drew (Fr.refl _ w25)
  have hI0 := HKEY.out _ hfq
  clear hown hnm
  refine Seq3.wp_region_text (fun i => i != 3 && i != 4 && i != 5 && i != 7) (fun _ => none) (fun i => i == 7) (fun w' => w'.cell? ⟨w0.heap.size, 3, none⟩ = some (.slice none 0 0)) (by kernel_rfl) (by kernel_rfl) hI0 ?_
  (refine Seq3.wpL_quiet rfl rfl rfl (fun K hK => ?_); go_big_quiet_op; (first | refine hK _ ?_ | refine ⟨_, by intros; rfl, hK _ ?_⟩); clear hK K)
  refine Seq3.wpL_held (v := .slice none 0 0) rfl rfl (fun w' hI => ?_) ?_
  ·have hI' : w'.cell? ⟨w0.heap.size, 3, none⟩ = some (.slice none 0 0) := hI
   simp [go_sem, execOp, hI']
  simp only [Act.put, List.setIfInBounds_toArray, List.set_cons_succ, List.set_cons_zero]
  (refine Seq3.wpL_quiet rfl rfl rfl (fun K hK => ?_); go_big_quiet_op; (first | refine hK _ ?_ | refine ⟨_, by intros; rfl, hK _ ?_⟩); clear hK K)
  refine Seq3.wpL_call rfl rfl (by kernel_rfl) (col_any P s25 w25.drew HH25.out.drew HD25.out.wd) ?_
  rintro e wx ⟨x, sx, rfl, h, hst, hd, hf⟩
  have hf1 := hfq.trans' hf (by simp)
  refine ⟨_, rfl, HKEY.out _ hf1, ?_⟩
  simp only [Act.put, List.setIfInBounds_toArray, List.set_cons_succ, List.set_cons_zero]
  have HGx := Hd ((HG0.out.keep (Fr.drew (Fr.refl [] w25)) (by simp)).keep hf (fun g hg => by simp; omega))
  have hsx := hf.size
  simp only [World.size_drew] at hsx
  have HST26 := Hd hst
  have HDx := Hd hd
  have HRx := Hd h
  have hpx := h.lt
  clear hst hd h hf
  have hf3 := hf1.alloc (.cells #[.string ⟨x.name.toArray⟩, .int .i64 x.kind, .string ⟨x.ref.toArray⟩] 57)
  refine Seq3.wpL_val (v := .slice (some ⟨wx.heap.size, 0, none⟩) 1 1) (w' := wx.alloc (.cells #[.string ⟨x.name.toArray⟩, .int .i64 x.kind, .string ⟨x.ref.toArray⟩] 57)) rfl rfl (by simp [go_sem, execOp, Px.colC]) (HKEY.out _ hf3) ?_
  simp only [Act.put, List.setIfInBounds_toArray, List.set_cons_succ, List.set_cons_zero]
  obtain ⟨⟨cs, hRL, hROW⟩, hGO⟩ := HGx.out
  have HRL := Hd hRL
  have HROW := Hd hROW
  have HROWz := Hd (hROW.keep ((Fr.refl [] wx).alloc (.cells #[.string ⟨x.name.toArray⟩, .int .i64 x.kind, .string ⟨x.ref.toArray⟩] 57)) (by simp))
  clear hRL hROW hGO
  obtain ⟨hmx, hby⟩ := Px.lim96 (n := ([]).length) (b := 40) HLEN.out (by decide)
  obtain ⟨i0, hi, hz0, hz1, hz2⟩ := info_parts inf_col
  refine wpL_append rfl rfl _ _ 23 rfl 57 i0 (.agg #[.string ⟨#[]⟩, .int .i64 0, .string ⟨#[]⟩]) 3 40 Tryz.underlying23 hi hz0 hz1 hz2 rfl (by decide) (.slice none 0 0) ([]).length cs rfl HROWz.out ⟨wx.heap.size, 0, none⟩ 1 1 [.string ⟨x.name.toArray⟩, .int .i64 x.kind, .string ⟨x.ref.toArray⟩] rfl rfl (Lx.four_new wx 57 [.string ⟨x.name.toArray⟩, .int .i64 x.kind, .string ⟨x.ref.toArray⟩]) (by simp [Value.oneCell']) hmx hby ?_
  intro v' wv hrv hfv hov
  have hfT := hf3.trans' hfv (fun g hg => .inl (by simp only [List.mem_cons, List.not_mem_nil, or_false] at hg ⊢; exact .inr hg))
  refine ⟨.inr (HKEY.out _ hfT), ?_⟩
  simp only [Act.put, List.setIfInBounds_toArray, List.set_cons_succ, List.set_cons_zero]
  obtain ⟨a26, l26, c26, rfl⟩ := row_slice' hrv
  have hx : kCol'.E (fun b => w0.heap.size + 1 <= b /\ (Value.ownBlock (.slice none 0 0)) ≠ some b) wx x [.string ⟨x.name.toArray⟩, .int .i64 x.kind, .string ⟨x.ref.toArray⟩] := rfl
  obtain ⟨st1, _⟩ := Gr.push (x := x) HRL.out HROW.out (fun g hg => (HOWN.out g hg).1) (by omega) hx hrv hfv (by rw [World.size_alloc] at hov; exact hov)
  have HGv := Hd st1
  have HRv := Hd ((HRx.out.alloc (.cells #[.string ⟨x.name.toArray⟩, .int .i64 x.kind, .string ⟨x.ref.toArray⟩] 57)).keepP hfv (fun g hg hm => by simp only [List.mem_cons, List.not_mem_nil, or_false] at hm; have := (HOWN.out g hm.symm).1; omega))
  have HBv := Hd (HB25.out.keep hfT (HNM.out _ (Nat.le_refl _) (by omega)))
  have HXv := Hd (HX25.out.keep hfT (HNM.out _ (by omega) (Nat.le_refl _)))
  have HFv := Hd (HF25.out.trans' hfT (fun i hi => by simp only [List.mem_cons, Option.some.injEq, List.not_mem_nil, or_false] at hi ⊢; rcases hi with h | h; exact .inl h; exact .inr (by have := (HOWN.out i h.symm).1; omega)))
  have hsv := hfv.size
  simp only [World.size_alloc] at hsv
  clear hrv hfv hov hmx hby st1 HRL HROW HROWz hx
  (refine Seq3.wpL_quiet rfl rfl rfl (fun K hK => ?_); go_big_quiet_op; (first | refine hK _ ?_ | refine ⟨_, by intros; rfl, hK _ ?_⟩); clear hK K)
  have k5 := HXv.out.cell 3
  have f5 := HXv.out.free 3
  simp only [List.getElem?_cons_zero, List.getElem?_cons_succ] at k5
  refine Seq3.wpL_lasts (w' := wv.setCell ⟨w0.heap.size, 3, none⟩ (.slice a26 l26 c26)) rfl rfl rfl (by simp [go_sem, execOp, k5, f5]) ?_
  simp only [Act.put, List.setIfInBounds_toArray, List.set_cons_succ, List.set_cons_zero]
  refine Seq3.wpL_nil ?_
  have hfs := (Fr.refl [some w0.heap.size] wv).setCell (p := ⟨w0.heap.size, 3, none⟩) (.inl (by simp)) (.slice a26 l26 c26)
  have HHa26 := Hd (HRv.out.keepP hfs (fun g hg => by simp; omega))
  have HBa26 := Hd (HBv.out.keep hfs (by simp; omega))
  have HXa26 := Hd (HXv.out.set 3 (.slice a26 l26 c26))
  simp only [List.set_cons_succ, List.set_cons_zero] at HXa26
  have HFa26 := Hd (HFv.out.trans' hfs (fun i hi => .inr (by simp at hi; omega)))
  have HGa26 := Hd (HGv.out.keep hfs (fun g hg => by simp; omega))
  have HDa26 := Hd (HD25.out.trans HDx.out)
  clear hI0 hfq hf1 hf3 hfT k5 f5 hfs HKEY HOWN HNM HGx HGv HRv HBv HXv HFv HRx hi hz0 hz1 hz2
  generalize wv.setCell ⟨w0.heap.size, 3, none⟩ (.slice a26 l26 c26) = wa26 at HHa26 HBa26 HXa26 HFa26 HGa26 ⊢
  have hxa26 := HXa26.out.lt
  have hpa26 := HHa26.out.lt
  have hba26 := HBa26.out.lt
  simp only [List.nil_append] at HGa26
  have hle2 := RR.le HHa26.out
  go_wp2_with fail
  go_loopw [] (fun wr => ∃ (acc : List Col) (s' : PS) (a5 : Option Addr) (l5 c5 : Nat), Hid (∀ b s3, St (fun d => moreL (CM.col) acc) s' b s3 -> St (fun d => CM.list (CM.col)) s25 b s3) /\ Hid (Dp s s') /\ acc.length + s'.l.length <= 1001 /\ Hid (Gr kCol' 57 (w0.heap.size + 1) wr (.slice a5 l5 c5) acc) /\ Hid (RR wr P s') /\ Hid (Blk wr w0.heap.size 29 [.int .i64 1, .string ⟨#[]⟩, .string ⟨m23.toArray⟩, .slice a5 l5 c5, .slice none 0 0, .slice none 0 0, .slice none 0 0, .string ⟨#[]⟩, .slice none 0 0, .slice none 0 0, .slice none 0 0, .bool false, .slice none 0 0]) /\ Hid (Blk wr w.heap.size 29 [.int .i64 0, .string ⟨#[]⟩, .string ⟨#[]⟩, .slice none 0 0, .slice none 0 0, .slice none 0 0, .slice none 0 0, .string ⟨#[]⟩, .slice none 0 0, .slice none 0 0, .slice none 0 0, .bool false, .slice none 0 0]) /\ Hid (Fr [some P] w wr)) (fun wr => meaR P wr)
  case atStart => exact ⟨[x], sx, _, _, _, Hd (fun b s3 h => St.bnd (d := fun x d => moreL (CM.col) [x]) HST26.out h), HDa26, by simp; omega, HGa26, HHa26, HXa26, HBa26, HFa26⟩
  case round =>
   clear HGa26 HHa26 HXa26 HBa26 HFa26 HDa26 HST26
   obtain ⟨acc, s', a5, l5, c5, HK, HDr, hln, HGr, HRr, HXr, HBr, HFr⟩ := hrel
   have HMEA := Hd (meaR_of HRr.out)
   have hl1 := HXr.out.lt
   have hl2 := HBr.out.lt
   have hl3 := HRr.out.lt
   have hps := RR.pos HRr.out
   go_wp2_with fail
   refine (take_any P [44] s' _ HRr.out).mono ?_
   rintro e w27 ⟨rfl, h, hf⟩
   have HFt27 := Hd hf
   have HHt27 := Hd h
   clear h hf
   cases ht : taken [44] s' with
   |true =>
    have HG2 := Hd (HGr.out.keep HFt27.out (fun g hg => by simp; omega))
    have HT27 := Hd ht
    have hf := HFt27.out
    have hh : RR w27 P (skip s') := by have := HHt27.out; rw [took, ht] at this; exact this
    clear ht HFt27 HHt27
    have hlt27 := skip_lt HT27.out
    have HB27 := Hd (HBr.out.keep hf (by simp; omega))
    have HX27 := Hd (HXr.out.keep hf (by simp; omega))
    have HF27 := Hd (HFr.out.trans hf)
    have HH27 := Hd hh
    have HD27 := Hd (HDr.out.trans (Dp.skip HDr.out.wd))
    obtain ⟨s27, hs27⟩ : ∃ z, z = (skip s') := ⟨_, rfl⟩
    rw [<- hs27] at HH27 HD27 hlt27
    have HQ27 := Hd hs27
    clear hs27
    have hb27 := HB27.out.lt
    have hp27 := HH27.out.lt
    have hx27 := HX27.out.lt
    clear hf HRr HBr HFr HDr HXr
    clear hh
    have hle1 := HD27.out.len
    have HLEN : Hid (acc.length <= 1000) := Hd (by omega)
    go_upto_region 7 with fail
    have hown : ∀ b, (Value.ownBlock (.slice a5 l5 c5)) = some b -> w0.heap.size < b /\ b < w27.heap.size := fun b hb => ⟨HG2.out.own b hb, HG2.out.live b hb⟩
    have HOWN := Hd hown
    have hnm : ∀ b, w.heap.size <= b -> b <= w0.heap.size -> some b ∉ [some P, Value.ownBlock (.slice a5 l5 c5)] := fun b h1 h2 hm => by simp only [List.mem_cons, Option.some.injEq, List.not_mem_nil, or_false] at hm; rcases hm with h | h; omega; have := hown _ h.symm; omega
    have HNM := Hd hnm
    have HKEY : Hid (∀ W', Fr [some P, Value.ownBlock (.slice a5 l5 c5)] w27 W' -> W'.cell? ⟨w0.heap.size, 3, none⟩ = some (.slice a5 l5 c5)) := Hd (fun W' hW => (HX27.out.keep hW (hnm _ (by omega) (Nat.le_refl _))).cell 3)
    have hfq : Fr [some P, Value.ownBlock (.slice a5 l5 c5)] w27 w27.drew := Fr.drew (Fr.refl _ w27)
    have hI0 := HKEY.out _ hfq
    clear hown hnm
    refine Seq3.wp_region_text (fun i => i != 3 && i != 4 && i != 5 && i != 7) (fun _ => none) (fun i => i == 7) (fun w' => w'.cell? ⟨w0.heap.size, 3, none⟩ = some (.slice a5 l5 c5)) (by kernel_rfl) (by kernel_rfl) hI0 ?_
    (refine Seq3.wpL_quiet rfl rfl rfl (fun K hK => ?_); go_big_quiet_op; (first | refine hK _ ?_ | refine ⟨_, by intros; rfl, hK _ ?_⟩); clear hK K)
    refine Seq3.wpL_held (v := .slice a5 l5 c5) rfl rfl (fun w' hI => ?_) ?_
    ·have hI' : w'.cell? ⟨w0.heap.size, 3, none⟩ = some (.slice a5 l5 c5) := hI
     simp [go_sem, execOp, hI']
    simp only [Act.put, List.setIfInBounds_toArray, List.set_cons_succ, List.set_cons_zero]
    (refine Seq3.wpL_quiet rfl rfl rfl (fun K hK => ?_); go_big_quiet_op; (first | refine hK _ ?_ | refine ⟨_, by intros; rfl, hK _ ?_⟩); clear hK K)
    refine Seq3.wpL_call rfl rfl (by kernel_rfl) (col_any P s27 w27.drew HH27.out.drew HD27.out.wd) ?_
    rintro e wx ⟨x, sx, rfl, h, hst, hd, hf⟩
    have hf1 := hfq.trans' hf (by simp)
    refine ⟨_, rfl, HKEY.out _ hf1, ?_⟩
    simp only [Act.put, List.setIfInBounds_toArray, List.set_cons_succ, List.set_cons_zero]
    have HGx := Hd ((HG2.out.keep (Fr.drew (Fr.refl [] w27)) (by simp)).keep hf (fun g hg => by simp; omega))
    have hsx := hf.size
    simp only [World.size_drew] at hsx
    have HST28 := Hd hst
    have HDx := Hd hd
    have HRx := Hd h
    have hpx := h.lt
    clear hst hd h hf
    have hf3 := hf1.alloc (.cells #[.string ⟨x.name.toArray⟩, .int .i64 x.kind, .string ⟨x.ref.toArray⟩] 57)
    refine Seq3.wpL_val (v := .slice (some ⟨wx.heap.size, 0, none⟩) 1 1) (w' := wx.alloc (.cells #[.string ⟨x.name.toArray⟩, .int .i64 x.kind, .string ⟨x.ref.toArray⟩] 57)) rfl rfl (by simp [go_sem, execOp, Px.colC]) (HKEY.out _ hf3) ?_
    simp only [Act.put, List.setIfInBounds_toArray, List.set_cons_succ, List.set_cons_zero]
    obtain ⟨⟨cs, hRL, hROW⟩, hGO⟩ := HGx.out
    have HRL := Hd hRL
    have HROW := Hd hROW
    have HROWz := Hd (hROW.keep ((Fr.refl [] wx).alloc (.cells #[.string ⟨x.name.toArray⟩, .int .i64 x.kind, .string ⟨x.ref.toArray⟩] 57)) (by simp))
    clear hRL hROW hGO
    obtain ⟨hmx, hby⟩ := Px.lim96 (n := (acc).length) (b := 40) HLEN.out (by decide)
    obtain ⟨i0, hi, hz0, hz1, hz2⟩ := info_parts inf_col
    refine wpL_append rfl rfl _ _ 23 rfl 57 i0 (.agg #[.string ⟨#[]⟩, .int .i64 0, .string ⟨#[]⟩]) 3 40 Tryz.underlying23 hi hz0 hz1 hz2 rfl (by decide) (.slice a5 l5 c5) (acc).length cs rfl HROWz.out ⟨wx.heap.size, 0, none⟩ 1 1 [.string ⟨x.name.toArray⟩, .int .i64 x.kind, .string ⟨x.ref.toArray⟩] rfl rfl (Lx.four_new wx 57 [.string ⟨x.name.toArray⟩, .int .i64 x.kind, .string ⟨x.ref.toArray⟩]) (by simp [Value.oneCell']) hmx hby ?_
    intro v' wv hrv hfv hov
    have hfT := hf3.trans' hfv (fun g hg => .inl (by simp only [List.mem_cons, List.not_mem_nil, or_false] at hg ⊢; exact .inr hg))
    refine ⟨.inr (HKEY.out _ hfT), ?_⟩
    simp only [Act.put, List.setIfInBounds_toArray, List.set_cons_succ, List.set_cons_zero]
    obtain ⟨a28, l28, c28, rfl⟩ := row_slice' hrv
    have hx : kCol'.E (fun b => w0.heap.size + 1 <= b /\ (Value.ownBlock (.slice a5 l5 c5)) ≠ some b) wx x [.string ⟨x.name.toArray⟩, .int .i64 x.kind, .string ⟨x.ref.toArray⟩] := rfl
    obtain ⟨st1, _⟩ := Gr.push (x := x) HRL.out HROW.out (fun g hg => (HOWN.out g hg).1) (by omega) hx hrv hfv (by rw [World.size_alloc] at hov; exact hov)
    have HGv := Hd st1
    have HRv := Hd ((HRx.out.alloc (.cells #[.string ⟨x.name.toArray⟩, .int .i64 x.kind, .string ⟨x.ref.toArray⟩] 57)).keepP hfv (fun g hg hm => by simp only [List.mem_cons, List.not_mem_nil, or_false] at hm; have := (HOWN.out g hm.symm).1; omega))
    have HBv := Hd (HB27.out.keep hfT (HNM.out _ (Nat.le_refl _) (by omega)))
    have HXv := Hd (HX27.out.keep hfT (HNM.out _ (by omega) (Nat.le_refl _)))
    have HFv := Hd (HF27.out.trans' hfT (fun i hi => by simp only [List.mem_cons, Option.some.injEq, List.not_mem_nil, or_false] at hi ⊢; rcases hi with h | h; exact .inl h; exact .inr (by have := (HOWN.out i h.symm).1; omega)))
    have hsv := hfv.size
    simp only [World.size_alloc] at hsv
    clear hrv hfv hov hmx hby st1 HRL HROW HROWz hx
    (refine Seq3.wpL_quiet rfl rfl rfl (fun K hK => ?_); go_big_quiet_op; (first | refine hK _ ?_ | refine ⟨_, by intros; rfl, hK _ ?_⟩); clear hK K)
    have k5 := HXv.out.cell 3
    have f5 := HXv.out.free 3
    simp only [List.getElem?_cons_zero, List.getElem?_cons_succ] at k5
    refine Seq3.wpL_lasts (w' := wv.setCell ⟨w0.heap.size, 3, none⟩ (.slice a28 l28 c28)) rfl rfl rfl (by simp [go_sem, execOp, k5, f5]) ?_
    simp only [Act.put, List.setIfInBounds_toArray, List.set_cons_succ, List.set_cons_zero]
    refine Seq3.wpL_nil ?_
    have hfs := (Fr.refl [some w0.heap.size] wv).setCell (p := ⟨w0.heap.size, 3, none⟩) (.inl (by simp)) (.slice a28 l28 c28)
    have HHa28 := Hd (HRv.out.keepP hfs (fun g hg => by simp; omega))
    have HBa28 := Hd (HBv.out.keep hfs (by simp; omega))
    have HXa28 := Hd (HXv.out.set 3 (.slice a28 l28 c28))
    simp only [List.set_cons_succ, List.set_cons_zero] at HXa28
    have HFa28 := Hd (HFv.out.trans' hfs (fun i hi => .inr (by simp at hi; omega)))
    have HGa28 := Hd (HGv.out.keep hfs (fun g hg => by simp; omega))
    have HDa28 := Hd (HD27.out.trans HDx.out)
    clear hI0 hfq hf1 hf3 hfT k5 f5 hfs HKEY HOWN HNM HGx HGv HRv HBv HXv HFv HRx hi hz0 hz1 hz2
    generalize wv.setCell ⟨w0.heap.size, 3, none⟩ (.slice a28 l28 c28) = wa28 at HHa28 HBa28 HXa28 HFa28 HGa28 ⊢
    have hxa28 := HXa28.out.lt
    have hpa28 := HHa28.out.lt
    have hba28 := HBa28.out.lt
    have HK2 : Hid (∀ b s3, St (fun d => moreL (CM.col) (acc ++ [x])) sx b s3 -> St (fun d => CM.list (CM.col)) s25 b s3) := Hd (fun b s3 h => HK.out b s3 (St.more_next (fun d => ng_col) HT27.out (by rw [<- HQ27.out]; exact HST28.out) h))
    have hdl := HDx.out.len
    have HME : Hid (meaR P wa28 < meaR P wr) := Hd (by rw [HMEA.out, meaR_of HHa28.out]; omega)
    have hl4 : (acc ++ [x]).length + sx.l.length <= 1001 := by simp only [List.length_append, List.length_cons, List.length_nil]; omega
    go_wp2_with fail
    go_roundw
    case rel => exact ⟨acc ++ [x], sx, _, _, _, HK2, HDa28, hl4, HGa28, HHa28, HXa28, HBa28, HFa28⟩
    case measure => exact HME.out
   |false =>
    have HG2 := Hd (HGr.out.keep HFt27.out (fun g hg => by simp; omega))
    have HT27 := Hd ht
    have hf := HFt27.out
    have hh : RR w27 P s' := by have := HHt27.out; rw [took, ht] at this; exact this
    clear ht HFt27 HHt27
    have HB27 := Hd (HBr.out.keep hf (by simp; omega))
    have HX27 := Hd (HXr.out.keep hf (by simp; omega))
    have HF27 := Hd (HFr.out.trans hf)
    have HH27 := Hd hh
    have HD27 := Hd (HDr.out.trans (Dp.refl HDr.out.wd))
    have hb27 := HB27.out.lt
    have hp27 := HH27.out.lt
    have hx27 := HX27.out.lt
    clear hf HRr HBr HFr HDr HXr
    clear hh
    have HSL := Hd (HK.out acc s' (St.more_end HT27.out))
    have HV0 := Hd (Px.FlatS.mono (A' := fun b => w.heap.size < b /\ b ≠ w0.heap.size) (fun b hb => ⟨by omega, by omega⟩) (Gr.flat HG2.out))
    clear HK HG2
    go_wp2_with fail
    refine (must_any P [41] s' _ HH27.out).mono ?_
    rintro e w28 ⟨rfl, h, hf⟩
    have HS28 := Hd (St.must [41] s')
    have HB28 := Hd (HB27.out.keep hf (by simp; omega))
    have HX28 := Hd (HX27.out.keep hf (by simp; omega))
    have HV3_28 := Hd (Px.FlatS.keep hf (fun g hg => by have := hg.1; simp; omega) HV0.out)
    have HF28 := Hd (HF27.out.trans hf)
    have HH28 := Hd h
    have HD28 := Hd (HD27.out.trans (Dp.musted HD27.out.wd [41]))
    obtain ⟨s28, hs28⟩ : ∃ z, z = (musted [41] s') := ⟨_, rfl⟩
    rw [<- hs28] at HH28 HD28 HS28
    have HQ28 := Hd hs28
    clear hs28
    have hb28 := HB28.out.lt
    have hp28 := HH28.out.lt
    have hx28 := HX28.out.lt
    clear hf HH27 HB27 HF27 HD27 HX27 HV0
    clear h
    have HS := Hd (St.c_table (n := n) HT22.out HQ22.out (St.tables HS23.out HS25.out HSL.out HS28.out))
    obtain ⟨x0, x1, x2, x3, x4, x5, x6, x7, x8, x9, x10, x11, x12, f0, f1, f2, f3, f4, f5, f6, f7, f8, f9, f10, f11, f12⟩ := c13_of HX28.out
    obtain ⟨y0, y1, y2, y3, y4, y5, y6, y7, y8, y9, y10, y11, y12, k0, k1, k2, k3, k4, k5, k6, k7, k8, k9, k10, k11, k12⟩ := c13_of HB28.out
    have hRX : ¬ w0.heap.size = w.heap.size := by omega
    go_wp2_with fail
    exact bodyPost_ret (ret_cell13 rfl _ w.heap.size rfl _ _ _ _ _ _ _ _ _ _ _ _ _ _ (blkPut13 HB28.out _ _ _ _ _ _ _ _ _ _ _ _ _)) rfl ⟨.mk 1 [] m23 acc [] [] [] [] [] [] [] false [], s28, ⟨_, rfl, .mk 1 [] m23 acc [] [] [] [] [] [] [] false [] _ _ _ _ _ _ _ _ (Px.FlatS.mono (A' := fun b => w.heap.size <= b) (fun b hb => by have := hb.1; omega) (Px.FlatS.keep (frPut13 (Fr.refl [some w.heap.size] _) (.inl (by simp)) _ _ _ _ _ _ _ _ _ _ _ _ _) (fun b hb => by have := hb.1; simp; omega) HV3_28.out)) .nil Rep.Es.nil .nil Rep.Es.nil Rep.Es.nil Rep.Es.nil Px.SS.nil⟩, HH28.out.keepP (frPut13 (Fr.refl [some w.heap.size] _) (.inl (by simp)) _ _ _ _ _ _ _ _ _ _ _ _ _) (fun g hg => by simp; omega), HS.out, HD28.out, frPut13 HF28.out (.inr (Nat.le_refl _)) _ _ _ _ _ _ _ _ _ _ _ _ _⟩
 |false =>
  have HT22 := Hd ht
  have hf := HFt22.out
  have hh : RR w22 P s := by have := HHt22.out; rw [took, ht] at this; exact this
  clear ht HFt22 HHt22
  have HB22 := Hd (HBn21.out.keep hf (by simp; omega))
  have HX22 := Hd (HXn21.out.keep hf (by simp; omega))
  have HF22 := Hd (HFn21.out.trans hf)
  have HH22 := Hd hh
  have HD22 := Hd (HD0.out.trans (Dp.refl HD0.out.wd))
  have hb22 := HB22.out.lt
  have hp22 := HH22.out.lt
  have hx22 := HX22.out.lt
  clear hf HHn21 HBn21 HFn21 HD0 HXn21
  clear hh
  go_wp2_with fail
  refine (take_any P [105, 110, 100, 101, 120] s _ HH22.out).mono ?_
  rintro e w23 ⟨rfl, h, hf⟩
  have HFt23 := Hd hf
  have HHt23 := Hd h
  clear h hf
  cases ht : taken [105, 110, 100, 101, 120] s with
  |true =>
   have HT23 := Hd ht
   have hf := HFt23.out
   have hh : RR w23 P (skip s) := by have := HHt23.out; rw [took, ht] at this; exact this
   clear ht HFt23 HHt23
   have hlt23 := skip_lt HT23.out
   have HB23 := Hd (HB22.out.keep hf (by simp; omega))
   have HX23 := Hd (HX22.out.keep hf (by simp; omega))
   have HF23 := Hd (HF22.out.trans hf)
   have HH23 := Hd hh
   have HD23 := Hd (HD22.out.trans (Dp.skip HD22.out.wd))
   obtain ⟨s23, hs23⟩ : ∃ z, z = (skip s) := ⟨_, rfl⟩
   rw [<- hs23] at HH23 HD23 hlt23
   have HQ23 := Hd hs23
   clear hs23
   have hb23 := HB23.out.lt
   have hp23 := HH23.out.lt
   have hx23 := HX23.out.lt
   clear hf HH22 HB22 HF22 HD22 HX22
   clear hh
   go_wp2_with fail
   refine (must_any P [111, 110] s23 _ HH23.out).mono ?_
   rintro e w24 ⟨rfl, h, hf⟩
   have HS24 := Hd (St.must [111, 110] s23)
   have HB24 := Hd (HB23.out.keep hf (by simp; omega))
   have HX24 := Hd (HX23.out.keep hf (by simp; omega))
   have HF24 := Hd (HF23.out.trans hf)
   have HH24 := Hd h
   have HD24 := Hd (HD23.out.trans (Dp.musted HD23.out.wd [111, 110]))
   obtain ⟨s24, hs24⟩ : ∃ z, z = (musted [111, 110] s23) := ⟨_, rfl⟩
   rw [<- hs24] at HH24 HD24 HS24
   have HQ24 := Hd hs24
   clear hs24
   have hb24 := HB24.out.lt
   have hp24 := HH24.out.lt
   have hx24 := HX24.out.lt
   clear hf HH23 HB23 HF23 HD23 HX23
   clear h
   go_wp2_with fail
   refine (name_any P s24 _ HH24.out).mono ?_
   rintro e w25 ⟨m25, rfl, h, hst, hf⟩
   have HS25 := Hd hst
   clear hst
   have HB25 := Hd (HB24.out.keep hf (by simp; omega))
   have HX25 := Hd (HX24.out.keep hf (by simp; omega))
   have HF25 := Hd (HF24.out.trans hf)
   have HH25 := Hd h
   have HD25 := Hd (HD24.out.trans (Dp.worded HD24.out.wd 1))
   obtain ⟨s25, hs25⟩ : ∃ z, z = (worded 1 s24) := ⟨_, rfl⟩
   rw [<- hs25] at HH25 HD25 HS25
   have HQ25 := Hd hs25
   clear hs25
   have hb25 := HB25.out.lt
   have hp25 := HH25.out.lt
   have hx25 := HX25.out.lt
   clear hf HH24 HB24 HF24 HD24 HX24
   clear h
   have x0_26 := HX25.out.cell 0
   have f0_26 := HX25.out.free 0
   simp only [List.getElem?_cons_zero, List.getElem?_cons_succ] at x0_26
   have x1_26 := HX25.out.cell 1
   have f1_26 := HX25.out.free 1
   simp only [List.getElem?_cons_zero, List.getElem?_cons_succ] at x1_26
   have hfs := (((Fr.refl [some w0.heap.size] w25).setCell (p := ⟨w0.heap.size, 0, none⟩) (.inl (by simp)) (.int .i64 2)).setCell (p := ⟨w0.heap.size, 1, none⟩) (.inl (by simp)) (.string ⟨m25.toArray⟩))
   have HHs26 := Hd (HH25.out.keepP hfs (fun g hg => by simp; omega))
   have HBs26 := Hd (HB25.out.keep hfs (by simp; omega))
   have HXs26 := Hd ((HX25.out.set 0 (.int .i64 2)).set 1 (.string ⟨m25.toArray⟩))
   simp only [List.set_cons_succ, List.set_cons_zero] at HXs26
   have HFs26 : Hid (Fr [some P] w ((w25.setCell ⟨w0.heap.size, 0, none⟩ (.int .i64 2)).setCell ⟨w0.heap.size, 1, none⟩ (.string ⟨m25.toArray⟩))) := Hd (HF25.out.trans' hfs (fun i hi => .inr (by simp at hi; omega)))
   have hsz26 : ((w25.setCell ⟨w0.heap.size, 0, none⟩ (.int .i64 2)).setCell ⟨w0.heap.size, 1, none⟩ (.string ⟨m25.toArray⟩)).heap.size = w25.heap.size := by simp [World.setCell]
   go_upto_region 13 with fail
   generalize ((w25.setCell ⟨w0.heap.size, 0, none⟩ (.int .i64 2)).setCell ⟨w0.heap.size, 1, none⟩ (.string ⟨m25.toArray⟩)) = wv26 at HHs26 HBs26 HXs26 HFs26 hsz26  ⊢
   clear hfs x0_26 f0_26 x1_26 f1_26 HH25 HB25 HF25 HX25
   have hxx26 := HXs26.out.lt
   have hpp26 := HHs26.out.lt
   have hbb26 := HBs26.out.lt
   go_wp2_with fail
   refine (must_any P [40] s25 _ HHs26.out).mono ?_
   rintro e w27 ⟨rfl, h, hf⟩
   have HS27 := Hd (St.must [40] s25)
   have HB27 := Hd (HBs26.out.keep hf (by simp; omega))
   have HX27 := Hd (HXs26.out.keep hf (by simp; omega))
   have HF27 := Hd (HFs26.out.trans hf)
   have HH27 := Hd h
   have HD27 := Hd (HD25.out.trans (Dp.musted HD25.out.wd [40]))
   obtain ⟨s27, hs27⟩ : ∃ z, z = (musted [40] s25) := ⟨_, rfl⟩
   rw [<- hs27] at HH27 HD27 HS27
   have HQ27 := Hd hs27
   clear hs27
   have hb27 := HB27.out.lt
   have hp27 := HH27.out.lt
   have hx27 := HX27.out.lt
   clear hf HHs26 HBs26 HFs26 HD25 HXs26
   clear h
   go_wp2_with fail
   refine (name_any P s27 _ HH27.out).mono ?_
   rintro e w28 ⟨m28, rfl, h, hst, hf⟩
   have HS28 := Hd hst
   clear hst
   have HB28 := Hd (HB27.out.keep hf (by simp; omega))
   have HX28 := Hd (HX27.out.keep hf (by simp; omega))
   have HF28 := Hd (HF27.out.trans hf)
   have HH28 := Hd h
   have HD28 := Hd (HD27.out.trans (Dp.worded HD27.out.wd 1))
   obtain ⟨s28, hs28⟩ : ∃ z, z = (worded 1 s27) := ⟨_, rfl⟩
   rw [<- hs28] at HH28 HD28 HS28
   have HQ28 := Hd hs28
   clear hs28
   have hb28 := HB28.out.lt
   have hp28 := HH28.out.lt
   have hx28 := HX28.out.lt
   clear hf HH27 HB27 HF27 HD27 HX27
   clear h
   have x2_29 := HX28.out.cell 2
   have f2_29 := HX28.out.free 2
   simp only [List.getElem?_cons_zero, List.getElem?_cons_succ] at x2_29
   have hfs := ((Fr.refl [some w0.heap.size] w28).setCell (p := ⟨w0.heap.size, 2, none⟩) (.inl (by simp)) (.string ⟨m28.toArray⟩))
   have HHs29 := Hd (HH28.out.keepP hfs (fun g hg => by simp; omega))
   have HBs29 := Hd (HB28.out.keep hfs (by simp; omega))
   have HXs29 := Hd (HX28.out.set 2 (.string ⟨m28.toArray⟩))
   simp only [List.set_cons_succ, List.set_cons_zero] at HXs29
   have HFs29 : Hid (Fr [some P] w (w28.setCell ⟨w0.heap.size, 2, none⟩ (.string ⟨m28.toArray⟩))) := Hd (HF28.out.trans' hfs (fun i hi => .inr (by simp at hi; omega)))
   have hsz29 : (w28.setCell ⟨w0.heap.size, 2, none⟩ (.string ⟨m28.toArray⟩)).heap.size = w28.heap.size := by simp [World.setCell]
   go_upto_region 15 with fail
   generalize (w28.setCell ⟨w0.heap.size, 2, none⟩ (.string ⟨m28.toArray⟩)) = wv29 at HHs29 HBs29 HXs29 HFs29 hsz29  ⊢
   clear hfs x2_29 f2_29 HH28 HB28 HF28 HX28
   have hxx29 := HXs29.out.lt
   have hpp29 := HHs29.out.lt
   have hbb29 := HBs29.out.lt
   go_wp2_with fail
   refine (must_any P [41] s28 _ HHs29.out).mono ?_
   rintro e w30 ⟨rfl, h, hf⟩
   have HS30 := Hd (St.must [41] s28)
   have HB30 := Hd (HBs29.out.keep hf (by simp; omega))
   have HX30 := Hd (HXs29.out.keep hf (by simp; omega))
   have HF30 := Hd (HFs29.out.trans hf)
   have HH30 := Hd h
   have HD30 := Hd (HD28.out.trans (Dp.musted HD28.out.wd [41]))
   obtain ⟨s30, hs30⟩ : ∃ z, z = (musted [41] s28) := ⟨_, rfl⟩
   rw [<- hs30] at HH30 HD30 HS30
   have HQ30 := Hd hs30
   clear hs30
   have hb30 := HB30.out.lt
   have hp30 := HH30.out.lt
   have hx30 := HX30.out.lt
   clear hf HHs29 HBs29 HFs29 HD28 HXs29
   clear h
   have HS := Hd (St.c_index (n := n) HT22.out HT23.out HQ23.out (St.indexes HS24.out HS25.out HS27.out HS28.out HS30.out))
   obtain ⟨x0, x1, x2, x3, x4, x5, x6, x7, x8, x9, x10, x11, x12, f0, f1, f2, f3, f4, f5, f6, f7, f8, f9, f10, f11, f12⟩ := c13_of HX30.out
   obtain ⟨y0, y1, y2, y3, y4, y5, y6, y7, y8, y9, y10, y11, y12, k0, k1, k2, k3, k4, k5, k6, k7, k8, k9, k10, k11, k12⟩ := c13_of HB30.out
   have hRX : ¬ w0.heap.size = w.heap.size := by omega
   go_wp2_with fail
   exact bodyPost_ret (ret_cell13 rfl _ w.heap.size rfl _ _ _ _ _ _ _ _ _ _ _ _ _ _ (blkPut13 HB30.out _ _ _ _ _ _ _ _ _ _ _ _ _)) rfl ⟨.mk 2 m25 m28 [] [] [] [] [] [] [] [] false [], s30, ⟨_, rfl, .mk 2 m25 m28 [] [] [] [] [] [] [] [] false [] _ _ _ _ _ _ _ _ .nil .nil Rep.Es.nil .nil Rep.Es.nil Rep.Es.nil Rep.Es.nil Px.SS.nil⟩, HH30.out.keepP (frPut13 (Fr.refl [some w.heap.size] _) (.inl (by simp)) _ _ _ _ _ _ _ _ _ _ _ _ _) (fun g hg => by simp; omega), HS.out, HD30.out, frPut13 HF30.out (.inr (Nat.le_refl _)) _ _ _ _ _ _ _ _ _ _ _ _ _⟩
  |false =>
   have HT23 := Hd ht
   have hf := HFt23.out
   have hh : RR w23 P s := by have := HHt23.out; rw [took, ht] at this; exact this
   clear ht HFt23 HHt23
   have HB23 := Hd (HB22.out.keep hf (by simp; omega))
   have HX23 := Hd (HX22.out.keep hf (by simp; omega))
   have HF23 := Hd (HF22.out.trans hf)
   have HH23 := Hd hh
   have HD23 := Hd (HD22.out.trans (Dp.refl HD22.out.wd))
   have hb23 := HB23.out.lt
   have hp23 := HH23.out.lt
   have hx23 := HX23.out.lt
   clear hf HH22 HB22 HF22 HD22 HX22
   clear hh
   go_wp2_with fail
   refine (take_any P [118, 105, 101, 119] s _ HH23.out).mono ?_
   rintro e w24 ⟨rfl, h, hf⟩
   have HFt24 := Hd hf
   have HHt24 := Hd h
   clear h hf
   cases ht : taken [118, 105, 101, 119] s with
   |true =>
    have HT24 := Hd ht
    have hf := HFt24.out
    have hh : RR w24 P (skip s) := by have := HHt24.out; rw [took, ht] at this; exact this
    clear ht HFt24 HHt24
    have hlt24 := skip_lt HT24.out
    have HB24 := Hd (HB23.out.keep hf (by simp; omega))
    have HX24 := Hd (HX23.out.keep hf (by simp; omega))
    have HF24 := Hd (HF23.out.trans hf)
    have HH24 := Hd hh
    have HD24 := Hd (HD23.out.trans (Dp.skip HD23.out.wd))
    obtain ⟨s24, hs24⟩ : ∃ z, z = (skip s) := ⟨_, rfl⟩
    rw [<- hs24] at HH24 HD24 hlt24
    have HQ24 := Hd hs24
    clear hs24
    have hb24 := HB24.out.lt
    have hp24 := HH24.out.lt
    have hx24 := HX24.out.lt
    clear hf HH23 HB23 HF23 HD23 HX23
    clear hh
    go_wp2_with fail
    refine (name_any P s24 _ HH24.out).mono ?_
    rintro e w25 ⟨m25, rfl, h, hst, hf⟩
    have HS25 := Hd hst
    clear hst
    have HB25 := Hd (HB24.out.keep hf (by simp; omega))
    have HX25 := Hd (HX24.out.keep hf (by simp; omega))
    have HF25 := Hd (HF24.out.trans hf)
    have HH25 := Hd h
    have HD25 := Hd (HD24.out.trans (Dp.worded HD24.out.wd 1))
    obtain ⟨s25, hs25⟩ : ∃ z, z = (worded 1 s24) := ⟨_, rfl⟩
    rw [<- hs25] at HH25 HD25 HS25
    have HQ25 := Hd hs25
    clear hs25
    have hb25 := HB25.out.lt
    have hp25 := HH25.out.lt
    have hx25 := HX25.out.lt
    clear hf HH24 HB24 HF24 HD24 HX24
    clear h
    have x0_26 := HX25.out.cell 0
    have f0_26 := HX25.out.free 0
    simp only [List.getElem?_cons_zero, List.getElem?_cons_succ] at x0_26
    have x2_26 := HX25.out.cell 2
    have f2_26 := HX25.out.free 2
    simp only [List.getElem?_cons_zero, List.getElem?_cons_succ] at x2_26
    have hfs := (((Fr.refl [some w0.heap.size] w25).setCell (p := ⟨w0.heap.size, 0, none⟩) (.inl (by simp)) (.int .i64 4)).setCell (p := ⟨w0.heap.size, 2, none⟩) (.inl (by simp)) (.string ⟨m25.toArray⟩))
    have HHs26 := Hd (HH25.out.keepP hfs (fun g hg => by simp; omega))
    have HBs26 := Hd (HB25.out.keep hfs (by simp; omega))
    have HXs26 := Hd ((HX25.out.set 0 (.int .i64 4)).set 2 (.string ⟨m25.toArray⟩))
    simp only [List.set_cons_succ, List.set_cons_zero] at HXs26
    have HFs26 : Hid (Fr [some P] w ((w25.setCell ⟨w0.heap.size, 0, none⟩ (.int .i64 4)).setCell ⟨w0.heap.size, 2, none⟩ (.string ⟨m25.toArray⟩))) := Hd (HF25.out.trans' hfs (fun i hi => .inr (by simp at hi; omega)))
    have hsz26 : ((w25.setCell ⟨w0.heap.size, 0, none⟩ (.int .i64 4)).setCell ⟨w0.heap.size, 2, none⟩ (.string ⟨m25.toArray⟩)).heap.size = w25.heap.size := by simp [World.setCell]
    go_upto_region 21 with fail
    generalize ((w25.setCell ⟨w0.heap.size, 0, none⟩ (.int .i64 4)).setCell ⟨w0.heap.size, 2, none⟩ (.string ⟨m25.toArray⟩)) = wv26 at HHs26 HBs26 HXs26 HFs26 hsz26  ⊢
    clear hfs x0_26 f0_26 x2_26 f2_26 HH25 HB25 HF25 HX25
    have hxx26 := HXs26.out.lt
    have hpp26 := HHs26.out.lt
    have hbb26 := HBs26.out.lt
    go_wp2_with fail
    refine (must_any P [115, 116, 114, 105, 112] s25 _ HHs26.out).mono ?_
    rintro e w27 ⟨rfl, h, hf⟩
    have HS27 := Hd (St.must [115, 116, 114, 105, 112] s25)
    have HB27 := Hd (HBs26.out.keep hf (by simp; omega))
    have HX27 := Hd (HXs26.out.keep hf (by simp; omega))
    have HF27 := Hd (HFs26.out.trans hf)
    have HH27 := Hd h
    have HD27 := Hd (HD25.out.trans (Dp.musted HD25.out.wd [115, 116, 114, 105, 112]))
    obtain ⟨s27, hs27⟩ : ∃ z, z = (musted [115, 116, 114, 105, 112] s25) := ⟨_, rfl⟩
    rw [<- hs27] at HH27 HD27 HS27
    have HQ27 := Hd hs27
    clear hs27
    have hb27 := HB27.out.lt
    have hp27 := HH27.out.lt
    have hx27 := HX27.out.lt
    clear hf HHs26 HBs26 HFs26 HD25 HXs26
    clear h
    go_wp2_with fail
    refine (is_any P [97, 115] s27 _ HH27.out).mono ?_
    rintro e w28 ⟨rfl, hf0⟩
    have hf : Fr [some P] _ w28 := hf0.mono (by simp)
    have HB28 := Hd (HB27.out.keep hf (by simp; omega))
    have HX28 := Hd (HX27.out.keep hf (by simp; omega))
    have HF28 := Hd (HF27.out.trans hf)
    have HH28 := Hd (HH27.out.keepP hf0 (by simp))
    have HD28 := Hd (HD27.out.trans (Dp.refl HD27.out.wd))
    have hb28 := HB28.out.lt
    have hp28 := HH28.out.lt
    have hx28 := HX28.out.lt
    clear hf HH27 HB27 HF27 HD27 HX27
    clear hf0
    cases hi : CM.is [97, 115] s27.l with
    |true =>
     have HI := Hd hi
     clear hi
     go_wp2_with fail
     refine (must_any P [97, 115] s27 _ HH28.out).mono ?_
     rintro e w29 ⟨rfl, h, hf⟩
     have HS29 := Hd (St.must [97, 115] s27)
     have HB29 := Hd (HB28.out.keep hf (by simp; omega))
     have HX29 := Hd (HX28.out.keep hf (by simp; omega))
     have HF29 := Hd (HF28.out.trans hf)
     have HH29 := Hd h
     have HD29 := Hd (HD28.out.trans (Dp.musted HD28.out.wd [97, 115]))
     obtain ⟨s29, hs29⟩ : ∃ z, z = (musted [97, 115] s27) := ⟨_, rfl⟩
     rw [<- hs29] at HH29 HD29 HS29
     have HQ29 := Hd hs29
     clear hs29
     have hb29 := HB29.out.lt
     have hp29 := HH29.out.lt
     have hx29 := HX29.out.lt
     clear hf HH28 HB28 HF28 HD28 HX28
     clear h
     have HTA := Hd (St.tags_no HI.out HS29.out)
     go_upto_region 26 with fail
     have x0_30 := HX29.out.cell 0
     have f0_30 := HX29.out.free 0
     simp only [List.getElem?_cons_zero, List.getElem?_cons_succ] at x0_30
     have hfs := ((Fr.refl [some w0.heap.size] w29).setCell (p := ⟨w0.heap.size, 0, none⟩) (.inl (by simp)) (.int .i64 3))
     have HHs30 := Hd (HH29.out.keepP hfs (fun g hg => by simp; omega))
     have HBs30 := Hd (HB29.out.keep hfs (by simp; omega))
     have HXs30 := Hd (HX29.out.set 0 (.int .i64 3))
     simp only [List.set_cons_succ, List.set_cons_zero] at HXs30
     have HFs30 : Hid (Fr [some P] w (w29.setCell ⟨w0.heap.size, 0, none⟩ (.int .i64 3))) := Hd (HF29.out.trans' hfs (fun i hi => .inr (by simp at hi; omega)))
     have hsz30 : (w29.setCell ⟨w0.heap.size, 0, none⟩ (.int .i64 3)).heap.size = w29.heap.size := by simp [World.setCell]
     go_upto_region 27 with fail
     generalize (w29.setCell ⟨w0.heap.size, 0, none⟩ (.int .i64 3)) = wv30 at HHs30 HBs30 HXs30 HFs30 hsz30  ⊢
     clear hfs x0_30 f0_30 HH29 HB29 HF29 HX29
     have hxx30 := HXs30.out.lt
     have hpp30 := HHs30.out.lt
     have hbb30 := HBs30.out.lt
     have hle31 : s29.l.length <= n := by have := HD29.out.len; omega
     go_wp2_with fail
     refine (selected_any n P s29 _ HHs30.out HD29.out.wd hle31).mono ?_
     rintro e w31 ⟨y, sx, hy, h, hst, hd, hf⟩
     obtain ⟨kind, table, name, join, a3, a4, a5, a6, a8, a9, a10, a12, l3, l4, l5, l6, l8, l9, l10, l12, c3, c4, c5, c6, c8, c9, c10, c12, desc, rfl, hsr⟩ := Px.st_cells hy
     have HS31 := Hd hst
     have HEy := Hd (Px.SR.mono (A' := fun b => w.heap.size < b /\ b ≠ w0.heap.size) (fun b hb => ⟨by omega, by omega⟩) hsr)
     clear hst hy hsr
     have HB31 := Hd (HBs30.out.keep hf (by simp; omega))
     have HX31 := Hd (HXs30.out.keep hf (by simp; omega))
     have HF31 := Hd (HFs30.out.trans hf)
     have HH31 := Hd h
     have HD31 := Hd (HD29.out.trans hd)
     obtain ⟨s31, hs31⟩ : ∃ z, z = sx := ⟨_, rfl⟩
     rw [<- hs31] at HH31 HD31 HS31
     have HQ31 := Hd hs31
     clear hs31
     have hb31 := HB31.out.lt
     have hp31 := HH31.out.lt
     have hx31 := HX31.out.lt
     clear hf HHs30 HBs30 HFs30 HD29 HXs30
     clear h hd
     have x_ := HX31.out.cell 12
     have f_ := HX31.out.free 12
     simp only [List.getElem?_cons_zero, List.getElem?_cons_succ] at x_
     have hfs := ((Fr.refl [some w0.heap.size] w31).setCell (p := ⟨w0.heap.size, 12, none⟩) (.inl (by simp)) (.slice (some ⟨w31.heap.size, 0, none⟩) 1 1)).alloc (.cells #[.int .i64 kind, .string ⟨table.toArray⟩, .string ⟨name.toArray⟩, .slice a3 l3 c3, .slice a4 l4 c4, .slice a5 l5 c5, .slice a6 l6 c6, .string ⟨join.toArray⟩, .slice a8 l8 c8, .slice a9 l9 c9, .slice a10 l10 c10, .bool desc, .slice a12 l12 c12] 29)
     have hsz_ : (w31.setCell ⟨w0.heap.size, 12, none⟩ (.slice (some ⟨w31.heap.size, 0, none⟩) 1 1)).heap.size = w31.heap.size := by simp [World.setCell]
     have HHe31 := Hd (HH31.out.keepP hfs (fun g hg => by simp; omega))
     have HBe31 := Hd (HB31.out.keep hfs (by simp; omega))
     have HXe31 := Hd (Blk.alloc (HX31.out.set 12 (.slice (some ⟨w31.heap.size, 0, none⟩) 1 1)) (.cells #[.int .i64 kind, .string ⟨table.toArray⟩, .string ⟨name.toArray⟩, .slice a3 l3 c3, .slice a4 l4 c4, .slice a5 l5 c5, .slice a6 l6 c6, .string ⟨join.toArray⟩, .slice a8 l8 c8, .slice a9 l9 c9, .slice a10 l10 c10, .bool desc, .slice a12 l12 c12] 29))
     simp only [List.set_cons_succ, List.set_cons_zero] at HXe31
     have HFe31 : Hid (Fr [some P] w ((w31.setCell ⟨w0.heap.size, 12, none⟩ (.slice (some ⟨w31.heap.size, 0, none⟩) 1 1)).alloc (.cells #[.int .i64 kind, .string ⟨table.toArray⟩, .string ⟨name.toArray⟩, .slice a3 l3 c3, .slice a4 l4 c4, .slice a5 l5 c5, .slice a6 l6 c6, .string ⟨join.toArray⟩, .slice a8 l8 c8, .slice a9 l9 c9, .slice a10 l10 c10, .bool desc, .slice a12 l12 c12] 29))) := Hd (HF31.out.trans' hfs (fun i hi => .inr (by simp at hi; omega)))
     have hes := ss_mk (A := fun b => w.heap.size < b /\ b ≠ w0.heap.size) (w := (w31.setCell ⟨w0.heap.size, 12, none⟩ (.slice (some ⟨w31.heap.size, 0, none⟩) 1 1))) (Px.SR.keep ((Fr.refl [some w0.heap.size] w31).setCell (p := ⟨w0.heap.size, 12, none⟩) (.inl (by simp)) (.slice (some ⟨w31.heap.size, 0, none⟩) 1 1)) (fun g hg => by have := hg.2; simp; omega) HEy.out) ⟨by rw [hsz_]; omega, by rw [hsz_]; omega⟩
     rw [hsz_] at hes
     have HVe31 := Hd hes
     have hnx_ : ¬ w0.heap.size = w31.heap.size := by omega
     have hnx2_ : w0.heap.size < w31.heap.size + 1 := by omega
     go_upto_region 29 with fail
     generalize ((w31.setCell ⟨w0.heap.size, 12, none⟩ (.slice (some ⟨w31.heap.size, 0, none⟩) 1 1)).alloc (.cells #[.int .i64 kind, .string ⟨table.toArray⟩, .string ⟨name.toArray⟩, .slice a3 l3 c3, .slice a4 l4 c4, .slice a5 l5 c5, .slice a6 l6 c6, .string ⟨join.toArray⟩, .slice a8 l8 c8, .slice a9 l9 c9, .slice a10 l10 c10, .bool desc, .slice a12 l12 c12] 29)) = we31 at HHe31 HBe31 HXe31 HFe31 HVe31  ⊢
     clear hfs hes x_ f_ HEy hsz_ HH31 HB31 HF31 HX31
     have hxe31 := HXe31.out.lt
     have hpe31 := HHe31.out.lt
     have hbe31 := HBe31.out.lt
     have HS := Hd (St.c_view (n := n) HT22.out HT23.out HT24.out HQ24.out (St.door HS25.out HS27.out HTA.out HS31.out))
     obtain ⟨x0, x1, x2, x3, x4, x5, x6, x7, x8, x9, x10, x11, x12, f0, f1, f2, f3, f4, f5, f6, f7, f8, f9, f10, f11, f12⟩ := c13_of HXe31.out
     obtain ⟨y0, y1, y2, y3, y4, y5, y6, y7, y8, y9, y10, y11, y12, k0, k1, k2, k3, k4, k5, k6, k7, k8, k9, k10, k11, k12⟩ := c13_of HBe31.out
     have hRX : ¬ w0.heap.size = w.heap.size := by omega
     go_wp2_with fail
     exact bodyPost_ret (ret_cell13 rfl _ w.heap.size rfl _ _ _ _ _ _ _ _ _ _ _ _ _ _ (blkPut13 HBe31.out _ _ _ _ _ _ _ _ _ _ _ _ _)) rfl ⟨.mk 3 [] m25 [] [] [] [] [] [] [] [] false [y], s31, ⟨_, rfl, .mk 3 [] m25 [] [] [] [] [] [] [] [] false [y] _ _ _ _ _ _ _ _ .nil .nil Rep.Es.nil .nil Rep.Es.nil Rep.Es.nil Rep.Es.nil (Px.SS.mono (A' := fun b => w.heap.size <= b) (fun b hb => by have := hb.1; omega) (Px.SS.keep (frPut13 (Fr.refl [some w.heap.size] _) (.inl (by simp)) _ _ _ _ _ _ _ _ _ _ _ _ _) (fun b hb => by have := hb.1; simp; omega) HVe31.out))⟩, HHe31.out.keepP (frPut13 (Fr.refl [some w.heap.size] _) (.inl (by simp)) _ _ _ _ _ _ _ _ _ _ _ _ _) (fun g hg => by simp; omega), HS.out, HD31.out, frPut13 HFe31.out (.inr (Nat.le_refl _)) _ _ _ _ _ _ _ _ _ _ _ _ _⟩
    |false =>
     have HI := Hd hi
     clear hi
     go_wp2_with fail
     refine (tags_any P s27 _ HH28.out HD28.out.wd).mono ?_
     rintro e w29 ⟨l29, v, sx, rfl, hv, h, hst, hd, hf⟩
     obtain ⟨a4_29, n4_29, c4_29, rfl⟩ := Px.FlatS.form hv
     have HS29 := Hd hst
     have HVw29 := Hd (Px.FlatS.mono (A' := fun b => w.heap.size < b /\ b ≠ w0.heap.size) (fun b hb => ⟨by omega, by omega⟩) hv)
     clear hst hv
     have HB29 := Hd (HB28.out.keep hf (by simp; omega))
     have HX29 := Hd (HX28.out.keep hf (by simp; omega))
     have HF29 := Hd (HF28.out.trans hf)
     have HH29 := Hd h
     have HD29 := Hd (HD28.out.trans hd)
     obtain ⟨s29, hs29⟩ : ∃ z, z = sx := ⟨_, rfl⟩
     rw [<- hs29] at HH29 HD29 HS29
     have HQ29 := Hd hs29
     clear hs29
     have hb29 := HB29.out.lt
     have hp29 := HH29.out.lt
     have hx29 := HX29.out.lt
     clear hf HH28 HB28 HF28 HD28 HX28
     clear h hd
     have x4_30 := HX29.out.cell 4
     have f4_30 := HX29.out.free 4
     simp only [List.getElem?_cons_zero, List.getElem?_cons_succ] at x4_30
     have hfs := ((Fr.refl [some w0.heap.size] w29).setCell (p := ⟨w0.heap.size, 4, none⟩) (.inl (by simp)) (.slice a4_29 n4_29 c4_29))
     have HHs30 := Hd (HH29.out.keepP hfs (fun g hg => by simp; omega))
     have HBs30 := Hd (HB29.out.keep hfs (by simp; omega))
     have HXs30 := Hd (HX29.out.set 4 (.slice a4_29 n4_29 c4_29))
     simp only [List.set_cons_succ, List.set_cons_zero] at HXs30
     have HFs30 : Hid (Fr [some P] w (w29.setCell ⟨w0.heap.size, 4, none⟩ (.slice a4_29 n4_29 c4_29))) := Hd (HF29.out.trans' hfs (fun i hi => .inr (by simp at hi; omega)))
     have hsz30 : (w29.setCell ⟨w0.heap.size, 4, none⟩ (.slice a4_29 n4_29 c4_29)).heap.size = w29.heap.size := by simp [World.setCell]
     have HVs4_30 := Hd (Px.FlatS.keep hfs (fun g hg => by have := hg.2; simp; omega) HVw29.out)
     go_upto_region 24 with fail
     generalize (w29.setCell ⟨w0.heap.size, 4, none⟩ (.slice a4_29 n4_29 c4_29)) = wv30 at HHs30 HBs30 HXs30 HFs30 hsz30 HVs4_30 ⊢
     clear hfs x4_30 f4_30 HH29 HB29 HF29 HX29 HVw29
     have hxx30 := HXs30.out.lt
     have hpp30 := HHs30.out.lt
     have hbb30 := HBs30.out.lt
     go_wp2_with fail
     refine (must_any P [97, 115] s29 _ HHs30.out).mono ?_
     rintro e w31 ⟨rfl, h, hf⟩
     have HS31 := Hd (St.must [97, 115] s29)
     have HB31 := Hd (HBs30.out.keep hf (by simp; omega))
     have HX31 := Hd (HXs30.out.keep hf (by simp; omega))
     have HV4_31 := Hd (Px.FlatS.keep hf (fun g hg => by have := hg.1; simp; omega) HVs4_30.out)
     have HF31 := Hd (HFs30.out.trans hf)
     have HH31 := Hd h
     have HD31 := Hd (HD29.out.trans (Dp.musted HD29.out.wd [97, 115]))
     obtain ⟨s31, hs31⟩ : ∃ z, z = (musted [97, 115] s29) := ⟨_, rfl⟩
     rw [<- hs31] at HH31 HD31 HS31
     have HQ31 := Hd hs31
     clear hs31
     have hb31 := HB31.out.lt
     have hp31 := HH31.out.lt
     have hx31 := HX31.out.lt
     clear hf HHs30 HBs30 HFs30 HD29 HXs30 HVs4_30
     clear h
     have HTA := Hd (St.tags_as HS29.out HI.out HS31.out)
     go_upto_region 26 with fail
     have x0_32 := HX31.out.cell 0
     have f0_32 := HX31.out.free 0
     simp only [List.getElem?_cons_zero, List.getElem?_cons_succ] at x0_32
     have hfs := ((Fr.refl [some w0.heap.size] w31).setCell (p := ⟨w0.heap.size, 0, none⟩) (.inl (by simp)) (.int .i64 3))
     have HHs32 := Hd (HH31.out.keepP hfs (fun g hg => by simp; omega))
     have HBs32 := Hd (HB31.out.keep hfs (by simp; omega))
     have HXs32 := Hd (HX31.out.set 0 (.int .i64 3))
     simp only [List.set_cons_succ, List.set_cons_zero] at HXs32
     have HFs32 : Hid (Fr [some P] w (w31.setCell ⟨w0.heap.size, 0, none⟩ (.int .i64 3))) := Hd (HF31.out.trans' hfs (fun i hi => .inr (by simp at hi; omega)))
     have hsz32 : (w31.setCell ⟨w0.heap.size, 0, none⟩ (.int .i64 3)).heap.size = w31.heap.size := by simp [World.setCell]
     have HVs4_32 := Hd (Px.FlatS.keep hfs (fun g hg => by have := hg.2; simp; omega) HV4_31.out)
     go_upto_region 27 with fail
     generalize (w31.setCell ⟨w0.heap.size, 0, none⟩ (.int .i64 3)) = wv32 at HHs32 HBs32 HXs32 HFs32 hsz32 HVs4_32 ⊢
     clear hfs x0_32 f0_32 HH31 HB31 HF31 HX31 HV4_31
     have hxx32 := HXs32.out.lt
     have hpp32 := HHs32.out.lt
     have hbb32 := HBs32.out.lt
     have hle33 : s31.l.length <= n := by have := HD31.out.len; omega
     go_wp2_with fail
     refine (selected_any n P s31 _ HHs32.out HD31.out.wd hle33).mono ?_
     rintro e w33 ⟨y, sx, hy, h, hst, hd, hf⟩
     obtain ⟨kind, table, name, join, a3, a4, a5, a6, a8, a9, a10, a12, l3, l4, l5, l6, l8, l9, l10, l12, c3, c4, c5, c6, c8, c9, c10, c12, desc, rfl, hsr⟩ := Px.st_cells hy
     have HS33 := Hd hst
     have HEy := Hd (Px.SR.mono (A' := fun b => w.heap.size < b /\ b ≠ w0.heap.size) (fun b hb => ⟨by omega, by omega⟩) hsr)
     clear hst hy hsr
     have HB33 := Hd (HBs32.out.keep hf (by simp; omega))
     have HX33 := Hd (HXs32.out.keep hf (by simp; omega))
     have HV4_33 := Hd (Px.FlatS.keep hf (fun g hg => by have := hg.1; simp; omega) HVs4_32.out)
     have HF33 := Hd (HFs32.out.trans hf)
     have HH33 := Hd h
     have HD33 := Hd (HD31.out.trans hd)
     obtain ⟨s33, hs33⟩ : ∃ z, z = sx := ⟨_, rfl⟩
     rw [<- hs33] at HH33 HD33 HS33
     have HQ33 := Hd hs33
     clear hs33
     have hb33 := HB33.out.lt
     have hp33 := HH33.out.lt
     have hx33 := HX33.out.lt
     clear hf HHs32 HBs32 HFs32 HD31 HXs32 HVs4_32
     clear h hd
     have x_ := HX33.out.cell 12
     have f_ := HX33.out.free 12
     simp only [List.getElem?_cons_zero, List.getElem?_cons_succ] at x_
     have hfs := ((Fr.refl [some w0.heap.size] w33).setCell (p := ⟨w0.heap.size, 12, none⟩) (.inl (by simp)) (.slice (some ⟨w33.heap.size, 0, none⟩) 1 1)).alloc (.cells #[.int .i64 kind, .string ⟨table.toArray⟩, .string ⟨name.toArray⟩, .slice a3 l3 c3, .slice a4 l4 c4, .slice a5 l5 c5, .slice a6 l6 c6, .string ⟨join.toArray⟩, .slice a8 l8 c8, .slice a9 l9 c9, .slice a10 l10 c10, .bool desc, .slice a12 l12 c12] 29)
     have hsz_ : (w33.setCell ⟨w0.heap.size, 12, none⟩ (.slice (some ⟨w33.heap.size, 0, none⟩) 1 1)).heap.size = w33.heap.size := by simp [World.setCell]
     have HHe33 := Hd (HH33.out.keepP hfs (fun g hg => by simp; omega))
     have HBe33 := Hd (HB33.out.keep hfs (by simp; omega))
     have HXe33 := Hd (Blk.alloc (HX33.out.set 12 (.slice (some ⟨w33.heap.size, 0, none⟩) 1 1)) (.cells #[.int .i64 kind, .string ⟨table.toArray⟩, .string ⟨name.toArray⟩, .slice a3 l3 c3, .slice a4 l4 c4, .slice a5 l5 c5, .slice a6 l6 c6, .string ⟨join.toArray⟩, .slice a8 l8 c8, .slice a9 l9 c9, .slice a10 l10 c10, .bool desc, .slice a12 l12 c12] 29))
     simp only [List.set_cons_succ, List.set_cons_zero] at HXe33
     have HFe33 : Hid (Fr [some P] w ((w33.setCell ⟨w0.heap.size, 12, none⟩ (.slice (some ⟨w33.heap.size, 0, none⟩) 1 1)).alloc (.cells #[.int .i64 kind, .string ⟨table.toArray⟩, .string ⟨name.toArray⟩, .slice a3 l3 c3, .slice a4 l4 c4, .slice a5 l5 c5, .slice a6 l6 c6, .string ⟨join.toArray⟩, .slice a8 l8 c8, .slice a9 l9 c9, .slice a10 l10 c10, .bool desc, .slice a12 l12 c12] 29))) := Hd (HF33.out.trans' hfs (fun i hi => .inr (by simp at hi; omega)))
     have hes := ss_mk (A := fun b => w.heap.size < b /\ b ≠ w0.heap.size) (w := (w33.setCell ⟨w0.heap.size, 12, none⟩ (.slice (some ⟨w33.heap.size, 0, none⟩) 1 1))) (Px.SR.keep ((Fr.refl [some w0.heap.size] w33).setCell (p := ⟨w0.heap.size, 12, none⟩) (.inl (by simp)) (.slice (some ⟨w33.heap.size, 0, none⟩) 1 1)) (fun g hg => by have := hg.2; simp; omega) HEy.out) ⟨by rw [hsz_]; omega, by rw [hsz_]; omega⟩
     rw [hsz_] at hes
     have HVe33 := Hd hes
     have HVe4_33 := Hd (Px.FlatS.keep hfs (fun g hg => by have := hg.2; simp; omega) HV4_33.out)
     have hnx_ : ¬ w0.heap.size = w33.heap.size := by omega
     have hnx2_ : w0.heap.size < w33.heap.size + 1 := by omega
     go_upto_region 29 with fail
     generalize ((w33.setCell ⟨w0.heap.size, 12, none⟩ (.slice (some ⟨w33.heap.size, 0, none⟩) 1 1)).alloc (.cells #[.int .i64 kind, .string ⟨table.toArray⟩, .string ⟨name.toArray⟩, .slice a3 l3 c3, .slice a4 l4 c4, .slice a5 l5 c5, .slice a6 l6 c6, .string ⟨join.toArray⟩, .slice a8 l8 c8, .slice a9 l9 c9, .slice a10 l10 c10, .bool desc, .slice a12 l12 c12] 29)) = we33 at HHe33 HBe33 HXe33 HFe33 HVe33 HVe4_33 ⊢
     clear hfs hes x_ f_ HEy hsz_ HH33 HB33 HF33 HX33 HV4_33
     have hxe33 := HXe33.out.lt
     have hpe33 := HHe33.out.lt
     have hbe33 := HBe33.out.lt
     have HS := Hd (St.c_view (n := n) HT22.out HT23.out HT24.out HQ24.out (St.door HS25.out HS27.out HTA.out HS33.out))
     obtain ⟨x0, x1, x2, x3, x4, x5, x6, x7, x8, x9, x10, x11, x12, f0, f1, f2, f3, f4, f5, f6, f7, f8, f9, f10, f11, f12⟩ := c13_of HXe33.out
     obtain ⟨y0, y1, y2, y3, y4, y5, y6, y7, y8, y9, y10, y11, y12, k0, k1, k2, k3, k4, k5, k6, k7, k8, k9, k10, k11, k12⟩ := c13_of HBe33.out
     have hRX : ¬ w0.heap.size = w.heap.size := by omega
     go_wp2_with fail
     exact bodyPost_ret (ret_cell13 rfl _ w.heap.size rfl _ _ _ _ _ _ _ _ _ _ _ _ _ _ (blkPut13 HBe33.out _ _ _ _ _ _ _ _ _ _ _ _ _)) rfl ⟨.mk 3 [] m25 [] l29 [] [] [] [] [] [] false [y], s33, ⟨_, rfl, .mk 3 [] m25 [] l29 [] [] [] [] [] [] false [y] _ _ _ _ _ _ _ _ .nil (Px.FlatS.mono (A' := fun b => w.heap.size <= b) (fun b hb => by have := hb.1; omega) (Px.FlatS.keep (frPut13 (Fr.refl [some w.heap.size] _) (.inl (by simp)) _ _ _ _ _ _ _ _ _ _ _ _ _) (fun b hb => by have := hb.1; simp; omega) HVe4_33.out)) Rep.Es.nil .nil Rep.Es.nil Rep.Es.nil Rep.Es.nil (Px.SS.mono (A' := fun b => w.heap.size <= b) (fun b hb => by have := hb.1; omega) (Px.SS.keep (frPut13 (Fr.refl [some w.heap.size] _) (.inl (by simp)) _ _ _ _ _ _ _ _ _ _ _ _ _) (fun b hb => by have := hb.1; simp; omega) HVe33.out))⟩, HHe33.out.keepP (frPut13 (Fr.refl [some w.heap.size] _) (.inl (by simp)) _ _ _ _ _ _ _ _ _ _ _ _ _) (fun g hg => by simp; omega), HS.out, HD33.out, frPut13 HFe33.out (.inr (Nat.le_refl _)) _ _ _ _ _ _ _ _ _ _ _ _ _⟩
   |false =>
    have HT24 := Hd ht
    have hf := HFt24.out
    have hh : RR w24 P s := by have := HHt24.out; rw [took, ht] at this; exact this
    clear ht HFt24 HHt24
    have HB24 := Hd (HB23.out.keep hf (by simp; omega))
    have HX24 := Hd (HX23.out.keep hf (by simp; omega))
    have HF24 := Hd (HF23.out.trans hf)
    have HH24 := Hd hh
    have HD24 := Hd (HD23.out.trans (Dp.refl HD23.out.wd))
    have hb24 := HB24.out.lt
    have hp24 := HH24.out.lt
    have hx24 := HX24.out.lt
    clear hf HH23 HB23 HF23 HD23 HX23
    clear hh
    go_wp2_with fail
    refine (must_any P [99, 108, 111, 115, 117, 114, 101] s _ HH24.out).mono ?_
    rintro e w25 ⟨rfl, h, hf⟩
    have HS25 := Hd (St.must [99, 108, 111, 115, 117, 114, 101] s)
    have HB25 := Hd (HB24.out.keep hf (by simp; omega))
    have HX25 := Hd (HX24.out.keep hf (by simp; omega))
    have HF25 := Hd (HF24.out.trans hf)
    have HH25 := Hd h
    have HD25 := Hd (HD24.out.trans (Dp.musted HD24.out.wd [99, 108, 111, 115, 117, 114, 101]))
    obtain ⟨s25, hs25⟩ : ∃ z, z = (musted [99, 108, 111, 115, 117, 114, 101] s) := ⟨_, rfl⟩
    rw [<- hs25] at HH25 HD25 HS25
    have HQ25 := Hd hs25
    clear hs25
    have hb25 := HB25.out.lt
    have hp25 := HH25.out.lt
    have hx25 := HX25.out.lt
    clear hf HH24 HB24 HF24 HD24 HX24
    clear h
    go_wp2_with fail
    refine (name_any P s25 _ HH25.out).mono ?_
    rintro e w26 ⟨m26, rfl, h, hst, hf⟩
    have HS26 := Hd hst
    clear hst
    have HB26 := Hd (HB25.out.keep hf (by simp; omega))
    have HX26 := Hd (HX25.out.keep hf (by simp; omega))
    have HF26 := Hd (HF25.out.trans hf)
    have HH26 := Hd h
    have HD26 := Hd (HD25.out.trans (Dp.worded HD25.out.wd 1))
    obtain ⟨s26, hs26⟩ : ∃ z, z = (worded 1 s25) := ⟨_, rfl⟩
    rw [<- hs26] at HH26 HD26 HS26
    have HQ26 := Hd hs26
    clear hs26
    have hb26 := HB26.out.lt
    have hp26 := HH26.out.lt
    have hx26 := HX26.out.lt
    clear hf HH25 HB25 HF25 HD25 HX25
    clear h
    have x0_27 := HX26.out.cell 0
    have f0_27 := HX26.out.free 0
    simp only [List.getElem?_cons_zero, List.getElem?_cons_succ] at x0_27
    have x2_27 := HX26.out.cell 2
    have f2_27 := HX26.out.free 2
    simp only [List.getElem?_cons_zero, List.getElem?_cons_succ] at x2_27
    have hfs := (((Fr.refl [some w0.heap.size] w26).setCell (p := ⟨w0.heap.size, 0, none⟩) (.inl (by simp)) (.int .i64 4)).setCell (p := ⟨w0.heap.size, 2, none⟩) (.inl (by simp)) (.string ⟨m26.toArray⟩))
    have HHs27 := Hd (HH26.out.keepP hfs (fun g hg => by simp; omega))
    have HBs27 := Hd (HB26.out.keep hfs (by simp; omega))
    have HXs27 := Hd ((HX26.out.set 0 (.int .i64 4)).set 2 (.string ⟨m26.toArray⟩))
    simp only [List.set_cons_succ, List.set_cons_zero] at HXs27
    have HFs27 : Hid (Fr [some P] w ((w26.setCell ⟨w0.heap.size, 0, none⟩ (.int .i64 4)).setCell ⟨w0.heap.size, 2, none⟩ (.string ⟨m26.toArray⟩))) := Hd (HF26.out.trans' hfs (fun i hi => .inr (by simp at hi; omega)))
    have hsz27 : ((w26.setCell ⟨w0.heap.size, 0, none⟩ (.int .i64 4)).setCell ⟨w0.heap.size, 2, none⟩ (.string ⟨m26.toArray⟩)).heap.size = w26.heap.size := by simp [World.setCell]
    go_upto_region 21 with fail
    generalize ((w26.setCell ⟨w0.heap.size, 0, none⟩ (.int .i64 4)).setCell ⟨w0.heap.size, 2, none⟩ (.string ⟨m26.toArray⟩)) = wv27 at HHs27 HBs27 HXs27 HFs27 hsz27  ⊢
    clear hfs x0_27 f0_27 x2_27 f2_27 HH26 HB26 HF26 HX26
    have hxx27 := HXs27.out.lt
    have hpp27 := HHs27.out.lt
    have hbb27 := HBs27.out.lt
    go_wp2_with fail
    refine (must_any P [115, 116, 114, 105, 112] s26 _ HHs27.out).mono ?_
    rintro e w28 ⟨rfl, h, hf⟩
    have HS28 := Hd (St.must [115, 116, 114, 105, 112] s26)
    have HB28 := Hd (HBs27.out.keep hf (by simp; omega))
    have HX28 := Hd (HXs27.out.keep hf (by simp; omega))
    have HF28 := Hd (HFs27.out.trans hf)
    have HH28 := Hd h
    have HD28 := Hd (HD26.out.trans (Dp.musted HD26.out.wd [115, 116, 114, 105, 112]))
    obtain ⟨s28, hs28⟩ : ∃ z, z = (musted [115, 116, 114, 105, 112] s26) := ⟨_, rfl⟩
    rw [<- hs28] at HH28 HD28 HS28
    have HQ28 := Hd hs28
    clear hs28
    have hb28 := HB28.out.lt
    have hp28 := HH28.out.lt
    have hx28 := HX28.out.lt
    clear hf HHs27 HBs27 HFs27 HD26 HXs27
    clear h
    go_wp2_with fail
    refine (is_any P [97, 115] s28 _ HH28.out).mono ?_
    rintro e w29 ⟨rfl, hf0⟩
    have hf : Fr [some P] _ w29 := hf0.mono (by simp)
    have HB29 := Hd (HB28.out.keep hf (by simp; omega))
    have HX29 := Hd (HX28.out.keep hf (by simp; omega))
    have HF29 := Hd (HF28.out.trans hf)
    have HH29 := Hd (HH28.out.keepP hf0 (by simp))
    have HD29 := Hd (HD28.out.trans (Dp.refl HD28.out.wd))
    have hb29 := HB29.out.lt
    have hp29 := HH29.out.lt
    have hx29 := HX29.out.lt
    clear hf HH28 HB28 HF28 HD28 HX28
    clear hf0
    cases hi : CM.is [97, 115] s28.l with
    |true =>
     have HI := Hd hi
     clear hi
     go_wp2_with fail
     refine (must_any P [97, 115] s28 _ HH29.out).mono ?_
     rintro e w30 ⟨rfl, h, hf⟩
     have HS30 := Hd (St.must [97, 115] s28)
     have HB30 := Hd (HB29.out.keep hf (by simp; omega))
     have HX30 := Hd (HX29.out.keep hf (by simp; omega))
     have HF30 := Hd (HF29.out.trans hf)
     have HH30 := Hd h
     have HD30 := Hd (HD29.out.trans (Dp.musted HD29.out.wd [97, 115]))
     obtain ⟨s30, hs30⟩ : ∃ z, z = (musted [97, 115] s28) := ⟨_, rfl⟩
     rw [<- hs30] at HH30 HD30 HS30
     have HQ30 := Hd hs30
     clear hs30
     have hb30 := HB30.out.lt
     have hp30 := HH30.out.lt
     have hx30 := HX30.out.lt
     clear hf HH29 HB29 HF29 HD29 HX29
     clear h
     have HTA := Hd (St.tags_no HI.out HS30.out)
     have hle31 : s30.l.length <= n := by have := HD30.out.len; omega
     go_wp2_with fail
     refine (writes_any n P s30 _ HH30.out HD30.out.wd hle31).mono ?_
     rintro e w31 ⟨y, sx, hy, h, hst, hd, hf⟩
     obtain ⟨kind, table, name, join, a3, a4, a5, a6, a8, a9, a10, a12, l3, l4, l5, l6, l8, l9, l10, l12, c3, c4, c5, c6, c8, c9, c10, c12, desc, rfl, hsr⟩ := Px.st_cells hy
     have HS31 := Hd hst
     have HEy := Hd (Px.SR.mono (A' := fun b => w.heap.size < b /\ b ≠ w0.heap.size) (fun b hb => ⟨by omega, by omega⟩) hsr)
     clear hst hy hsr
     have HB31 := Hd (HB30.out.keep hf (by simp; omega))
     have HX31 := Hd (HX30.out.keep hf (by simp; omega))
     have HF31 := Hd (HF30.out.trans hf)
     have HH31 := Hd h
     have HD31 := Hd (HD30.out.trans hd)
     obtain ⟨s31, hs31⟩ : ∃ z, z = sx := ⟨_, rfl⟩
     rw [<- hs31] at HH31 HD31 HS31
     have HQ31 := Hd hs31
     clear hs31
     have hb31 := HB31.out.lt
     have hp31 := HH31.out.lt
     have hx31 := HX31.out.lt
     clear hf HH30 HB30 HF30 HD30 HX30
     clear h hd
     have x_ := HX31.out.cell 12
     have f_ := HX31.out.free 12
     simp only [List.getElem?_cons_zero, List.getElem?_cons_succ] at x_
     have hfs := ((Fr.refl [some w0.heap.size] w31).setCell (p := ⟨w0.heap.size, 12, none⟩) (.inl (by simp)) (.slice (some ⟨w31.heap.size, 0, none⟩) 1 1)).alloc (.cells #[.int .i64 kind, .string ⟨table.toArray⟩, .string ⟨name.toArray⟩, .slice a3 l3 c3, .slice a4 l4 c4, .slice a5 l5 c5, .slice a6 l6 c6, .string ⟨join.toArray⟩, .slice a8 l8 c8, .slice a9 l9 c9, .slice a10 l10 c10, .bool desc, .slice a12 l12 c12] 29)
     have hsz_ : (w31.setCell ⟨w0.heap.size, 12, none⟩ (.slice (some ⟨w31.heap.size, 0, none⟩) 1 1)).heap.size = w31.heap.size := by simp [World.setCell]
     have HHe31 := Hd (HH31.out.keepP hfs (fun g hg => by simp; omega))
     have HBe31 := Hd (HB31.out.keep hfs (by simp; omega))
     have HXe31 := Hd (Blk.alloc (HX31.out.set 12 (.slice (some ⟨w31.heap.size, 0, none⟩) 1 1)) (.cells #[.int .i64 kind, .string ⟨table.toArray⟩, .string ⟨name.toArray⟩, .slice a3 l3 c3, .slice a4 l4 c4, .slice a5 l5 c5, .slice a6 l6 c6, .string ⟨join.toArray⟩, .slice a8 l8 c8, .slice a9 l9 c9, .slice a10 l10 c10, .bool desc, .slice a12 l12 c12] 29))
     simp only [List.set_cons_succ, List.set_cons_zero] at HXe31
     have HFe31 : Hid (Fr [some P] w ((w31.setCell ⟨w0.heap.size, 12, none⟩ (.slice (some ⟨w31.heap.size, 0, none⟩) 1 1)).alloc (.cells #[.int .i64 kind, .string ⟨table.toArray⟩, .string ⟨name.toArray⟩, .slice a3 l3 c3, .slice a4 l4 c4, .slice a5 l5 c5, .slice a6 l6 c6, .string ⟨join.toArray⟩, .slice a8 l8 c8, .slice a9 l9 c9, .slice a10 l10 c10, .bool desc, .slice a12 l12 c12] 29))) := Hd (HF31.out.trans' hfs (fun i hi => .inr (by simp at hi; omega)))
     have hes := ss_mk (A := fun b => w.heap.size < b /\ b ≠ w0.heap.size) (w := (w31.setCell ⟨w0.heap.size, 12, none⟩ (.slice (some ⟨w31.heap.size, 0, none⟩) 1 1))) (Px.SR.keep ((Fr.refl [some w0.heap.size] w31).setCell (p := ⟨w0.heap.size, 12, none⟩) (.inl (by simp)) (.slice (some ⟨w31.heap.size, 0, none⟩) 1 1)) (fun g hg => by have := hg.2; simp; omega) HEy.out) ⟨by rw [hsz_]; omega, by rw [hsz_]; omega⟩
     rw [hsz_] at hes
     have HVe31 := Hd hes
     have hnx_ : ¬ w0.heap.size = w31.heap.size := by omega
     have hnx2_ : w0.heap.size < w31.heap.size + 1 := by omega
     go_upto_region 29 with fail
     generalize ((w31.setCell ⟨w0.heap.size, 12, none⟩ (.slice (some ⟨w31.heap.size, 0, none⟩) 1 1)).alloc (.cells #[.int .i64 kind, .string ⟨table.toArray⟩, .string ⟨name.toArray⟩, .slice a3 l3 c3, .slice a4 l4 c4, .slice a5 l5 c5, .slice a6 l6 c6, .string ⟨join.toArray⟩, .slice a8 l8 c8, .slice a9 l9 c9, .slice a10 l10 c10, .bool desc, .slice a12 l12 c12] 29)) = we31 at HHe31 HBe31 HXe31 HFe31 HVe31  ⊢
     clear hfs hes x_ f_ HEy hsz_ HH31 HB31 HF31 HX31
     have hxe31 := HXe31.out.lt
     have hpe31 := HHe31.out.lt
     have hbe31 := HBe31.out.lt
     have HS := Hd (St.c_closure (n := n) HT22.out HT23.out HT24.out HS25.out (St.door HS26.out HS28.out HTA.out HS31.out))
     obtain ⟨x0, x1, x2, x3, x4, x5, x6, x7, x8, x9, x10, x11, x12, f0, f1, f2, f3, f4, f5, f6, f7, f8, f9, f10, f11, f12⟩ := c13_of HXe31.out
     obtain ⟨y0, y1, y2, y3, y4, y5, y6, y7, y8, y9, y10, y11, y12, k0, k1, k2, k3, k4, k5, k6, k7, k8, k9, k10, k11, k12⟩ := c13_of HBe31.out
     have hRX : ¬ w0.heap.size = w.heap.size := by omega
     go_wp2_with fail
     exact bodyPost_ret (ret_cell13 rfl _ w.heap.size rfl _ _ _ _ _ _ _ _ _ _ _ _ _ _ (blkPut13 HBe31.out _ _ _ _ _ _ _ _ _ _ _ _ _)) rfl ⟨.mk 4 [] m26 [] [] [] [] [] [] [] [] false [y], s31, ⟨_, rfl, .mk 4 [] m26 [] [] [] [] [] [] [] [] false [y] _ _ _ _ _ _ _ _ .nil .nil Rep.Es.nil .nil Rep.Es.nil Rep.Es.nil Rep.Es.nil (Px.SS.mono (A' := fun b => w.heap.size <= b) (fun b hb => by have := hb.1; omega) (Px.SS.keep (frPut13 (Fr.refl [some w.heap.size] _) (.inl (by simp)) _ _ _ _ _ _ _ _ _ _ _ _ _) (fun b hb => by have := hb.1; simp; omega) HVe31.out))⟩, HHe31.out.keepP (frPut13 (Fr.refl [some w.heap.size] _) (.inl (by simp)) _ _ _ _ _ _ _ _ _ _ _ _ _) (fun g hg => by simp; omega), HS.out, HD31.out, frPut13 HFe31.out (.inr (Nat.le_refl _)) _ _ _ _ _ _ _ _ _ _ _ _ _⟩
    |false =>
     have HI := Hd hi
     clear hi
     go_wp2_with fail
     refine (tags_any P s28 _ HH29.out HD29.out.wd).mono ?_
     rintro e w30 ⟨l30, v, sx, rfl, hv, h, hst, hd, hf⟩
     obtain ⟨a4_30, n4_30, c4_30, rfl⟩ := Px.FlatS.form hv
     have HS30 := Hd hst
     have HVw30 := Hd (Px.FlatS.mono (A' := fun b => w.heap.size < b /\ b ≠ w0.heap.size) (fun b hb => ⟨by omega, by omega⟩) hv)
     clear hst hv
     have HB30 := Hd (HB29.out.keep hf (by simp; omega))
     have HX30 := Hd (HX29.out.keep hf (by simp; omega))
     have HF30 := Hd (HF29.out.trans hf)
     have HH30 := Hd h
     have HD30 := Hd (HD29.out.trans hd)
     obtain ⟨s30, hs30⟩ : ∃ z, z = sx := ⟨_, rfl⟩
     rw [<- hs30] at HH30 HD30 HS30
     have HQ30 := Hd hs30
     clear hs30
     have hb30 := HB30.out.lt
     have hp30 := HH30.out.lt
     have hx30 := HX30.out.lt
     clear hf HH29 HB29 HF29 HD29 HX29
     clear h hd
     have x4_31 := HX30.out.cell 4
     have f4_31 := HX30.out.free 4
     simp only [List.getElem?_cons_zero, List.getElem?_cons_succ] at x4_31
     have hfs := ((Fr.refl [some w0.heap.size] w30).setCell (p := ⟨w0.heap.size, 4, none⟩) (.inl (by simp)) (.slice a4_30 n4_30 c4_30))
     have HHs31 := Hd (HH30.out.keepP hfs (fun g hg => by simp; omega))
     have HBs31 := Hd (HB30.out.keep hfs (by simp; omega))
     have HXs31 := Hd (HX30.out.set 4 (.slice a4_30 n4_30 c4_30))
     simp only [List.set_cons_succ, List.set_cons_zero] at HXs31
     have HFs31 : Hid (Fr [some P] w (w30.setCell ⟨w0.heap.size, 4, none⟩ (.slice a4_30 n4_30 c4_30))) := Hd (HF30.out.trans' hfs (fun i hi => .inr (by simp at hi; omega)))
     have hsz31 : (w30.setCell ⟨w0.heap.size, 4, none⟩ (.slice a4_30 n4_30 c4_30)).heap.size = w30.heap.size := by simp [World.setCell]
     have HVs4_31 := Hd (Px.FlatS.keep hfs (fun g hg => by have := hg.2; simp; omega) HVw30.out)
     go_upto_region 24 with fail
     generalize (w30.setCell ⟨w0.heap.size, 4, none⟩ (.slice a4_30 n4_30 c4_30)) = wv31 at HHs31 HBs31 HXs31 HFs31 hsz31 HVs4_31 ⊢
     clear hfs x4_31 f4_31 HH30 HB30 HF30 HX30 HVw30
     have hxx31 := HXs31.out.lt
     have hpp31 := HHs31.out.lt
     have hbb31 := HBs31.out.lt
     go_wp2_with fail
     refine (must_any P [97, 115] s30 _ HHs31.out).mono ?_
     rintro e w32 ⟨rfl, h, hf⟩
     have HS32 := Hd (St.must [97, 115] s30)
     have HB32 := Hd (HBs31.out.keep hf (by simp; omega))
     have HX32 := Hd (HXs31.out.keep hf (by simp; omega))
     have HV4_32 := Hd (Px.FlatS.keep hf (fun g hg => by have := hg.1; simp; omega) HVs4_31.out)
     have HF32 := Hd (HFs31.out.trans hf)
     have HH32 := Hd h
     have HD32 := Hd (HD30.out.trans (Dp.musted HD30.out.wd [97, 115]))
     obtain ⟨s32, hs32⟩ : ∃ z, z = (musted [97, 115] s30) := ⟨_, rfl⟩
     rw [<- hs32] at HH32 HD32 HS32
     have HQ32 := Hd hs32
     clear hs32
     have hb32 := HB32.out.lt
     have hp32 := HH32.out.lt
     have hx32 := HX32.out.lt
     clear hf HHs31 HBs31 HFs31 HD30 HXs31 HVs4_31
     clear h
     have HTA := Hd (St.tags_as HS30.out HI.out HS32.out)
     have hle33 : s32.l.length <= n := by have := HD32.out.len; omega
     go_wp2_with fail
     refine (writes_any n P s32 _ HH32.out HD32.out.wd hle33).mono ?_
     rintro e w33 ⟨y, sx, hy, h, hst, hd, hf⟩
     obtain ⟨kind, table, name, join, a3, a4, a5, a6, a8, a9, a10, a12, l3, l4, l5, l6, l8, l9, l10, l12, c3, c4, c5, c6, c8, c9, c10, c12, desc, rfl, hsr⟩ := Px.st_cells hy
     have HS33 := Hd hst
     have HEy := Hd (Px.SR.mono (A' := fun b => w.heap.size < b /\ b ≠ w0.heap.size) (fun b hb => ⟨by omega, by omega⟩) hsr)
     clear hst hy hsr
     have HB33 := Hd (HB32.out.keep hf (by simp; omega))
     have HX33 := Hd (HX32.out.keep hf (by simp; omega))
     have HV4_33 := Hd (Px.FlatS.keep hf (fun g hg => by have := hg.1; simp; omega) HV4_32.out)
     have HF33 := Hd (HF32.out.trans hf)
     have HH33 := Hd h
     have HD33 := Hd (HD32.out.trans hd)
     obtain ⟨s33, hs33⟩ : ∃ z, z = sx := ⟨_, rfl⟩
     rw [<- hs33] at HH33 HD33 HS33
     have HQ33 := Hd hs33
     clear hs33
     have hb33 := HB33.out.lt
     have hp33 := HH33.out.lt
     have hx33 := HX33.out.lt
     clear hf HH32 HB32 HF32 HD32 HX32 HV4_32
     clear h hd
     have x_ := HX33.out.cell 12
     have f_ := HX33.out.free 12
     simp only [List.getElem?_cons_zero, List.getElem?_cons_succ] at x_
     have hfs := ((Fr.refl [some w0.heap.size] w33).setCell (p := ⟨w0.heap.size, 12, none⟩) (.inl (by simp)) (.slice (some ⟨w33.heap.size, 0, none⟩) 1 1)).alloc (.cells #[.int .i64 kind, .string ⟨table.toArray⟩, .string ⟨name.toArray⟩, .slice a3 l3 c3, .slice a4 l4 c4, .slice a5 l5 c5, .slice a6 l6 c6, .string ⟨join.toArray⟩, .slice a8 l8 c8, .slice a9 l9 c9, .slice a10 l10 c10, .bool desc, .slice a12 l12 c12] 29)
     have hsz_ : (w33.setCell ⟨w0.heap.size, 12, none⟩ (.slice (some ⟨w33.heap.size, 0, none⟩) 1 1)).heap.size = w33.heap.size := by simp [World.setCell]
     have HHe33 := Hd (HH33.out.keepP hfs (fun g hg => by simp; omega))
     have HBe33 := Hd (HB33.out.keep hfs (by simp; omega))
     have HXe33 := Hd (Blk.alloc (HX33.out.set 12 (.slice (some ⟨w33.heap.size, 0, none⟩) 1 1)) (.cells #[.int .i64 kind, .string ⟨table.toArray⟩, .string ⟨name.toArray⟩, .slice a3 l3 c3, .slice a4 l4 c4, .slice a5 l5 c5, .slice a6 l6 c6, .string ⟨join.toArray⟩, .slice a8 l8 c8, .slice a9 l9 c9, .slice a10 l10 c10, .bool desc, .slice a12 l12 c12] 29))
     simp only [List.set_cons_succ, List.set_cons_zero] at HXe33
     have HFe33 : Hid (Fr [some P] w ((w33.setCell ⟨w0.heap.size, 12, none⟩ (.slice (some ⟨w33.heap.size, 0, none⟩) 1 1)).alloc (.cells #[.int .i64 kind, .string ⟨table.toArray⟩, .string ⟨name.toArray⟩, .slice a3 l3 c3, .slice a4 l4 c4, .slice a5 l5 c5, .slice a6 l6 c6, .string ⟨join.toArray⟩, .slice a8 l8 c8, .slice a9 l9 c9, .slice a10 l10 c10, .bool desc, .slice a12 l12 c12] 29))) := Hd (HF33.out.trans' hfs (fun i hi => .inr (by simp at hi; omega)))
     have hes := ss_mk (A := fun b => w.heap.size < b /\ b ≠ w0.heap.size) (w := (w33.setCell ⟨w0.heap.size, 12, none⟩ (.slice (some ⟨w33.heap.size, 0, none⟩) 1 1))) (Px.SR.keep ((Fr.refl [some w0.heap.size] w33).setCell (p := ⟨w0.heap.size, 12, none⟩) (.inl (by simp)) (.slice (some ⟨w33.heap.size, 0, none⟩) 1 1)) (fun g hg => by have := hg.2; simp; omega) HEy.out) ⟨by rw [hsz_]; omega, by rw [hsz_]; omega⟩
     rw [hsz_] at hes
     have HVe33 := Hd hes
     have HVe4_33 := Hd (Px.FlatS.keep hfs (fun g hg => by have := hg.2; simp; omega) HV4_33.out)
     have hnx_ : ¬ w0.heap.size = w33.heap.size := by omega
     have hnx2_ : w0.heap.size < w33.heap.size + 1 := by omega
     go_upto_region 29 with fail
     generalize ((w33.setCell ⟨w0.heap.size, 12, none⟩ (.slice (some ⟨w33.heap.size, 0, none⟩) 1 1)).alloc (.cells #[.int .i64 kind, .string ⟨table.toArray⟩, .string ⟨name.toArray⟩, .slice a3 l3 c3, .slice a4 l4 c4, .slice a5 l5 c5, .slice a6 l6 c6, .string ⟨join.toArray⟩, .slice a8 l8 c8, .slice a9 l9 c9, .slice a10 l10 c10, .bool desc, .slice a12 l12 c12] 29)) = we33 at HHe33 HBe33 HXe33 HFe33 HVe33 HVe4_33 ⊢
     clear hfs hes x_ f_ HEy hsz_ HH33 HB33 HF33 HX33 HV4_33
     have hxe33 := HXe33.out.lt
     have hpe33 := HHe33.out.lt
     have hbe33 := HBe33.out.lt
     have HS := Hd (St.c_closure (n := n) HT22.out HT23.out HT24.out HS25.out (St.door HS26.out HS28.out HTA.out HS33.out))
     obtain ⟨x0, x1, x2, x3, x4, x5, x6, x7, x8, x9, x10, x11, x12, f0, f1, f2, f3, f4, f5, f6, f7, f8, f9, f10, f11, f12⟩ := c13_of HXe33.out
     obtain ⟨y0, y1, y2, y3, y4, y5, y6, y7, y8, y9, y10, y11, y12, k0, k1, k2, k3, k4, k5, k6, k7, k8, k9, k10, k11, k12⟩ := c13_of HBe33.out
     have hRX : ¬ w0.heap.size = w.heap.size := by omega
     go_wp2_with fail
     exact bodyPost_ret (ret_cell13 rfl _ w.heap.size rfl _ _ _ _ _ _ _ _ _ _ _ _ _ _ (blkPut13 HBe33.out _ _ _ _ _ _ _ _ _ _ _ _ _)) rfl ⟨.mk 4 [] m26 [] l30 [] [] [] [] [] [] false [y], s33, ⟨_, rfl, .mk 4 [] m26 [] l30 [] [] [] [] [] [] false [y] _ _ _ _ _ _ _ _ .nil (Px.FlatS.mono (A' := fun b => w.heap.size <= b) (fun b hb => by have := hb.1; omega) (Px.FlatS.keep (frPut13 (Fr.refl [some w.heap.size] _) (.inl (by simp)) _ _ _ _ _ _ _ _ _ _ _ _ _) (fun b hb => by have := hb.1; simp; omega) HVe4_33.out)) Rep.Es.nil .nil Rep.Es.nil Rep.Es.nil Rep.Es.nil (Px.SS.mono (A' := fun b => w.heap.size <= b) (fun b hb => by have := hb.1; omega) (Px.SS.keep (frPut13 (Fr.refl [some w.heap.size] _) (.inl (by simp)) _ _ _ _ _ _ _ _ _ _ _ _ _) (fun b hb => by have := hb.1; simp; omega) HVe33.out))⟩, HHe33.out.keepP (frPut13 (Fr.refl [some w.heap.size] _) (.inl (by simp)) _ _ _ _ _ _ _ _ _ _ _ _ _) (fun g hg => by simp; omega), HS.out, HD33.out, frPut13 HFe33.out (.inr (Nat.le_refl _)) _ _ _ _ _ _ _ _ _ _ _ _ _⟩
end Rf
end Go.Proofs.YtmdnhinpaflamaaGreatDoor
