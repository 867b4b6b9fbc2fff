/- The document's parser: a select. -/
import Derived.Test.YtmdnhinpaflamaaGreatDoorRfF
namespace Go.Proofs.YtmdnhinpaflamaaGreatDoor
open Go.RowKit
set_option linter.unusedVariables false
set_option linter.unusedSimpArgs false
namespace Rf
open LexM (Tok)
open PM (B Ex Col It PS zeroTok wordy two un colEx)
open Px (frSet ret_cell7 ret_cell13 put13 frPut13 blkPut13 c13_of kTag TagS ColS ItS SR SS StR kEx)
open Gn (Gr)
set_option maxRecDepth 1000000 in
set_option maxHeartbeats 8000000 in
theorem selected_any (n : Nat) (P : Nat) (s : PS) (w : World) (h : RR w P s) (hw : Wd s) (hn : s.l.length <= n) :
  Calls Tryz.prog 63 #[.pointer (some ⟨P, 0, none⟩)] w (StO (selectsW n) P s w) := by
 have hPl := h.lt
 have HH0 := Hd (h.alloc (.cells #[.int .i64 0, .string ⟨#[]⟩, .string ⟨#[]⟩, .slice none 0 0, .slice none 0 0, .slice none 0 0, .slice none 0 0, .string ⟨#[]⟩, .slice none 0 0, .slice none 0 0, .slice none 0 0, .bool false, .slice none 0 0] 29))
 have HD0 := Hd (Dp.refl hw)
 have HB0 := Hd (Blk.new w 29 [.int .i64 0, .string ⟨#[]⟩, .string ⟨#[]⟩, .slice none 0 0, .slice none 0 0, .slice none 0 0, .slice none 0 0, .string ⟨#[]⟩, .slice none 0 0, .slice none 0 0, .slice none 0 0, .bool false, .slice none 0 0])
 have HF0 := Hd ((Fr.refl [some P] w).alloc (.cells #[.int .i64 0, .string ⟨#[]⟩, .string ⟨#[]⟩, .slice none 0 0, .slice none 0 0, .slice none 0 0, .slice none 0 0, .string ⟨#[]⟩, .slice none 0 0, .slice none 0 0, .slice none 0 0, .bool false, .slice none 0 0] 29))
 clear h hw
 go_enter Tryz.func63, Tryz.ntmps63
 go_upto_region 1 with fail
 generalize hw0e : w.alloc (.cells #[.int .i64 0, .string ⟨#[]⟩, .string ⟨#[]⟩, .slice none 0 0, .slice none 0 0, .slice none 0 0, .slice none 0 0, .string ⟨#[]⟩, .slice none 0 0, .slice none 0 0, .slice none 0 0, .bool false, .slice none 0 0] 29) = w0 at HH0 HB0 HF0 ⊢
 clear hw0e
 have hb0 := HB0.out.lt
 have hp0 := HH0.out.lt
 have HHn21 := Hd (HH0.out.alloc (.cells #[.int .i64 6, .string ⟨#[]⟩, .string ⟨#[]⟩, .slice none 0 0, .slice none 0 0, .slice none 0 0, .slice none 0 0, .string ⟨#[]⟩, .slice none 0 0, .slice none 0 0, .slice none 0 0, .bool false, .slice none 0 0] 29))
 have HBn21 := Hd (Blk.alloc HB0.out (.cells #[.int .i64 6, .string ⟨#[]⟩, .string ⟨#[]⟩, .slice none 0 0, .slice none 0 0, .slice none 0 0, .slice none 0 0, .string ⟨#[]⟩, .slice none 0 0, .slice none 0 0, .slice none 0 0, .bool false, .slice none 0 0] 29))
 have HFn21 := Hd (HF0.out.alloc (.cells #[.int .i64 6, .string ⟨#[]⟩, .string ⟨#[]⟩, .slice none 0 0, .slice none 0 0, .slice none 0 0, .slice none 0 0, .string ⟨#[]⟩, .slice none 0 0, .slice none 0 0, .slice none 0 0, .bool false, .slice none 0 0] 29))
 have HXn21 := Hd (Blk.new w0 29 [.int .i64 6, .string ⟨#[]⟩, .string ⟨#[]⟩, .slice none 0 0, .slice none 0 0, .slice none 0 0, .slice none 0 0, .string ⟨#[]⟩, .slice none 0 0, .slice none 0 0, .slice none 0 0, .bool false, .slice none 0 0])
 clear HH0 HB0 HF0
 go_upto_region 2 with fail
 generalize w0.alloc (.cells #[.int .i64 6, .string ⟨#[]⟩, .string ⟨#[]⟩, .slice none 0 0, .slice none 0 0, .slice none 0 0, .slice none 0 0, .string ⟨#[]⟩, .slice none 0 0, .slice none 0 0, .slice none 0 0, .bool false, .slice none 0 0] 29) = wn21 at HHn21 HBn21 HFn21 HXn21 ⊢
 have hxn21 := HXn21.out.lt
 have hpn21 := HHn21.out.lt
 go_wp2_with fail
 refine (must_any P [115, 101, 108, 101, 99, 116] s _ HHn21.out).mono ?_
 rintro e w22 ⟨rfl, h, hf⟩
 have HS22 := Hd (St.must [115, 101, 108, 101, 99, 116] s)
 have HB22 := Hd (HBn21.out.keep hf (by simp; omega))
 have HX22 := Hd (HXn21.out.keep hf (by simp; omega))
 have HF22 := Hd (HFn21.out.trans hf)
 have HH22 := Hd h
 have HD22 := Hd (HD0.out.trans (Dp.musted HD0.out.wd [115, 101, 108, 101, 99, 116]))
 obtain ⟨s22, hs22⟩ : ∃ z, z = (musted [115, 101, 108, 101, 99, 116] s) := ⟨_, rfl⟩
 rw [<- hs22] at HH22 HD22 HS22
 have HQ22 := Hd hs22
 clear hs22
 have hb22 := HB22.out.lt
 have hp22 := HH22.out.lt
 have hx22 := HX22.out.lt
 clear hf HHn21 HBn21 HFn21 HD0 HXn21
 clear h
 go_wp2_with fail
 refine (take_any P [42] s22 _ HH22.out).mono ?_
 rintro e w23 ⟨rfl, h, hf⟩
 have HFt23 := Hd hf
 have HHt23 := Hd h
 clear h hf
 cases ht : taken [42] s22 with
 |true =>
  have HT23 := Hd ht
  have hf := HFt23.out
  have hh : RR w23 P (skip s22) := by have := HHt23.out; rw [took, ht] at this; exact this
  clear ht HFt23 HHt23
  have hlt23 := skip_lt HT23.out
  have HB23 := Hd (HB22.out.keep hf (by simp; omega))
  have HX23 := Hd (HX22.out.keep hf (by simp; omega))
  have HF23 := Hd (HF22.out.trans hf)
  have HH23 := Hd hh
  have HD23 := Hd (HD22.out.trans (Dp.skip HD22.out.wd))
  obtain ⟨s23, hs23⟩ : ∃ z, z = (skip s22) := ⟨_, rfl⟩
  rw [<- hs23] at HH23 HD23 hlt23
  have HQ23 := Hd hs23
  clear hs23
  have hb23 := HB23.out.lt
  have hp23 := HH23.out.lt
  have hx23 := HX23.out.lt
  clear hf HH22 HB22 HF22 HD22 HX22
  clear hh
  go_wp2_with fail
  refine (must_any P [102, 114, 111, 109] s23 _ HH23.out).mono ?_
  rintro e w24 ⟨rfl, h, hf⟩
  have HS24 := Hd (St.must [102, 114, 111, 109] s23)
  have HB24 := Hd (HB23.out.keep hf (by simp; omega))
  have HX24 := Hd (HX23.out.keep hf (by simp; omega))
  have HF24 := Hd (HF23.out.trans hf)
  have HH24 := Hd h
  have HD24 := Hd (HD23.out.trans (Dp.musted HD23.out.wd [102, 114, 111, 109]))
  obtain ⟨s24, hs24⟩ : ∃ z, z = (musted [102, 114, 111, 109] s23) := ⟨_, rfl⟩
  rw [<- hs24] at HH24 HD24 HS24
  have HQ24 := Hd hs24
  clear hs24
  have hb24 := HB24.out.lt
  have hp24 := HH24.out.lt
  have hx24 := HX24.out.lt
  clear hf HH23 HB23 HF23 HD23 HX23
  clear h
  go_wp2_with fail
  refine (name_any P s24 _ HH24.out).mono ?_
  rintro e w25 ⟨m25, rfl, h, hst, hf⟩
  have HS25 := Hd hst
  clear hst
  have HB25 := Hd (HB24.out.keep hf (by simp; omega))
  have HX25 := Hd (HX24.out.keep hf (by simp; omega))
  have HF25 := Hd (HF24.out.trans hf)
  have HH25 := Hd h
  have HD25 := Hd (HD24.out.trans (Dp.worded HD24.out.wd 1))
  obtain ⟨s25, hs25⟩ : ∃ z, z = (worded 1 s24) := ⟨_, rfl⟩
  rw [<- hs25] at HH25 HD25 HS25
  have HQ25 := Hd hs25
  clear hs25
  have hb25 := HB25.out.lt
  have hp25 := HH25.out.lt
  have hx25 := HX25.out.lt
  clear hf HH24 HB24 HF24 HD24 HX24
  clear h
  have x1_26 := HX25.out.cell 1
  have f1_26 := HX25.out.free 1
  simp only [List.getElem?_cons_zero, List.getElem?_cons_succ] at x1_26
  have hfs := ((Fr.refl [some w0.heap.size] w25).setCell (p := ⟨w0.heap.size, 1, none⟩) (.inl (by simp)) (.string ⟨m25.toArray⟩))
  have HHs26 := Hd (HH25.out.keepP hfs (fun g hg => by simp; omega))
  have HBs26 := Hd (HB25.out.keep hfs (by simp; omega))
  have HXs26 := Hd (HX25.out.set 1 (.string ⟨m25.toArray⟩))
  simp only [List.set_cons_succ, List.set_cons_zero] at HXs26
  have HFs26 : Hid (Fr [some P] w (w25.setCell ⟨w0.heap.size, 1, none⟩ (.string ⟨m25.toArray⟩))) := Hd (HF25.out.trans' hfs (fun i hi => .inr (by simp at hi; omega)))
  have hsz26 : (w25.setCell ⟨w0.heap.size, 1, none⟩ (.string ⟨m25.toArray⟩)).heap.size = w25.heap.size := by simp [World.setCell]
  go_upto_region 9 with fail
  generalize (w25.setCell ⟨w0.heap.size, 1, none⟩ (.string ⟨m25.toArray⟩)) = wv26 at HHs26 HBs26 HXs26 HFs26 hsz26  ⊢
  clear hfs x1_26 f1_26 HH25 HB25 HF25 HX25
  have hxx26 := HXs26.out.lt
  have hpp26 := HHs26.out.lt
  have hbb26 := HBs26.out.lt
  go_wp2_with fail
  refine (take_any P [106, 111, 105, 110] s25 _ HHs26.out).mono ?_
  rintro e w27 ⟨rfl, h, hf⟩
  have HFt27 := Hd hf
  have HHt27 := Hd h
  clear h hf
  cases ht : taken [106, 111, 105, 110] s25 with
  |true =>
   have HT27 := Hd ht
   have hf := HFt27.out
   have hh : RR w27 P (skip s25) := by have := HHt27.out; rw [took, ht] at this; exact this
   clear ht HFt27 HHt27
   have hlt27 := skip_lt HT27.out
   have HB27 := Hd (HBs26.out.keep hf (by simp; omega))
   have HX27 := Hd (HXs26.out.keep hf (by simp; omega))
   have HF27 := Hd (HFs26.out.trans hf)
   have HH27 := Hd hh
   have HD27 := Hd (HD25.out.trans (Dp.skip HD25.out.wd))
   obtain ⟨s27, hs27⟩ : ∃ z, z = (skip s25) := ⟨_, rfl⟩
   rw [<- hs27] at HH27 HD27 hlt27
   have HQ27 := Hd hs27
   clear hs27
   have hb27 := HB27.out.lt
   have hp27 := HH27.out.lt
   have hx27 := HX27.out.lt
   clear hf HHs26 HBs26 HFs26 HD25 HXs26
   clear hh
   go_wp2_with fail
   refine (name_any P s27 _ HH27.out).mono ?_
   rintro e w28 ⟨m28, rfl, h, hst, hf⟩
   have HS28 := Hd hst
   clear hst
   have HB28 := Hd (HB27.out.keep hf (by simp; omega))
   have HX28 := Hd (HX27.out.keep hf (by simp; omega))
   have HF28 := Hd (HF27.out.trans hf)
   have HH28 := Hd h
   have HD28 := Hd (HD27.out.trans (Dp.worded HD27.out.wd 1))
   obtain ⟨s28, hs28⟩ : ∃ z, z = (worded 1 s27) := ⟨_, rfl⟩
   rw [<- hs28] at HH28 HD28 HS28
   have HQ28 := Hd hs28
   clear hs28
   have hb28 := HB28.out.lt
   have hp28 := HH28.out.lt
   have hx28 := HX28.out.lt
   clear hf HH27 HB27 HF27 HD27 HX27
   clear h
   have x7_29 := HX28.out.cell 7
   have f7_29 := HX28.out.free 7
   simp only [List.getElem?_cons_zero, List.getElem?_cons_succ] at x7_29
   have hfs := ((Fr.refl [some w0.heap.size] w28).setCell (p := ⟨w0.heap.size, 7, none⟩) (.inl (by simp)) (.string ⟨m28.toArray⟩))
   have HHs29 := Hd (HH28.out.keepP hfs (fun g hg => by simp; omega))
   have HBs29 := Hd (HB28.out.keep hfs (by simp; omega))
   have HXs29 := Hd (HX28.out.set 7 (.string ⟨m28.toArray⟩))
   simp only [List.set_cons_succ, List.set_cons_zero] at HXs29
   have HFs29 : Hid (Fr [some P] w (w28.setCell ⟨w0.heap.size, 7, none⟩ (.string ⟨m28.toArray⟩))) := Hd (HF28.out.trans' hfs (fun i hi => .inr (by simp at hi; omega)))
   have hsz29 : (w28.setCell ⟨w0.heap.size, 7, none⟩ (.string ⟨m28.toArray⟩)).heap.size = w28.heap.size := by simp [World.setCell]
   go_upto_region 11 with fail
   generalize (w28.setCell ⟨w0.heap.size, 7, none⟩ (.string ⟨m28.toArray⟩)) = wv29 at HHs29 HBs29 HXs29 HFs29 hsz29  ⊢
   clear hfs x7_29 f7_29 HH28 HB28 HF28 HX28
   have hxx29 := HXs29.out.lt
   have hpp29 := HHs29.out.lt
   have hbb29 := HBs29.out.lt
   go_wp2_with fail
   refine (must_any P [111, 110] s28 _ HHs29.out).mono ?_
   rintro e w30 ⟨rfl, h, hf⟩
   have HS30 := Hd (St.must [111, 110] s28)
   have HB30 := Hd (HBs29.out.keep hf (by simp; omega))
   have HX30 := Hd (HXs29.out.keep hf (by simp; omega))
   have HF30 := Hd (HFs29.out.trans hf)
   have HH30 := Hd h
   have HD30 := Hd (HD28.out.trans (Dp.musted HD28.out.wd [111, 110]))
   obtain ⟨s30, hs30⟩ : ∃ z, z = (musted [111, 110] s28) := ⟨_, rfl⟩
   rw [<- hs30] at HH30 HD30 HS30
   have HQ30 := Hd hs30
   clear hs30
   have hb30 := HB30.out.lt
   have hp30 := HH30.out.lt
   have hx30 := HX30.out.lt
   clear hf HHs29 HBs29 HFs29 HD28 HXs29
   clear h
   go_wp2_with fail
   refine (column_any P s30 _ HH30.out HD30.out.wd).mono ?_
   rintro e w31 ⟨x, sx, xs, rfl, hx, h, hst, hd, hf⟩
   obtain ⟨op, kind, int, t, tb, nm, va, vl, vc, rfl⟩ := e_form hx
   have HS31 := Hd hst
   have HEx := Hd (Rep.E.mono (A' := fun b => w.heap.size < b /\ b ≠ w0.heap.size) (fun b hb => ⟨by omega, by omega⟩) hx)
   clear hx hst
   have HB31 := Hd (HB30.out.keep hf (by simp; omega))
   have HX31 := Hd (HX30.out.keep hf (by simp; omega))
   have HF31 := Hd (HF30.out.trans hf)
   have HH31 := Hd h
   have HD31 := Hd (HD30.out.trans hd)
   obtain ⟨s31, hs31⟩ : ∃ z, z = sx := ⟨_, rfl⟩
   rw [<- hs31] at HH31 HD31 HS31
   have HQ31 := Hd hs31
   clear hs31
   have hb31 := HB31.out.lt
   have hp31 := HH31.out.lt
   have hx31 := HX31.out.lt
   clear hf HH30 HB30 HF30 HD30 HX30
   clear h hd
   have hfa := (Fr.refl [some P] w31).alloc (.cells #[.int .i64 op, .int .i64 kind, .int .i64 int, .string ⟨t.toArray⟩, .string ⟨tb.toArray⟩, .string ⟨nm.toArray⟩, .slice va vl vc] 82)
   have HHq32 := Hd (HH31.out.alloc (.cells #[.int .i64 op, .int .i64 kind, .int .i64 int, .string ⟨t.toArray⟩, .string ⟨tb.toArray⟩, .string ⟨nm.toArray⟩, .slice va vl vc] 82))
   have HBq32 := Hd (Blk.alloc HB31.out (.cells #[.int .i64 op, .int .i64 kind, .int .i64 int, .string ⟨t.toArray⟩, .string ⟨tb.toArray⟩, .string ⟨nm.toArray⟩, .slice va vl vc] 82))
   have HXq32 := Hd (Blk.alloc HX31.out (.cells #[.int .i64 op, .int .i64 kind, .int .i64 int, .string ⟨t.toArray⟩, .string ⟨tb.toArray⟩, .string ⟨nm.toArray⟩, .slice va vl vc] 82))
   have HFq32 := Hd (HF31.out.trans hfa)
   have HAq := Hd (Blk.new w31 82 [.int .i64 op, .int .i64 kind, .int .i64 int, .string ⟨t.toArray⟩, .string ⟨tb.toArray⟩, .string ⟨nm.toArray⟩, .slice va vl vc])
   have HEq := Hd (Rep.E.keep hfa (fun g hg => by have := hg.1; simp; omega) HEx.out)
   clear hfa HEx HH31 HB31 HF31 HX31
   go_upto_region 13 with fail
   generalize w31.alloc (.cells #[.int .i64 op, .int .i64 kind, .int .i64 int, .string ⟨t.toArray⟩, .string ⟨tb.toArray⟩, .string ⟨nm.toArray⟩, .slice va vl vc] 82) = wq32 at HHq32 HBq32 HXq32 HFq32 HAq HEq  ⊢
   have hqq := HAq.out.lt
   have hpq := HHq32.out.lt
   go_wp2_with fail
   refine (must_any P [61] s31 _ HHq32.out).mono ?_
   rintro e w33 ⟨rfl, h, hf⟩
   have HS33 := Hd (St.must [61] s31)
   have HB33 := Hd (HBq32.out.keep hf (by simp; omega))
   have HX33 := Hd (HXq32.out.keep hf (by simp; omega))
   have HV100_33 := Hd (Rep.E.keep hf (fun g hg => by have := hg.1; simp; omega) HEq.out)
   have HV101_33 := Hd (HAq.out.keep hf (by simp; omega))
   have HF33 := Hd (HFq32.out.trans hf)
   have HH33 := Hd h
   have HD33 := Hd (HD31.out.trans (Dp.musted HD31.out.wd [61]))
   obtain ⟨s33, hs33⟩ : ∃ z, z = (musted [61] s31) := ⟨_, rfl⟩
   rw [<- hs33] at HH33 HD33 HS33
   have HQ33 := Hd hs33
   clear hs33
   have hb33 := HB33.out.lt
   have hp33 := HH33.out.lt
   have hx33 := HX33.out.lt
   clear hf HHq32 HBq32 HFq32 HD31 HXq32 HEq HAq
   clear h
   go_upto_region 14 with fail
   have HKEY : Hid (∀ W', Fr [some P] w33 W' -> W'.cell? ⟨w31.heap.size, 0, none⟩ = some (.int .i64 op) /\ W'.cell? ⟨w31.heap.size, 1, none⟩ = some (.int .i64 kind) /\ W'.cell? ⟨w31.heap.size, 2, none⟩ = some (.int .i64 int) /\ W'.cell? ⟨w31.heap.size, 3, none⟩ = some (.string ⟨t.toArray⟩) /\ W'.cell? ⟨w31.heap.size, 4, none⟩ = some (.string ⟨tb.toArray⟩) /\ W'.cell? ⟨w31.heap.size, 5, none⟩ = some (.string ⟨nm.toArray⟩) /\ W'.cell? ⟨w31.heap.size, 6, none⟩ = some (.slice va vl vc)) := Hd (fun W' hW => by
    have h := HV101_33.out.keep hW (by simp; omega)
    exact ⟨h.cell 0, h.cell 1, h.cell 2, h.cell 3, h.cell 4, h.cell 5, h.cell 6⟩)
   have hfq : Fr [some P] w33 w33.drew := Fr.drew (Fr.refl _ w33)
   have hI0 := HKEY.out _ hfq
   refine Seq3.wp_region_text (fun i => i != 2 && i != 3 && i != 5) (fun _ => none) (fun i => i == 5) (fun w' => w'.cell? ⟨w31.heap.size, 0, none⟩ = some (.int .i64 op) /\ w'.cell? ⟨w31.heap.size, 1, none⟩ = some (.int .i64 kind) /\ w'.cell? ⟨w31.heap.size, 2, none⟩ = some (.int .i64 int) /\ w'.cell? ⟨w31.heap.size, 3, none⟩ = some (.string ⟨t.toArray⟩) /\ w'.cell? ⟨w31.heap.size, 4, none⟩ = some (.string ⟨tb.toArray⟩) /\ w'.cell? ⟨w31.heap.size, 5, none⟩ = some (.string ⟨nm.toArray⟩) /\ w'.cell? ⟨w31.heap.size, 6, none⟩ = some (.slice va vl vc)) (by kernel_rfl) (by kernel_rfl) hI0 ?_
   refine Seq3.wpL_held (v := .agg #[.int .i64 op, .int .i64 kind, .int .i64 int, .string ⟨t.toArray⟩, .string ⟨tb.toArray⟩, .string ⟨nm.toArray⟩, .slice va vl vc]) rfl rfl (fun w' hI => ?_) ?_
   ·obtain ⟨i0, i1, i2, i3, i4, i5, i6⟩ : w'.cell? ⟨w31.heap.size, 0, none⟩ = some (.int .i64 op) /\ w'.cell? ⟨w31.heap.size, 1, none⟩ = some (.int .i64 kind) /\ w'.cell? ⟨w31.heap.size, 2, none⟩ = some (.int .i64 int) /\ w'.cell? ⟨w31.heap.size, 3, none⟩ = some (.string ⟨t.toArray⟩) /\ w'.cell? ⟨w31.heap.size, 4, none⟩ = some (.string ⟨tb.toArray⟩) /\ w'.cell? ⟨w31.heap.size, 5, none⟩ = some (.string ⟨nm.toArray⟩) /\ w'.cell? ⟨w31.heap.size, 6, none⟩ = some (.slice va vl vc) := hI
    simp [go_sem, execOp, i0, i1, i2, i3, i4, i5, i6]
   simp only [Act.put, List.setIfInBounds_toArray, List.set_cons_succ, List.set_cons_zero]
   (refine Seq3.wpL_quiet rfl rfl rfl (fun K hK => ?_); go_big_quiet_op; (first | refine hK _ ?_ | refine ⟨_, by intros; rfl, hK _ ?_⟩); clear hK K)
   refine Seq3.wpL_call rfl rfl (by kernel_rfl) (column_any P s33 w33.drew HH33.out.drew HD33.out.wd) ?_
   rintro e wx ⟨xcc, sx, xs, rfl, hx, h, hst, hd, hf⟩
   obtain ⟨op3, kind3, int3, t3, tb3, nm3, va3, vl3, vc3, rfl⟩ := e_form hx
   have hf1 := hfq.trans hf
   refine ⟨_, rfl, HKEY.out _ hf1, ?_⟩
   simp only [Act.put, List.setIfInBounds_toArray, List.set_cons_succ, List.set_cons_zero]
   have hf3 := hf1.alloc (.cells #[.int .i64 op, .int .i64 kind, .int .i64 int, .string ⟨t.toArray⟩, .string ⟨tb.toArray⟩, .string ⟨nm.toArray⟩, .slice va vl vc, .int .i64 op3, .int .i64 kind3, .int .i64 int3, .string ⟨t3.toArray⟩, .string ⟨tb3.toArray⟩, .string ⟨nm3.toArray⟩, .slice va3 vl3 vc3] 82)
   refine Seq3.wpL_val (v := .slice (some ⟨wx.heap.size, 0, none⟩) 2 2) (w' := wx.alloc (.cells #[.int .i64 op, .int .i64 kind, .int .i64 int, .string ⟨t.toArray⟩, .string ⟨tb.toArray⟩, .string ⟨nm.toArray⟩, .slice va vl vc, .int .i64 op3, .int .i64 kind3, .int .i64 int3, .string ⟨t3.toArray⟩, .string ⟨tb3.toArray⟩, .string ⟨nm3.toArray⟩, .slice va3 vl3 vc3] 82)) rfl rfl (by simp [go_sem, execOp]) (HKEY.out _ hf3) ?_
   simp only [Act.put, List.setIfInBounds_toArray, List.set_cons_succ, List.set_cons_zero]
   (refine Seq3.wpL_quiet rfl rfl rfl (fun K hK => ?_); go_big_quiet_op; (first | refine hK _ ?_ | refine ⟨_, by intros; rfl, hK _ ?_⟩); clear hK K)
   have hxl := HX33.out.lt
   have hsx := hf.size
   simp only [World.size_drew] at hsx
   have hXv := HX33.out.keep hf3 (by simp; omega)
   have k8 := hXv.cell 8
   have f8 := hXv.free 8
   simp only [List.getElem?_cons_zero, List.getElem?_cons_succ] at k8
   refine Seq3.wpL_lasts (w' := (wx.alloc (.cells #[.int .i64 op, .int .i64 kind, .int .i64 int, .string ⟨t.toArray⟩, .string ⟨tb.toArray⟩, .string ⟨nm.toArray⟩, .slice va vl vc, .int .i64 op3, .int .i64 kind3, .int .i64 int3, .string ⟨t3.toArray⟩, .string ⟨tb3.toArray⟩, .string ⟨nm3.toArray⟩, .slice va3 vl3 vc3] 82)).setCell ⟨w0.heap.size, 8, none⟩ (.slice (some ⟨wx.heap.size, 0, none⟩) 2 2)) rfl rfl rfl (by simp [go_sem, execOp, k8, f8]) ?_
   simp only [Act.put, List.setIfInBounds_toArray, List.set_cons_succ, List.set_cons_zero]
   refine Seq3.wpL_nil ?_
   have hfs := (Fr.refl [some w0.heap.size] (wx.alloc (.cells #[.int .i64 op, .int .i64 kind, .int .i64 int, .string ⟨t.toArray⟩, .string ⟨tb.toArray⟩, .string ⟨nm.toArray⟩, .slice va vl vc, .int .i64 op3, .int .i64 kind3, .int .i64 int3, .string ⟨t3.toArray⟩, .string ⟨tb3.toArray⟩, .string ⟨nm3.toArray⟩, .slice va3 vl3 vc3] 82))).setCell (p := ⟨w0.heap.size, 8, none⟩) (.inl (by simp)) (.slice (some ⟨wx.heap.size, 0, none⟩) 2 2)
   have hea := Rep.E.keep hf1 (fun g hg => by have := hg.1; simp; omega) HV100_33.out
   have heb := Rep.E.mono (A' := fun b => w.heap.size < b /\ b ≠ w0.heap.size) (fun b hb => by simp at hb; exact ⟨by omega, by omega⟩) hx
   have hes := es_mk (A := fun b => w.heap.size < b /\ b ≠ w0.heap.size) (.cons x [xcc] _ _ hea (.cons xcc [] _ [] heb .nil)) ⟨by omega, by omega⟩ (by simp [maxLen])
   rw [List.append_nil] at hes
   have HVj := Hd (Rep.Es.keep hfs (fun g hg => by have := hg.2; simp; omega) hes)
   have HHj := Hd ((h.alloc (.cells #[.int .i64 op, .int .i64 kind, .int .i64 int, .string ⟨t.toArray⟩, .string ⟨tb.toArray⟩, .string ⟨nm.toArray⟩, .slice va vl vc, .int .i64 op3, .int .i64 kind3, .int .i64 int3, .string ⟨t3.toArray⟩, .string ⟨tb3.toArray⟩, .string ⟨nm3.toArray⟩, .slice va3 vl3 vc3] 82)).keepP hfs (fun g hg => by simp; omega))
   have HBj := Hd ((HB33.out.keep hf3 (by simp; omega)).keep hfs (by simp; omega))
   have HXj := Hd (hXv.set 8 (.slice (some ⟨wx.heap.size, 0, none⟩) 2 2))
   simp only [List.set_cons_succ, List.set_cons_zero] at HXj
   have HFj := Hd ((HF33.out.trans hf3).trans' hfs (fun i hi => .inr (by simp at hi; omega)))
   have HDj := Hd (HD33.out.trans hd)
   have HSj := Hd hst
   generalize (wx.alloc (.cells #[.int .i64 op, .int .i64 kind, .int .i64 int, .string ⟨t.toArray⟩, .string ⟨tb.toArray⟩, .string ⟨nm.toArray⟩, .slice va vl vc, .int .i64 op3, .int .i64 kind3, .int .i64 int3, .string ⟨t3.toArray⟩, .string ⟨tb3.toArray⟩, .string ⟨nm3.toArray⟩, .slice va3 vl3 vc3] 82)).setCell ⟨w0.heap.size, 8, none⟩ (.slice (some ⟨wx.heap.size, 0, none⟩) 2 2) = wj at HHj HBj HXj HFj HVj  ⊢
   clear hI0 hfq hf1 hf3 hfs hea heb hes hXv k8 f8 h hd hst hf hx HKEY HV101_33 HV100_33
   have hxj := HXj.out.lt
   have hpj := HHj.out.lt
   have hbj := HBj.out.lt
   have HJ := Hd (St.joins_yes HT27.out HQ27.out HS28.out HS30.out HS31.out HS33.out HSj.out)
   obtain ⟨sy, hsy⟩ : ∃ z, z = sx := ⟨_, rfl⟩
   subst hsy
   obtain ⟨xa, hxa_⟩ : ∃ z, z = x := ⟨_, rfl⟩
   subst hxa_
   have hwn35 : sy.l.length <= n := by have := HDj.out.len; omega
   go_wp2_with fail
   refine (where_any n P sy _ HHj.out HDj.out.wd hwn35).mono ?_
   rintro e w35 ⟨l35, v, sx, rfl, hv, h, hst, hd, hf⟩
   obtain ⟨a9_35, n9_35, c9_35, rfl⟩ := Rep.Es.form hv
   have HS35 := Hd hst
   have HVw35 := Hd (Rep.Es.mono (A' := fun b => w.heap.size < b /\ b ≠ w0.heap.size) (fun b hb => ⟨by omega, by omega⟩) hv)
   clear hst hv
   have HB35 := Hd (HBj.out.keep hf (by simp; omega))
   have HX35 := Hd (HXj.out.keep hf (by simp; omega))
   have HV8_35 := Hd (Rep.Es.keep hf (fun g hg => by have := hg.1; simp; omega) HVj.out)
   have HF35 := Hd (HFj.out.trans hf)
   have HH35 := Hd h
   have HD35 := Hd (HDj.out.trans hd)
   obtain ⟨s35, hs35⟩ : ∃ z, z = sx := ⟨_, rfl⟩
   rw [<- hs35] at HH35 HD35 HS35
   have HQ35 := Hd hs35
   clear hs35
   have hb35 := HB35.out.lt
   have hp35 := HH35.out.lt
   have hx35 := HX35.out.lt
   clear hf HHj HBj HFj HDj HXj HVj
   clear h hd
   have x9_36 := HX35.out.cell 9
   have f9_36 := HX35.out.free 9
   simp only [List.getElem?_cons_zero, List.getElem?_cons_succ] at x9_36
   have hfs := ((Fr.refl [some w0.heap.size] w35).setCell (p := ⟨w0.heap.size, 9, none⟩) (.inl (by simp)) (.slice a9_35 n9_35 c9_35))
   have HHs36 := Hd (HH35.out.keepP hfs (fun g hg => by simp; omega))
   have HBs36 := Hd (HB35.out.keep hfs (by simp; omega))
   have HXs36 := Hd (HX35.out.set 9 (.slice a9_35 n9_35 c9_35))
   simp only [List.set_cons_succ, List.set_cons_zero] at HXs36
   have HFs36 : Hid (Fr [some P] w (w35.setCell ⟨w0.heap.size, 9, none⟩ (.slice a9_35 n9_35 c9_35))) := Hd (HF35.out.trans' hfs (fun i hi => .inr (by simp at hi; omega)))
   have hsz36 : (w35.setCell ⟨w0.heap.size, 9, none⟩ (.slice a9_35 n9_35 c9_35)).heap.size = w35.heap.size := by simp [World.setCell]
   have HVs8_36 := Hd (Rep.Es.keep hfs (fun g hg => by have := hg.2; simp; omega) HV8_35.out)
   have HVs9_36 := Hd (Rep.Es.keep hfs (fun g hg => by have := hg.2; simp; omega) HVw35.out)
   go_upto_region 16 with fail
   generalize (w35.setCell ⟨w0.heap.size, 9, none⟩ (.slice a9_35 n9_35 c9_35)) = wv36 at HHs36 HBs36 HXs36 HFs36 hsz36 HVs8_36 HVs9_36 ⊢
   clear hfs x9_36 f9_36 HH35 HB35 HF35 HX35 HV8_35 HVw35
   have hxx36 := HXs36.out.lt
   have hpp36 := HHs36.out.lt
   have hbb36 := HBs36.out.lt
   go_wp2_with fail
   refine (take_any P [111, 114, 100, 101, 114] s35 _ HHs36.out).mono ?_
   rintro e w37 ⟨rfl, h, hf⟩
   have HFt37 := Hd hf
   have HHt37 := Hd h
   clear h hf
   cases ht : taken [111, 114, 100, 101, 114] s35 with
   |true =>
    have HT37 := Hd ht
    have hf := HFt37.out
    have hh : RR w37 P (skip s35) := by have := HHt37.out; rw [took, ht] at this; exact this
    clear ht HFt37 HHt37
    have hlt37 := skip_lt HT37.out
    have HB37 := Hd (HBs36.out.keep hf (by simp; omega))
    have HX37 := Hd (HXs36.out.keep hf (by simp; omega))
    have HV8_37 := Hd (Rep.Es.keep hf (fun g hg => by have := hg.1; simp; omega) HVs8_36.out)
    have HV9_37 := Hd (Rep.Es.keep hf (fun g hg => by have := hg.1; simp; omega) HVs9_36.out)
    have HF37 := Hd (HFs36.out.trans hf)
    have HH37 := Hd hh
    have HD37 := Hd (HD35.out.trans (Dp.skip HD35.out.wd))
    obtain ⟨s37, hs37⟩ : ∃ z, z = (skip s35) := ⟨_, rfl⟩
    rw [<- hs37] at HH37 HD37 hlt37
    have HQ37 := Hd hs37
    clear hs37
    have hb37 := HB37.out.lt
    have hp37 := HH37.out.lt
    have hx37 := HX37.out.lt
    clear hf HHs36 HBs36 HFs36 HD35 HXs36 HVs8_36 HVs9_36
    clear hh
    go_wp2_with fail
    refine (must_any P [98, 121] s37 _ HH37.out).mono ?_
    rintro e w38 ⟨rfl, h, hf⟩
    have HS38 := Hd (St.must [98, 121] s37)
    have HB38 := Hd (HB37.out.keep hf (by simp; omega))
    have HX38 := Hd (HX37.out.keep hf (by simp; omega))
    have HV8_38 := Hd (Rep.Es.keep hf (fun g hg => by have := hg.1; simp; omega) HV8_37.out)
    have HV9_38 := Hd (Rep.Es.keep hf (fun g hg => by have := hg.1; simp; omega) HV9_37.out)
    have HF38 := Hd (HF37.out.trans hf)
    have HH38 := Hd h
    have HD38 := Hd (HD37.out.trans (Dp.musted HD37.out.wd [98, 121]))
    obtain ⟨s38, hs38⟩ : ∃ z, z = (musted [98, 121] s37) := ⟨_, rfl⟩
    rw [<- hs38] at HH38 HD38 HS38
    have HQ38 := Hd hs38
    clear hs38
    have hb38 := HB38.out.lt
    have hp38 := HH38.out.lt
    have hx38 := HX38.out.lt
    clear hf HH37 HB37 HF37 HD37 HX37 HV8_37 HV9_37
    clear h
    go_wp2_with fail
    refine (column_any P s38 _ HH38.out HD38.out.wd).mono ?_
    rintro e w39 ⟨x, sx, xs, rfl, hx, h, hst, hd, hf⟩
    obtain ⟨op, kind, int, t, tb, nm, va, vl, vc, rfl⟩ := e_form hx
    have HS39 := Hd hst
    have HEx := Hd (Rep.E.mono (A' := fun b => w.heap.size < b /\ b ≠ w0.heap.size) (fun b hb => ⟨by omega, by omega⟩) hx)
    clear hx hst
    have HB39 := Hd (HB38.out.keep hf (by simp; omega))
    have HX39 := Hd (HX38.out.keep hf (by simp; omega))
    have HV8_39 := Hd (Rep.Es.keep hf (fun g hg => by have := hg.1; simp; omega) HV8_38.out)
    have HV9_39 := Hd (Rep.Es.keep hf (fun g hg => by have := hg.1; simp; omega) HV9_38.out)
    have HF39 := Hd (HF38.out.trans hf)
    have HH39 := Hd h
    have HD39 := Hd (HD38.out.trans hd)
    obtain ⟨s39, hs39⟩ : ∃ z, z = sx := ⟨_, rfl⟩
    rw [<- hs39] at HH39 HD39 HS39
    have HQ39 := Hd hs39
    clear hs39
    have hb39 := HB39.out.lt
    have hp39 := HH39.out.lt
    have hx39 := HX39.out.lt
    clear hf HH38 HB38 HF38 HD38 HX38 HV8_38 HV9_38
    clear h hd
    have x_ := HX39.out.cell 10
    have f_ := HX39.out.free 10
    simp only [List.getElem?_cons_zero, List.getElem?_cons_succ] at x_
    have hfs := ((Fr.refl [some w0.heap.size] w39).setCell (p := ⟨w0.heap.size, 10, none⟩) (.inl (by simp)) (.slice (some ⟨w39.heap.size, 0, none⟩) 1 1)).alloc (.cells #[.int .i64 op, .int .i64 kind, .int .i64 int, .string ⟨t.toArray⟩, .string ⟨tb.toArray⟩, .string ⟨nm.toArray⟩, .slice va vl vc] 82)
    have hsz_ : (w39.setCell ⟨w0.heap.size, 10, none⟩ (.slice (some ⟨w39.heap.size, 0, none⟩) 1 1)).heap.size = w39.heap.size := by simp [World.setCell]
    have HHe40 := Hd (HH39.out.keepP hfs (fun g hg => by simp; omega))
    have HBe40 := Hd (HB39.out.keep hfs (by simp; omega))
    have HXe40 := Hd (Blk.alloc (HX39.out.set 10 (.slice (some ⟨w39.heap.size, 0, none⟩) 1 1)) (.cells #[.int .i64 op, .int .i64 kind, .int .i64 int, .string ⟨t.toArray⟩, .string ⟨tb.toArray⟩, .string ⟨nm.toArray⟩, .slice va vl vc] 82))
    simp only [List.set_cons_succ, List.set_cons_zero] at HXe40
    have HFe40 : Hid (Fr [some P] w ((w39.setCell ⟨w0.heap.size, 10, none⟩ (.slice (some ⟨w39.heap.size, 0, none⟩) 1 1)).alloc (.cells #[.int .i64 op, .int .i64 kind, .int .i64 int, .string ⟨t.toArray⟩, .string ⟨tb.toArray⟩, .string ⟨nm.toArray⟩, .slice va vl vc] 82))) := Hd (HF39.out.trans' hfs (fun i hi => .inr (by simp at hi; omega)))
    have hes := es_mk (A := fun b => w.heap.size < b /\ b ≠ w0.heap.size) (w := (w39.setCell ⟨w0.heap.size, 10, none⟩ (.slice (some ⟨w39.heap.size, 0, none⟩) 1 1))) (.cons x [] _ [] (Rep.E.keep ((Fr.refl [some w0.heap.size] w39).setCell (p := ⟨w0.heap.size, 10, none⟩) (.inl (by simp)) (.slice (some ⟨w39.heap.size, 0, none⟩) 1 1)) (fun g hg => by have := hg.2; simp; omega) HEx.out) .nil) ⟨by rw [hsz_]; omega, by rw [hsz_]; omega⟩ (by simp [maxLen])
    rw [List.append_nil, hsz_] at hes
    have HVe40 := Hd hes
    have HVe8_40 := Hd (Rep.Es.keep hfs (fun g hg => by have := hg.2; simp; omega) HV8_39.out)
    have HVe9_40 := Hd (Rep.Es.keep hfs (fun g hg => by have := hg.2; simp; omega) HV9_39.out)
    have hnx_ : ¬ w0.heap.size = w39.heap.size := by omega
    have hnx2_ : w0.heap.size < w39.heap.size + 1 := by omega
    go_upto_region 19 with fail
    generalize ((w39.setCell ⟨w0.heap.size, 10, none⟩ (.slice (some ⟨w39.heap.size, 0, none⟩) 1 1)).alloc (.cells #[.int .i64 op, .int .i64 kind, .int .i64 int, .string ⟨t.toArray⟩, .string ⟨tb.toArray⟩, .string ⟨nm.toArray⟩, .slice va vl vc] 82)) = we40 at HHe40 HBe40 HXe40 HFe40 HVe40 HVe8_40 HVe9_40 ⊢
    clear hfs hes x_ f_ HEx hsz_ HH39 HB39 HF39 HX39 HV8_39 HV9_39
    have hxe40 := HXe40.out.lt
    have hpe40 := HHe40.out.lt
    have hbe40 := HBe40.out.lt
    go_wp2_with fail
    refine (take_any P [100, 101, 115, 99] s39 _ HHe40.out).mono ?_
    rintro e w41 ⟨rfl, h, hf⟩
    have HSd := Hd (St.desc s39)
    change Hid (St (fun _ => CM.desc) s39 (taken [100, 101, 115, 99] s39) (took [100, 101, 115, 99] s39)) at HSd
    obtain ⟨bd, hbd⟩ : ∃ b, taken [100, 101, 115, 99] s39 = b := ⟨_, rfl⟩
    rw [hbd] at HSd ⊢
    clear hbd
    have HB41 := Hd (HBe40.out.keep hf (by simp; omega))
    have HX41 := Hd (HXe40.out.keep hf (by simp; omega))
    have HV8_41 := Hd (Rep.Es.keep hf (fun g hg => by have := hg.1; simp; omega) HVe8_40.out)
    have HV9_41 := Hd (Rep.Es.keep hf (fun g hg => by have := hg.1; simp; omega) HVe9_40.out)
    have HV10_41 := Hd (Rep.Es.keep hf (fun g hg => by have := hg.1; simp; omega) HVe40.out)
    have HF41 := Hd (HFe40.out.trans hf)
    have HH41 := Hd h
    have HD41 := Hd (HD39.out.trans (Dp.took HD39.out.wd [100, 101, 115, 99]))
    obtain ⟨s41, hs41⟩ : ∃ z, z = (took [100, 101, 115, 99] s39) := ⟨_, rfl⟩
    rw [<- hs41] at HH41 HD41 HSd
    have HQ41 := Hd hs41
    clear hs41
    have hb41 := HB41.out.lt
    have hp41 := HH41.out.lt
    have hx41 := HX41.out.lt
    clear hf HHe40 HBe40 HFe40 HD39 HXe40 HVe8_40 HVe9_40 HVe40
    clear h
    have x11_42 := HX41.out.cell 11
    have f11_42 := HX41.out.free 11
    simp only [List.getElem?_cons_zero, List.getElem?_cons_succ] at x11_42
    have hfs := ((Fr.refl [some w0.heap.size] w41).setCell (p := ⟨w0.heap.size, 11, none⟩) (.inl (by simp)) (.bool bd))
    have HHs42 := Hd (HH41.out.keepP hfs (fun g hg => by simp; omega))
    have HBs42 := Hd (HB41.out.keep hfs (by simp; omega))
    have HXs42 := Hd (HX41.out.set 11 (.bool bd))
    simp only [List.set_cons_succ, List.set_cons_zero] at HXs42
    have HFs42 : Hid (Fr [some P] w (w41.setCell ⟨w0.heap.size, 11, none⟩ (.bool bd))) := Hd (HF41.out.trans' hfs (fun i hi => .inr (by simp at hi; omega)))
    have hsz42 : (w41.setCell ⟨w0.heap.size, 11, none⟩ (.bool bd)).heap.size = w41.heap.size := by simp [World.setCell]
    have HVs8_42 := Hd (Rep.Es.keep hfs (fun g hg => by have := hg.2; simp; omega) HV8_41.out)
    have HVs9_42 := Hd (Rep.Es.keep hfs (fun g hg => by have := hg.2; simp; omega) HV9_41.out)
    have HVs10_42 := Hd (Rep.Es.keep hfs (fun g hg => by have := hg.2; simp; omega) HV10_41.out)
    go_upto_region 20 with fail
    generalize (w41.setCell ⟨w0.heap.size, 11, none⟩ (.bool bd)) = wv42 at HHs42 HBs42 HXs42 HFs42 hsz42 HVs8_42 HVs9_42 HVs10_42 ⊢
    clear hfs x11_42 f11_42 HH41 HB41 HF41 HX41 HV8_41 HV9_41 HV10_41
    have hxx42 := HXs42.out.lt
    have hpp42 := HHs42.out.lt
    have hbb42 := HBs42.out.lt
    have HO := Hd (St.orders_yes HT37.out HQ37.out HS38.out HS39.out HSd.out)
    have HS : Hid (St (selectsW n) s (.mk 6 m25 [] [] [] [] [] m28 [xa, xcc] l35 [x] bd []) s41) := Hd (St.bnd HS22.out (St.selects (n := n) (St.items_all HT23.out HQ23.out) HS24.out HS25.out HJ.out HS35.out HO.out))
    obtain ⟨x0, x1, x2, x3, x4, x5, x6, x7, x8, x9, x10, x11, x12, f0, f1, f2, f3, f4, f5, f6, f7, f8, f9, f10, f11, f12⟩ := c13_of HXs42.out
    obtain ⟨y0, y1, y2, y3, y4, y5, y6, y7, y8, y9, y10, y11, y12, k0, k1, k2, k3, k4, k5, k6, k7, k8, k9, k10, k11, k12⟩ := c13_of HBs42.out
    have hRX : ¬ w0.heap.size = w.heap.size := by omega
    go_wp2_with fail
    exact bodyPost_ret (ret_cell13 rfl _ w.heap.size rfl _ _ _ _ _ _ _ _ _ _ _ _ _ _ (blkPut13 HBs42.out _ _ _ _ _ _ _ _ _ _ _ _ _)) rfl ⟨.mk 6 m25 [] [] [] [] [] m28 [xa, xcc] l35 [x] bd [], s41, ⟨_, rfl, .mk 6 m25 [] [] [] [] [] m28 [xa, xcc] l35 [x] bd [] _ _ _ _ _ _ _ _ .nil .nil Rep.Es.nil .nil (Rep.Es.mono (A' := fun b => w.heap.size <= b) (fun b hb => by have := hb.1; omega) (Rep.Es.keep (frPut13 (Fr.refl [some w.heap.size] _) (.inl (by simp)) _ _ _ _ _ _ _ _ _ _ _ _ _) (fun b hb => by have := hb.1; simp; omega) HVs8_42.out)) (Rep.Es.mono (A' := fun b => w.heap.size <= b) (fun b hb => by have := hb.1; omega) (Rep.Es.keep (frPut13 (Fr.refl [some w.heap.size] _) (.inl (by simp)) _ _ _ _ _ _ _ _ _ _ _ _ _) (fun b hb => by have := hb.1; simp; omega) HVs9_42.out)) (Rep.Es.mono (A' := fun b => w.heap.size <= b) (fun b hb => by have := hb.1; omega) (Rep.Es.keep (frPut13 (Fr.refl [some w.heap.size] _) (.inl (by simp)) _ _ _ _ _ _ _ _ _ _ _ _ _) (fun b hb => by have := hb.1; simp; omega) HVs10_42.out)) Px.SS.nil⟩, HHs42.out.keepP (frPut13 (Fr.refl [some w.heap.size] _) (.inl (by simp)) _ _ _ _ _ _ _ _ _ _ _ _ _) (fun g hg => by simp; omega), HS.out, HD41.out, frPut13 HFs42.out (.inr (Nat.le_refl _)) _ _ _ _ _ _ _ _ _ _ _ _ _⟩
   |false =>
    have HT37 := Hd ht
    have hf := HFt37.out
    have hh : RR w37 P s35 := by have := HHt37.out; rw [took, ht] at this; exact this
    clear ht HFt37 HHt37
    have HB37 := Hd (HBs36.out.keep hf (by simp; omega))
    have HX37 := Hd (HXs36.out.keep hf (by simp; omega))
    have HV8_37 := Hd (Rep.Es.keep hf (fun g hg => by have := hg.1; simp; omega) HVs8_36.out)
    have HV9_37 := Hd (Rep.Es.keep hf (fun g hg => by have := hg.1; simp; omega) HVs9_36.out)
    have HF37 := Hd (HFs36.out.trans hf)
    have HH37 := Hd hh
    have HD37 := Hd (HD35.out.trans (Dp.refl HD35.out.wd))
    have hb37 := HB37.out.lt
    have hp37 := HH37.out.lt
    have hx37 := HX37.out.lt
    clear hf HHs36 HBs36 HFs36 HD35 HXs36 HVs8_36 HVs9_36
    clear hh
    have HO := Hd (St.orders_no HT37.out)
    have HS : Hid (St (selectsW n) s (.mk 6 m25 [] [] [] [] [] m28 [xa, xcc] l35 [] false []) s35) := Hd (St.bnd HS22.out (St.selects (n := n) (St.items_all HT23.out HQ23.out) HS24.out HS25.out HJ.out HS35.out HO.out))
    obtain ⟨x0, x1, x2, x3, x4, x5, x6, x7, x8, x9, x10, x11, x12, f0, f1, f2, f3, f4, f5, f6, f7, f8, f9, f10, f11, f12⟩ := c13_of HX37.out
    obtain ⟨y0, y1, y2, y3, y4, y5, y6, y7, y8, y9, y10, y11, y12, k0, k1, k2, k3, k4, k5, k6, k7, k8, k9, k10, k11, k12⟩ := c13_of HB37.out
    have hRX : ¬ w0.heap.size = w.heap.size := by omega
    go_wp2_with fail
    exact bodyPost_ret (ret_cell13 rfl _ w.heap.size rfl _ _ _ _ _ _ _ _ _ _ _ _ _ _ (blkPut13 HB37.out _ _ _ _ _ _ _ _ _ _ _ _ _)) rfl ⟨.mk 6 m25 [] [] [] [] [] m28 [xa, xcc] l35 [] false [], s35, ⟨_, rfl, .mk 6 m25 [] [] [] [] [] m28 [xa, xcc] l35 [] false [] _ _ _ _ _ _ _ _ .nil .nil Rep.Es.nil .nil (Rep.Es.mono (A' := fun b => w.heap.size <= b) (fun b hb => by have := hb.1; omega) (Rep.Es.keep (frPut13 (Fr.refl [some w.heap.size] _) (.inl (by simp)) _ _ _ _ _ _ _ _ _ _ _ _ _) (fun b hb => by have := hb.1; simp; omega) HV8_37.out)) (Rep.Es.mono (A' := fun b => w.heap.size <= b) (fun b hb => by have := hb.1; omega) (Rep.Es.keep (frPut13 (Fr.refl [some w.heap.size] _) (.inl (by simp)) _ _ _ _ _ _ _ _ _ _ _ _ _) (fun b hb => by have := hb.1; simp; omega) HV9_37.out)) Rep.Es.nil Px.SS.nil⟩, HH37.out.keepP (frPut13 (Fr.refl [some w.heap.size] _) (.inl (by simp)) _ _ _ _ _ _ _ _ _ _ _ _ _) (fun g hg => by simp; omega), HS.out, HD37.out, frPut13 HF37.out (.inr (Nat.le_refl _)) _ _ _ _ _ _ _ _ _ _ _ _ _⟩
  |false =>
   have HT27 := Hd ht
   have hf := HFt27.out
   have hh : RR w27 P s25 := by have := HHt27.out; rw [took, ht] at this; exact this
   clear ht HFt27 HHt27
   have HB27 := Hd (HBs26.out.keep hf (by simp; omega))
   have HX27 := Hd (HXs26.out.keep hf (by simp; omega))
   have HF27 := Hd (HFs26.out.trans hf)
   have HH27 := Hd hh
   have HD27 := Hd (HD25.out.trans (Dp.refl HD25.out.wd))
   have hb27 := HB27.out.lt
   have hp27 := HH27.out.lt
   have hx27 := HX27.out.lt
   clear hf HHs26 HBs26 HFs26 HD25 HXs26
   clear hh
   have HJ := Hd (St.joins_no HT27.out)
   have hwn28 : s25.l.length <= n := by have := HD27.out.len; omega
   go_wp2_with fail
   refine (where_any n P s25 _ HH27.out HD27.out.wd hwn28).mono ?_
   rintro e w28 ⟨l28, v, sx, rfl, hv, h, hst, hd, hf⟩
   obtain ⟨a9_28, n9_28, c9_28, rfl⟩ := Rep.Es.form hv
   have HS28 := Hd hst
   have HVw28 := Hd (Rep.Es.mono (A' := fun b => w.heap.size < b /\ b ≠ w0.heap.size) (fun b hb => ⟨by omega, by omega⟩) hv)
   clear hst hv
   have HB28 := Hd (HB27.out.keep hf (by simp; omega))
   have HX28 := Hd (HX27.out.keep hf (by simp; omega))
   have HF28 := Hd (HF27.out.trans hf)
   have HH28 := Hd h
   have HD28 := Hd (HD27.out.trans hd)
   obtain ⟨s28, hs28⟩ : ∃ z, z = sx := ⟨_, rfl⟩
   rw [<- hs28] at HH28 HD28 HS28
   have HQ28 := Hd hs28
   clear hs28
   have hb28 := HB28.out.lt
   have hp28 := HH28.out.lt
   have hx28 := HX28.out.lt
   clear hf HH27 HB27 HF27 HD27 HX27
   clear h hd
   have x9_29 := HX28.out.cell 9
   have f9_29 := HX28.out.free 9
   simp only [List.getElem?_cons_zero, List.getElem?_cons_succ] at x9_29
   have hfs := ((Fr.refl [some w0.heap.size] w28).setCell (p := ⟨w0.heap.size, 9, none⟩) (.inl (by simp)) (.slice a9_28 n9_28 c9_28))
   have HHs29 := Hd (HH28.out.keepP hfs (fun g hg => by simp; omega))
   have HBs29 := Hd (HB28.out.keep hfs (by simp; omega))
   have HXs29 := Hd (HX28.out.set 9 (.slice a9_28 n9_28 c9_28))
   simp only [List.set_cons_succ, List.set_cons_zero] at HXs29
   have HFs29 : Hid (Fr [some P] w (w28.setCell ⟨w0.heap.size, 9, none⟩ (.slice a9_28 n9_28 c9_28))) := Hd (HF28.out.trans' hfs (fun i hi => .inr (by simp at hi; omega)))
   have hsz29 : (w28.setCell ⟨w0.heap.size, 9, none⟩ (.slice a9_28 n9_28 c9_28)).heap.size = w28.heap.size := by simp [World.setCell]
   have HVs9_29 := Hd (Rep.Es.keep hfs (fun g hg => by have := hg.2; simp; omega) HVw28.out)
   go_upto_region 16 with fail
   generalize (w28.setCell ⟨w0.heap.size, 9, none⟩ (.slice a9_28 n9_28 c9_28)) = wv29 at HHs29 HBs29 HXs29 HFs29 hsz29 HVs9_29 ⊢
   clear hfs x9_29 f9_29 HH28 HB28 HF28 HX28 HVw28
   have hxx29 := HXs29.out.lt
   have hpp29 := HHs29.out.lt
   have hbb29 := HBs29.out.lt
   go_wp2_with fail
   refine (take_any P [111, 114, 100, 101, 114] s28 _ HHs29.out).mono ?_
   rintro e w30 ⟨rfl, h, hf⟩
   have HFt30 := Hd hf
   have HHt30 := Hd h
   clear h hf
   cases ht : taken [111, 114, 100, 101, 114] s28 with
   |true =>
    have HT30 := Hd ht
    have hf := HFt30.out
    have hh : RR w30 P (skip s28) := by have := HHt30.out; rw [took, ht] at this; exact this
    clear ht HFt30 HHt30
    have hlt30 := skip_lt HT30.out
    have HB30 := Hd (HBs29.out.keep hf (by simp; omega))
    have HX30 := Hd (HXs29.out.keep hf (by simp; omega))
    have HV9_30 := Hd (Rep.Es.keep hf (fun g hg => by have := hg.1; simp; omega) HVs9_29.out)
    have HF30 := Hd (HFs29.out.trans hf)
    have HH30 := Hd hh
    have HD30 := Hd (HD28.out.trans (Dp.skip HD28.out.wd))
    obtain ⟨s30, hs30⟩ : ∃ z, z = (skip s28) := ⟨_, rfl⟩
    rw [<- hs30] at HH30 HD30 hlt30
    have HQ30 := Hd hs30
    clear hs30
    have hb30 := HB30.out.lt
    have hp30 := HH30.out.lt
    have hx30 := HX30.out.lt
    clear hf HHs29 HBs29 HFs29 HD28 HXs29 HVs9_29
    clear hh
    go_wp2_with fail
    refine (must_any P [98, 121] s30 _ HH30.out).mono ?_
    rintro e w31 ⟨rfl, h, hf⟩
    have HS31 := Hd (St.must [98, 121] s30)
    have HB31 := Hd (HB30.out.keep hf (by simp; omega))
    have HX31 := Hd (HX30.out.keep hf (by simp; omega))
    have HV9_31 := Hd (Rep.Es.keep hf (fun g hg => by have := hg.1; simp; omega) HV9_30.out)
    have HF31 := Hd (HF30.out.trans hf)
    have HH31 := Hd h
    have HD31 := Hd (HD30.out.trans (Dp.musted HD30.out.wd [98, 121]))
    obtain ⟨s31, hs31⟩ : ∃ z, z = (musted [98, 121] s30) := ⟨_, rfl⟩
    rw [<- hs31] at HH31 HD31 HS31
    have HQ31 := Hd hs31
    clear hs31
    have hb31 := HB31.out.lt
    have hp31 := HH31.out.lt
    have hx31 := HX31.out.lt
    clear hf HH30 HB30 HF30 HD30 HX30 HV9_30
    clear h
    go_wp2_with fail
    refine (column_any P s31 _ HH31.out HD31.out.wd).mono ?_
    rintro e w32 ⟨x, sx, xs, rfl, hx, h, hst, hd, hf⟩
    obtain ⟨op, kind, int, t, tb, nm, va, vl, vc, rfl⟩ := e_form hx
    have HS32 := Hd hst
    have HEx := Hd (Rep.E.mono (A' := fun b => w.heap.size < b /\ b ≠ w0.heap.size) (fun b hb => ⟨by omega, by omega⟩) hx)
    clear hx hst
    have HB32 := Hd (HB31.out.keep hf (by simp; omega))
    have HX32 := Hd (HX31.out.keep hf (by simp; omega))
    have HV9_32 := Hd (Rep.Es.keep hf (fun g hg => by have := hg.1; simp; omega) HV9_31.out)
    have HF32 := Hd (HF31.out.trans hf)
    have HH32 := Hd h
    have HD32 := Hd (HD31.out.trans hd)
    obtain ⟨s32, hs32⟩ : ∃ z, z = sx := ⟨_, rfl⟩
    rw [<- hs32] at HH32 HD32 HS32
    have HQ32 := Hd hs32
    clear hs32
    have hb32 := HB32.out.lt
    have hp32 := HH32.out.lt
    have hx32 := HX32.out.lt
    clear hf HH31 HB31 HF31 HD31 HX31 HV9_31
    clear h hd
    have x_ := HX32.out.cell 10
    have f_ := HX32.out.free 10
    simp only [List.getElem?_cons_zero, List.getElem?_cons_succ] at x_
    have hfs := ((Fr.refl [some w0.heap.size] w32).setCell (p := ⟨w0.heap.size, 10, none⟩) (.inl (by simp)) (.slice (some ⟨w32.heap.size, 0, none⟩) 1 1)).alloc (.cells #[.int .i64 op, .int .i64 kind, .int .i64 int, .string ⟨t.toArray⟩, .string ⟨tb.toArray⟩, .string ⟨nm.toArray⟩, .slice va vl vc] 82)
    have hsz_ : (w32.setCell ⟨w0.heap.size, 10, none⟩ (.slice (some ⟨w32.heap.size, 0, none⟩) 1 1)).heap.size = w32.heap.size := by simp [World.setCell]
    have HHe33 := Hd (HH32.out.keepP hfs (fun g hg => by simp; omega))
    have HBe33 := Hd (HB32.out.keep hfs (by simp; omega))
    have HXe33 := Hd (Blk.alloc (HX32.out.set 10 (.slice (some ⟨w32.heap.size, 0, none⟩) 1 1)) (.cells #[.int .i64 op, .int .i64 kind, .int .i64 int, .string ⟨t.toArray⟩, .string ⟨tb.toArray⟩, .string ⟨nm.toArray⟩, .slice va vl vc] 82))
    simp only [List.set_cons_succ, List.set_cons_zero] at HXe33
    have HFe33 : Hid (Fr [some P] w ((w32.setCell ⟨w0.heap.size, 10, none⟩ (.slice (some ⟨w32.heap.size, 0, none⟩) 1 1)).alloc (.cells #[.int .i64 op, .int .i64 kind, .int .i64 int, .string ⟨t.toArray⟩, .string ⟨tb.toArray⟩, .string ⟨nm.toArray⟩, .slice va vl vc] 82))) := Hd (HF32.out.trans' hfs (fun i hi => .inr (by simp at hi; omega)))
    have hes := es_mk (A := fun b => w.heap.size < b /\ b ≠ w0.heap.size) (w := (w32.setCell ⟨w0.heap.size, 10, none⟩ (.slice (some ⟨w32.heap.size, 0, none⟩) 1 1))) (.cons x [] _ [] (Rep.E.keep ((Fr.refl [some w0.heap.size] w32).setCell (p := ⟨w0.heap.size, 10, none⟩) (.inl (by simp)) (.slice (some ⟨w32.heap.size, 0, none⟩) 1 1)) (fun g hg => by have := hg.2; simp; omega) HEx.out) .nil) ⟨by rw [hsz_]; omega, by rw [hsz_]; omega⟩ (by simp [maxLen])
    rw [List.append_nil, hsz_] at hes
    have HVe33 := Hd hes
    have HVe9_33 := Hd (Rep.Es.keep hfs (fun g hg => by have := hg.2; simp; omega) HV9_32.out)
    have hnx_ : ¬ w0.heap.size = w32.heap.size := by omega
    have hnx2_ : w0.heap.size < w32.heap.size + 1 := by omega
    go_upto_region 19 with fail
    generalize ((w32.setCell ⟨w0.heap.size, 10, none⟩ (.slice (some ⟨w32.heap.size, 0, none⟩) 1 1)).alloc (.cells #[.int .i64 op, .int .i64 kind, .int .i64 int, .string ⟨t.toArray⟩, .string ⟨tb.toArray⟩, .string ⟨nm.toArray⟩, .slice va vl vc] 82)) = we33 at HHe33 HBe33 HXe33 HFe33 HVe33 HVe9_33 ⊢
    clear hfs hes x_ f_ HEx hsz_ HH32 HB32 HF32 HX32 HV9_32
    have hxe33 := HXe33.out.lt
    have hpe33 := HHe33.out.lt
    have hbe33 := HBe33.out.lt
    go_wp2_with fail
    refine (take_any P [100, 101, 115, 99] s32 _ HHe33.out).mono ?_
    rintro e w34 ⟨rfl, h, hf⟩
    have HSd := Hd (St.desc s32)
    change Hid (St (fun _ => CM.desc) s32 (taken [100, 101, 115, 99] s32) (took [100, 101, 115, 99] s32)) at HSd
    obtain ⟨bd, hbd⟩ : ∃ b, taken [100, 101, 115, 99] s32 = b := ⟨_, rfl⟩
    rw [hbd] at HSd ⊢
    clear hbd
    have HB34 := Hd (HBe33.out.keep hf (by simp; omega))
    have HX34 := Hd (HXe33.out.keep hf (by simp; omega))
    have HV9_34 := Hd (Rep.Es.keep hf (fun g hg => by have := hg.1; simp; omega) HVe9_33.out)
    have HV10_34 := Hd (Rep.Es.keep hf (fun g hg => by have := hg.1; simp; omega) HVe33.out)
    have HF34 := Hd (HFe33.out.trans hf)
    have HH34 := Hd h
    have HD34 := Hd (HD32.out.trans (Dp.took HD32.out.wd [100, 101, 115, 99]))
    obtain ⟨s34, hs34⟩ : ∃ z, z = (took [100, 101, 115, 99] s32) := ⟨_, rfl⟩
    rw [<- hs34] at HH34 HD34 HSd
    have HQ34 := Hd hs34
    clear hs34
    have hb34 := HB34.out.lt
    have hp34 := HH34.out.lt
    have hx34 := HX34.out.lt
    clear hf HHe33 HBe33 HFe33 HD32 HXe33 HVe9_33 HVe33
    clear h
    have x11_35 := HX34.out.cell 11
    have f11_35 := HX34.out.free 11
    simp only [List.getElem?_cons_zero, List.getElem?_cons_succ] at x11_35
    have hfs := ((Fr.refl [some w0.heap.size] w34).setCell (p := ⟨w0.heap.size, 11, none⟩) (.inl (by simp)) (.bool bd))
    have HHs35 := Hd (HH34.out.keepP hfs (fun g hg => by simp; omega))
    have HBs35 := Hd (HB34.out.keep hfs (by simp; omega))
    have HXs35 := Hd (HX34.out.set 11 (.bool bd))
    simp only [List.set_cons_succ, List.set_cons_zero] at HXs35
    have HFs35 : Hid (Fr [some P] w (w34.setCell ⟨w0.heap.size, 11, none⟩ (.bool bd))) := Hd (HF34.out.trans' hfs (fun i hi => .inr (by simp at hi; omega)))
    have hsz35 : (w34.setCell ⟨w0.heap.size, 11, none⟩ (.bool bd)).heap.size = w34.heap.size := by simp [World.setCell]
    have HVs9_35 := Hd (Rep.Es.keep hfs (fun g hg => by have := hg.2; simp; omega) HV9_34.out)
    have HVs10_35 := Hd (Rep.Es.keep hfs (fun g hg => by have := hg.2; simp; omega) HV10_34.out)
    go_upto_region 20 with fail
    generalize (w34.setCell ⟨w0.heap.size, 11, none⟩ (.bool bd)) = wv35 at HHs35 HBs35 HXs35 HFs35 hsz35 HVs9_35 HVs10_35 ⊢
    clear hfs x11_35 f11_35 HH34 HB34 HF34 HX34 HV9_34 HV10_34
    have hxx35 := HXs35.out.lt
    have hpp35 := HHs35.out.lt
    have hbb35 := HBs35.out.lt
    have HO := Hd (St.orders_yes HT30.out HQ30.out HS31.out HS32.out HSd.out)
    have HS : Hid (St (selectsW n) s (.mk 6 m25 [] [] [] [] [] [] [] l28 [x] bd []) s34) := Hd (St.bnd HS22.out (St.selects (n := n) (St.items_all HT23.out HQ23.out) HS24.out HS25.out HJ.out HS28.out HO.out))
    obtain ⟨x0, x1, x2, x3, x4, x5, x6, x7, x8, x9, x10, x11, x12, f0, f1, f2, f3, f4, f5, f6, f7, f8, f9, f10, f11, f12⟩ := c13_of HXs35.out
    obtain ⟨y0, y1, y2, y3, y4, y5, y6, y7, y8, y9, y10, y11, y12, k0, k1, k2, k3, k4, k5, k6, k7, k8, k9, k10, k11, k12⟩ := c13_of HBs35.out
    have hRX : ¬ w0.heap.size = w.heap.size := by omega
    go_wp2_with fail
    exact bodyPost_ret (ret_cell13 rfl _ w.heap.size rfl _ _ _ _ _ _ _ _ _ _ _ _ _ _ (blkPut13 HBs35.out _ _ _ _ _ _ _ _ _ _ _ _ _)) rfl ⟨.mk 6 m25 [] [] [] [] [] [] [] l28 [x] bd [], s34, ⟨_, rfl, .mk 6 m25 [] [] [] [] [] [] [] l28 [x] bd [] _ _ _ _ _ _ _ _ .nil .nil Rep.Es.nil .nil Rep.Es.nil (Rep.Es.mono (A' := fun b => w.heap.size <= b) (fun b hb => by have := hb.1; omega) (Rep.Es.keep (frPut13 (Fr.refl [some w.heap.size] _) (.inl (by simp)) _ _ _ _ _ _ _ _ _ _ _ _ _) (fun b hb => by have := hb.1; simp; omega) HVs9_35.out)) (Rep.Es.mono (A' := fun b => w.heap.size <= b) (fun b hb => by have := hb.1; omega) (Rep.Es.keep (frPut13 (Fr.refl [some w.heap.size] _) (.inl (by simp)) _ _ _ _ _ _ _ _ _ _ _ _ _) (fun b hb => by have := hb.1; simp; omega) HVs10_35.out)) Px.SS.nil⟩, HHs35.out.keepP (frPut13 (Fr.refl [some w.heap.size] _) (.inl (by simp)) _ _ _ _ _ _ _ _ _ _ _ _ _) (fun g hg => by simp; omega), HS.out, HD34.out, frPut13 HFs35.out (.inr (Nat.le_refl _)) _ _ _ _ _ _ _ _ _ _ _ _ _⟩
   |false =>
    have HT30 := Hd ht
    have hf := HFt30.out
    have hh : RR w30 P s28 := by have := HHt30.out; rw [took, ht] at this; exact this
    clear ht HFt30 HHt30
    have HB30 := Hd (HBs29.out.keep hf (by simp; omega))
    have HX30 := Hd (HXs29.out.keep hf (by simp; omega))
    have HV9_30 := Hd (Rep.Es.keep hf (fun g hg => by have := hg.1; simp; omega) HVs9_29.out)
    have HF30 := Hd (HFs29.out.trans hf)
    have HH30 := Hd hh
    have HD30 := Hd (HD28.out.trans (Dp.refl HD28.out.wd))
    have hb30 := HB30.out.lt
    have hp30 := HH30.out.lt
    have hx30 := HX30.out.lt
    clear hf HHs29 HBs29 HFs29 HD28 HXs29 HVs9_29
    clear hh
    have HO := Hd (St.orders_no HT30.out)
    have HS : Hid (St (selectsW n) s (.mk 6 m25 [] [] [] [] [] [] [] l28 [] false []) s28) := Hd (St.bnd HS22.out (St.selects (n := n) (St.items_all HT23.out HQ23.out) HS24.out HS25.out HJ.out HS28.out HO.out))
    obtain ⟨x0, x1, x2, x3, x4, x5, x6, x7, x8, x9, x10, x11, x12, f0, f1, f2, f3, f4, f5, f6, f7, f8, f9, f10, f11, f12⟩ := c13_of HX30.out
    obtain ⟨y0, y1, y2, y3, y4, y5, y6, y7, y8, y9, y10, y11, y12, k0, k1, k2, k3, k4, k5, k6, k7, k8, k9, k10, k11, k12⟩ := c13_of HB30.out
    have hRX : ¬ w0.heap.size = w.heap.size := by omega
    go_wp2_with fail
    exact bodyPost_ret (ret_cell13 rfl _ w.heap.size rfl _ _ _ _ _ _ _ _ _ _ _ _ _ _ (blkPut13 HB30.out _ _ _ _ _ _ _ _ _ _ _ _ _)) rfl ⟨.mk 6 m25 [] [] [] [] [] [] [] l28 [] false [], s28, ⟨_, rfl, .mk 6 m25 [] [] [] [] [] [] [] l28 [] false [] _ _ _ _ _ _ _ _ .nil .nil Rep.Es.nil .nil Rep.Es.nil (Rep.Es.mono (A' := fun b => w.heap.size <= b) (fun b hb => by have := hb.1; omega) (Rep.Es.keep (frPut13 (Fr.refl [some w.heap.size] _) (.inl (by simp)) _ _ _ _ _ _ _ _ _ _ _ _ _) (fun b hb => by have := hb.1; simp; omega) HV9_30.out)) Rep.Es.nil Px.SS.nil⟩, HH30.out.keepP (frPut13 (Fr.refl [some w.heap.size] _) (.inl (by simp)) _ _ _ _ _ _ _ _ _ _ _ _ _) (fun g hg => by simp; omega), HS.out, HD30.out, frPut13 HF30.out (.inr (Nat.le_refl _)) _ _ _ _ _ _ _ _ _ _ _ _ _⟩
 |false =>
  have HT23 := Hd ht
  have hf := HFt23.out
  have hh : RR w23 P s22 := by have := HHt23.out; rw [took, ht] at this; exact this
  clear ht HFt23 HHt23
  have HB23 := Hd (HB22.out.keep hf (by simp; omega))
  have HX23 := Hd (HX22.out.keep hf (by simp; omega))
  have HF23 := Hd (HF22.out.trans hf)
  have HH23 := Hd hh
  have HD23 := Hd (HD22.out.trans (Dp.refl HD22.out.wd))
  have hb23 := HB23.out.lt
  have hp23 := HH23.out.lt
  have hx23 := HX23.out.lt
  clear hf HH22 HB22 HF22 HD22 HX22
  clear hh
  go_upto_region 4 with fail
  have HG0 : Hid (Gr Px.kIt 60 (w0.heap.size + 1) w23 (.slice none 0 0) []) := Hd Gr.nil
  have HLEN : Hid (([] : List It).length <= 1000) := Hd (by simp)
  have hle1 := HD23.out.len
  have hown : ∀ b, (Value.ownBlock (.slice none 0 0)) = some b -> w0.heap.size < b /\ b < w23.heap.size := fun b hb => ⟨HG0.out.own b hb, HG0.out.live b hb⟩
  have HOWN := Hd hown
  have hnm : ∀ b, w.heap.size <= b -> b <= w0.heap.size -> some b ∉ [some P, Value.ownBlock (.slice none 0 0)] := fun b h1 h2 hm => by simp only [List.mem_cons, Option.some.injEq, List.not_mem_nil, or_false] at hm; rcases hm with h | h; omega; have := hown _ h.symm; omega
  have HNM := Hd hnm
  have HKEY : Hid (∀ W', Fr [some P, Value.ownBlock (.slice none 0 0)] w23 W' -> W'.cell? ⟨w0.heap.size, 6, none⟩ = some (.slice none 0 0)) := Hd (fun W' hW => (HX23.out.keep hW (hnm _ (by omega) (Nat.le_refl _))).cell 6)
  have hfq : Fr [some P, Value.ownBlock (.slice none 0 0)] w23 w23.drew := Fr.drew (Fr.refl _ w23)
  have hI0 := HKEY.out _ hfq
  clear hown hnm
  refine Seq3.wp_region_text (fun i => i != 3 && i != 4 && i != 5 && i != 7) (fun _ => none) (fun i => i == 7) (fun w' => w'.cell? ⟨w0.heap.size, 6, none⟩ = some (.slice none 0 0)) (by kernel_rfl) (by kernel_rfl) hI0 ?_
  (refine Seq3.wpL_quiet rfl rfl rfl (fun K hK => ?_); go_big_quiet_op; (first | refine hK _ ?_ | refine ⟨_, by intros; rfl, hK _ ?_⟩); clear hK K)
  refine Seq3.wpL_held (v := .slice none 0 0) rfl rfl (fun w' hI => ?_) ?_
  ·have hI' : w'.cell? ⟨w0.heap.size, 6, none⟩ = some (.slice none 0 0) := hI
   simp [go_sem, execOp, hI']
  simp only [Act.put, List.setIfInBounds_toArray, List.set_cons_succ, List.set_cons_zero]
  (refine Seq3.wpL_quiet rfl rfl rfl (fun K hK => ?_); go_big_quiet_op; (first | refine hK _ ?_ | refine ⟨_, by intros; rfl, hK _ ?_⟩); clear hK K)
  refine Seq3.wpL_call rfl rfl (by kernel_rfl) (item_any P s22 w23.drew HH23.out.drew HD23.out.wd) ?_
  rintro e wx ⟨x, sx, rfl, h, hst, hd, hf⟩
  have hf1 := hfq.trans' hf (by simp)
  refine ⟨_, rfl, HKEY.out _ hf1, ?_⟩
  simp only [Act.put, List.setIfInBounds_toArray, List.set_cons_succ, List.set_cons_zero]
  have HGx := Hd ((HG0.out.keep (Fr.drew (Fr.refl [] w23)) (by simp)).keep hf (fun g hg => by simp; omega))
  have hsx := hf.size
  simp only [World.size_drew] at hsx
  have HST24 := Hd hst
  have HDx := Hd hd
  have HRx := Hd h
  have hpx := h.lt
  clear hst hd h hf
  have hf3 := hf1.alloc (.cells #[.int .i64 x.agg, .string ⟨x.table.toArray⟩, .string ⟨x.name.toArray⟩] 60)
  refine Seq3.wpL_val (v := .slice (some ⟨wx.heap.size, 0, none⟩) 1 1) (w' := wx.alloc (.cells #[.int .i64 x.agg, .string ⟨x.table.toArray⟩, .string ⟨x.name.toArray⟩] 60)) rfl rfl (by simp [go_sem, execOp, Px.itC]) (HKEY.out _ hf3) ?_
  simp only [Act.put, List.setIfInBounds_toArray, List.set_cons_succ, List.set_cons_zero]
  obtain ⟨⟨cs, hRL, hROW⟩, hGO⟩ := HGx.out
  have HRL := Hd hRL
  have HROW := Hd hROW
  have HROWz := Hd (hROW.keep ((Fr.refl [] wx).alloc (.cells #[.int .i64 x.agg, .string ⟨x.table.toArray⟩, .string ⟨x.name.toArray⟩] 60)) (by simp))
  clear hRL hROW hGO
  obtain ⟨hmx, hby⟩ := Px.lim96 (n := ([]).length) (b := 40) HLEN.out (by decide)
  obtain ⟨i0, hi, hz0, hz1, hz2⟩ := info_parts inf_it
  refine wpL_append rfl rfl _ _ 26 rfl 60 i0 (.agg #[.int .i64 0, .string ⟨#[]⟩, .string ⟨#[]⟩]) 3 40 Tryz.underlying26 hi hz0 hz1 hz2 rfl (by decide) (.slice none 0 0) ([]).length cs rfl HROWz.out ⟨wx.heap.size, 0, none⟩ 1 1 [.int .i64 x.agg, .string ⟨x.table.toArray⟩, .string ⟨x.name.toArray⟩] rfl rfl (Lx.four_new wx 60 [.int .i64 x.agg, .string ⟨x.table.toArray⟩, .string ⟨x.name.toArray⟩]) (by simp [Value.oneCell']) hmx hby ?_
  intro v' wv hrv hfv hov
  have hfT := hf3.trans' hfv (fun g hg => .inl (by simp only [List.mem_cons, List.not_mem_nil, or_false] at hg ⊢; exact .inr hg))
  refine ⟨.inr (HKEY.out _ hfT), ?_⟩
  simp only [Act.put, List.setIfInBounds_toArray, List.set_cons_succ, List.set_cons_zero]
  obtain ⟨a24, l24, c24, rfl⟩ := row_slice' hrv
  have hx : Px.kIt.E (fun b => w0.heap.size + 1 <= b /\ (Value.ownBlock (.slice none 0 0)) ≠ some b) wx x [.int .i64 x.agg, .string ⟨x.table.toArray⟩, .string ⟨x.name.toArray⟩] := rfl
  obtain ⟨st1, _⟩ := Gr.push (x := x) HRL.out HROW.out (fun g hg => (HOWN.out g hg).1) (by omega) hx hrv hfv (by rw [World.size_alloc] at hov; exact hov)
  have HGv := Hd st1
  have HRv := Hd ((HRx.out.alloc (.cells #[.int .i64 x.agg, .string ⟨x.table.toArray⟩, .string ⟨x.name.toArray⟩] 60)).keepP hfv (fun g hg hm => by simp only [List.mem_cons, List.not_mem_nil, or_false] at hm; have := (HOWN.out g hm.symm).1; omega))
  have HBv := Hd (HB23.out.keep hfT (HNM.out _ (Nat.le_refl _) (by omega)))
  have HXv := Hd (HX23.out.keep hfT (HNM.out _ (by omega) (Nat.le_refl _)))
  have HFv := Hd (HF23.out.trans' hfT (fun i hi => by simp only [List.mem_cons, Option.some.injEq, List.not_mem_nil, or_false] at hi ⊢; rcases hi with h | h; exact .inl h; exact .inr (by have := (HOWN.out i h.symm).1; omega)))
  have hsv := hfv.size
  simp only [World.size_alloc] at hsv
  clear hrv hfv hov hmx hby st1 HRL HROW HROWz hx
  (refine Seq3.wpL_quiet rfl rfl rfl (fun K hK => ?_); go_big_quiet_op; (first | refine hK _ ?_ | refine ⟨_, by intros; rfl, hK _ ?_⟩); clear hK K)
  have k5 := HXv.out.cell 6
  have f5 := HXv.out.free 6
  simp only [List.getElem?_cons_zero, List.getElem?_cons_succ] at k5
  refine Seq3.wpL_lasts (w' := wv.setCell ⟨w0.heap.size, 6, none⟩ (.slice a24 l24 c24)) rfl rfl rfl (by simp [go_sem, execOp, k5, f5]) ?_
  simp only [Act.put, List.setIfInBounds_toArray, List.set_cons_succ, List.set_cons_zero]
  refine Seq3.wpL_nil ?_
  have hfs := (Fr.refl [some w0.heap.size] wv).setCell (p := ⟨w0.heap.size, 6, none⟩) (.inl (by simp)) (.slice a24 l24 c24)
  have HHa24 := Hd (HRv.out.keepP hfs (fun g hg => by simp; omega))
  have HBa24 := Hd (HBv.out.keep hfs (by simp; omega))
  have HXa24 := Hd (HXv.out.set 6 (.slice a24 l24 c24))
  simp only [List.set_cons_succ, List.set_cons_zero] at HXa24
  have HFa24 := Hd (HFv.out.trans' hfs (fun i hi => .inr (by simp at hi; omega)))
  have HGa24 := Hd (HGv.out.keep hfs (fun g hg => by simp; omega))
  have HDa24 := Hd (HD23.out.trans HDx.out)
  clear hI0 hfq hf1 hf3 hfT k5 f5 hfs HKEY HOWN HNM HGx HGv HRv HBv HXv HFv HRx hi hz0 hz1 hz2
  generalize wv.setCell ⟨w0.heap.size, 6, none⟩ (.slice a24 l24 c24) = wa24 at HHa24 HBa24 HXa24 HFa24 HGa24 ⊢
  have hxa24 := HXa24.out.lt
  have hpa24 := HHa24.out.lt
  have hba24 := HBa24.out.lt
  simp only [List.nil_append] at HGa24
  have hle2 := RR.le HHa24.out
  go_wp2_with fail
  go_loopw [] (fun wr => ∃ (acc : List It) (s' : PS) (a5 : Option Addr) (l5 c5 : Nat), Hid (∀ b s3, St (fun d => moreL (CM.item) acc) s' b s3 -> St (fun d => CM.list (CM.item)) s22 b s3) /\ Hid (Dp s s') /\ acc.length + s'.l.length <= 1001 /\ Hid (Gr Px.kIt 60 (w0.heap.size + 1) wr (.slice a5 l5 c5) acc) /\ Hid (RR wr P s') /\ Hid (Blk wr w0.heap.size 29 [.int .i64 6, .string ⟨#[]⟩, .string ⟨#[]⟩, .slice none 0 0, .slice none 0 0, .slice none 0 0, .slice a5 l5 c5, .string ⟨#[]⟩, .slice none 0 0, .slice none 0 0, .slice none 0 0, .bool false, .slice none 0 0]) /\ Hid (Blk wr w.heap.size 29 [.int .i64 0, .string ⟨#[]⟩, .string ⟨#[]⟩, .slice none 0 0, .slice none 0 0, .slice none 0 0, .slice none 0 0, .string ⟨#[]⟩, .slice none 0 0, .slice none 0 0, .slice none 0 0, .bool false, .slice none 0 0]) /\ Hid (Fr [some P] w wr)) (fun wr => meaR P wr)
  case atStart => exact ⟨[x], sx, _, _, _, Hd (fun b s3 h => St.bnd (d := fun x d => moreL (CM.item) [x]) HST24.out h), HDa24, by simp; omega, HGa24, HHa24, HXa24, HBa24, HFa24⟩
  case round =>
   clear HGa24 HHa24 HXa24 HBa24 HFa24 HDa24 HST24
   obtain ⟨acc, s', a5, l5, c5, HK, HDr, hln, HGr, HRr, HXr, HBr, HFr⟩ := hrel
   have HMEA := Hd (meaR_of HRr.out)
   have hl1 := HXr.out.lt
   have hl2 := HBr.out.lt
   have hl3 := HRr.out.lt
   have hps := RR.pos HRr.out
   go_wp2_with fail
   refine (take_any P [44] s' _ HRr.out).mono ?_
   rintro e w25 ⟨rfl, h, hf⟩
   have HFt25 := Hd hf
   have HHt25 := Hd h
   clear h hf
   cases ht : taken [44] s' with
   |true =>
    have HG2 := Hd (HGr.out.keep HFt25.out (fun g hg => by simp; omega))
    have HT25 := Hd ht
    have hf := HFt25.out
    have hh : RR w25 P (skip s') := by have := HHt25.out; rw [took, ht] at this; exact this
    clear ht HFt25 HHt25
    have hlt25 := skip_lt HT25.out
    have HB25 := Hd (HBr.out.keep hf (by simp; omega))
    have HX25 := Hd (HXr.out.keep hf (by simp; omega))
    have HF25 := Hd (HFr.out.trans hf)
    have HH25 := Hd hh
    have HD25 := Hd (HDr.out.trans (Dp.skip HDr.out.wd))
    obtain ⟨s25, hs25⟩ : ∃ z, z = (skip s') := ⟨_, rfl⟩
    rw [<- hs25] at HH25 HD25 hlt25
    have HQ25 := Hd hs25
    clear hs25
    have hb25 := HB25.out.lt
    have hp25 := HH25.out.lt
    have hx25 := HX25.out.lt
    clear hf HRr HBr HFr HDr HXr
    clear hh
    have hle1 := HD25.out.len
    have HLEN : Hid (acc.length <= 1000) := Hd (by omega)
    go_upto_region 6 with fail
    have hown : ∀ b, (Value.ownBlock (.slice a5 l5 c5)) = some b -> w0.heap.size < b /\ b < w25.heap.size := fun b hb => ⟨HG2.out.own b hb, HG2.out.live b hb⟩
    have HOWN := Hd hown
    have hnm : ∀ b, w.heap.size <= b -> b <= w0.heap.size -> some b ∉ [some P, Value.ownBlock (.slice a5 l5 c5)] := fun b h1 h2 hm => by simp only [List.mem_cons, Option.some.injEq, List.not_mem_nil, or_false] at hm; rcases hm with h | h; omega; have := hown _ h.symm; omega
    have HNM := Hd hnm
    have HKEY : Hid (∀ W', Fr [some P, Value.ownBlock (.slice a5 l5 c5)] w25 W' -> W'.cell? ⟨w0.heap.size, 6, none⟩ = some (.slice a5 l5 c5)) := Hd (fun W' hW => (HX25.out.keep hW (hnm _ (by omega) (Nat.le_refl _))).cell 6)
    have hfq : Fr [some P, Value.ownBlock (.slice a5 l5 c5)] w25 w25.drew := Fr.drew (Fr.refl _ w25)
    have hI0 := HKEY.out _ hfq
    clear hown hnm
    refine Seq3.wp_region_text (fun i => i != 3 && i != 4 && i != 5 && i != 7) (fun _ => none) (fun i => i == 7) (fun w' => w'.cell? ⟨w0.heap.size, 6, none⟩ = some (.slice a5 l5 c5)) (by kernel_rfl) (by kernel_rfl) hI0 ?_
    (refine Seq3.wpL_quiet rfl rfl rfl (fun K hK => ?_); go_big_quiet_op; (first | refine hK _ ?_ | refine ⟨_, by intros; rfl, hK _ ?_⟩); clear hK K)
    refine Seq3.wpL_held (v := .slice a5 l5 c5) rfl rfl (fun w' hI => ?_) ?_
    ·have hI' : w'.cell? ⟨w0.heap.size, 6, none⟩ = some (.slice a5 l5 c5) := hI
     simp [go_sem, execOp, hI']
    simp only [Act.put, List.setIfInBounds_toArray, List.set_cons_succ, List.set_cons_zero]
    (refine Seq3.wpL_quiet rfl rfl rfl (fun K hK => ?_); go_big_quiet_op; (first | refine hK _ ?_ | refine ⟨_, by intros; rfl, hK _ ?_⟩); clear hK K)
    refine Seq3.wpL_call rfl rfl (by kernel_rfl) (item_any P s25 w25.drew HH25.out.drew HD25.out.wd) ?_
    rintro e wx ⟨x, sx, rfl, h, hst, hd, hf⟩
    have hf1 := hfq.trans' hf (by simp)
    refine ⟨_, rfl, HKEY.out _ hf1, ?_⟩
    simp only [Act.put, List.setIfInBounds_toArray, List.set_cons_succ, List.set_cons_zero]
    have HGx := Hd ((HG2.out.keep (Fr.drew (Fr.refl [] w25)) (by simp)).keep hf (fun g hg => by simp; omega))
    have hsx := hf.size
    simp only [World.size_drew] at hsx
    have HST26 := Hd hst
    have HDx := Hd hd
    have HRx := Hd h
    have hpx := h.lt
    clear hst hd h hf
    have hf3 := hf1.alloc (.cells #[.int .i64 x.agg, .string ⟨x.table.toArray⟩, .string ⟨x.name.toArray⟩] 60)
    refine Seq3.wpL_val (v := .slice (some ⟨wx.heap.size, 0, none⟩) 1 1) (w' := wx.alloc (.cells #[.int .i64 x.agg, .string ⟨x.table.toArray⟩, .string ⟨x.name.toArray⟩] 60)) rfl rfl (by simp [go_sem, execOp, Px.itC]) (HKEY.out _ hf3) ?_
    simp only [Act.put, List.setIfInBounds_toArray, List.set_cons_succ, List.set_cons_zero]
    obtain ⟨⟨cs, hRL, hROW⟩, hGO⟩ := HGx.out
    have HRL := Hd hRL
    have HROW := Hd hROW
    have HROWz := Hd (hROW.keep ((Fr.refl [] wx).alloc (.cells #[.int .i64 x.agg, .string ⟨x.table.toArray⟩, .string ⟨x.name.toArray⟩] 60)) (by simp))
    clear hRL hROW hGO
    obtain ⟨hmx, hby⟩ := Px.lim96 (n := (acc).length) (b := 40) HLEN.out (by decide)
    obtain ⟨i0, hi, hz0, hz1, hz2⟩ := info_parts inf_it
    refine wpL_append rfl rfl _ _ 26 rfl 60 i0 (.agg #[.int .i64 0, .string ⟨#[]⟩, .string ⟨#[]⟩]) 3 40 Tryz.underlying26 hi hz0 hz1 hz2 rfl (by decide) (.slice a5 l5 c5) (acc).length cs rfl HROWz.out ⟨wx.heap.size, 0, none⟩ 1 1 [.int .i64 x.agg, .string ⟨x.table.toArray⟩, .string ⟨x.name.toArray⟩] rfl rfl (Lx.four_new wx 60 [.int .i64 x.agg, .string ⟨x.table.toArray⟩, .string ⟨x.name.toArray⟩]) (by simp [Value.oneCell']) hmx hby ?_
    intro v' wv hrv hfv hov
    have hfT := hf3.trans' hfv (fun g hg => .inl (by simp only [List.mem_cons, List.not_mem_nil, or_false] at hg ⊢; exact .inr hg))
    refine ⟨.inr (HKEY.out _ hfT), ?_⟩
    simp only [Act.put, List.setIfInBounds_toArray, List.set_cons_succ, List.set_cons_zero]
    obtain ⟨a26, l26, c26, rfl⟩ := row_slice' hrv
    have hx : Px.kIt.E (fun b => w0.heap.size + 1 <= b /\ (Value.ownBlock (.slice a5 l5 c5)) ≠ some b) wx x [.int .i64 x.agg, .string ⟨x.table.toArray⟩, .string ⟨x.name.toArray⟩] := rfl
    obtain ⟨st1, _⟩ := Gr.push (x := x) HRL.out HROW.out (fun g hg => (HOWN.out g hg).1) (by omega) hx hrv hfv (by rw [World.size_alloc] at hov; exact hov)
    have HGv := Hd st1
    have HRv := Hd ((HRx.out.alloc (.cells #[.int .i64 x.agg, .string ⟨x.table.toArray⟩, .string ⟨x.name.toArray⟩] 60)).keepP hfv (fun g hg hm => by simp only [List.mem_cons, List.not_mem_nil, or_false] at hm; have := (HOWN.out g hm.symm).1; omega))
    have HBv := Hd (HB25.out.keep hfT (HNM.out _ (Nat.le_refl _) (by omega)))
    have HXv := Hd (HX25.out.keep hfT (HNM.out _ (by omega) (Nat.le_refl _)))
    have HFv := Hd (HF25.out.trans' hfT (fun i hi => by simp only [List.mem_cons, Option.some.injEq, List.not_mem_nil, or_false] at hi ⊢; rcases hi with h | h; exact .inl h; exact .inr (by have := (HOWN.out i h.symm).1; omega)))
    have hsv := hfv.size
    simp only [World.size_alloc] at hsv
    clear hrv hfv hov hmx hby st1 HRL HROW HROWz hx
    (refine Seq3.wpL_quiet rfl rfl rfl (fun K hK => ?_); go_big_quiet_op; (first | refine hK _ ?_ | refine ⟨_, by intros; rfl, hK _ ?_⟩); clear hK K)
    have k5 := HXv.out.cell 6
    have f5 := HXv.out.free 6
    simp only [List.getElem?_cons_zero, List.getElem?_cons_succ] at k5
    refine Seq3.wpL_lasts (w' := wv.setCell ⟨w0.heap.size, 6, none⟩ (.slice a26 l26 c26)) rfl rfl rfl (by simp [go_sem, execOp, k5, f5]) ?_
    simp only [Act.put, List.setIfInBounds_toArray, List.set_cons_succ, List.set_cons_zero]
    refine Seq3.wpL_nil ?_
    have hfs := (Fr.refl [some w0.heap.size] wv).setCell (p := ⟨w0.heap.size, 6, none⟩) (.inl (by simp)) (.slice a26 l26 c26)
    have HHa26 := Hd (HRv.out.keepP hfs (fun g hg => by simp; omega))
    have HBa26 := Hd (HBv.out.keep hfs (by simp; omega))
    have HXa26 := Hd (HXv.out.set 6 (.slice a26 l26 c26))
    simp only [List.set_cons_succ, List.set_cons_zero] at HXa26
    have HFa26 := Hd (HFv.out.trans' hfs (fun i hi => .inr (by simp at hi; omega)))
    have HGa26 := Hd (HGv.out.keep hfs (fun g hg => by simp; omega))
    have HDa26 := Hd (HD25.out.trans HDx.out)
    clear hI0 hfq hf1 hf3 hfT k5 f5 hfs HKEY HOWN HNM HGx HGv HRv HBv HXv HFv HRx hi hz0 hz1 hz2
    generalize wv.setCell ⟨w0.heap.size, 6, none⟩ (.slice a26 l26 c26) = wa26 at HHa26 HBa26 HXa26 HFa26 HGa26 ⊢
    have hxa26 := HXa26.out.lt
    have hpa26 := HHa26.out.lt
    have hba26 := HBa26.out.lt
    have HK2 : Hid (∀ b s3, St (fun d => moreL (CM.item) (acc ++ [x])) sx b s3 -> St (fun d => CM.list (CM.item)) s22 b s3) := Hd (fun b s3 h => HK.out b s3 (St.more_next (fun d => ng_item) HT25.out (by rw [<- HQ25.out]; exact HST26.out) h))
    have hdl := HDx.out.len
    have HME : Hid (meaR P wa26 < meaR P wr) := Hd (by rw [HMEA.out, meaR_of HHa26.out]; omega)
    have hl4 : (acc ++ [x]).length + sx.l.length <= 1001 := by simp only [List.length_append, List.length_cons, List.length_nil]; omega
    go_wp2_with fail
    go_roundw
    case rel => exact ⟨acc ++ [x], sx, _, _, _, HK2, HDa26, hl4, HGa26, HHa26, HXa26, HBa26, HFa26⟩
    case measure => exact HME.out
   |false =>
    have HG2 := Hd (HGr.out.keep HFt25.out (fun g hg => by simp; omega))
    have HT25 := Hd ht
    have hf := HFt25.out
    have hh : RR w25 P s' := by have := HHt25.out; rw [took, ht] at this; exact this
    clear ht HFt25 HHt25
    have HB25 := Hd (HBr.out.keep hf (by simp; omega))
    have HX25 := Hd (HXr.out.keep hf (by simp; omega))
    have HF25 := Hd (HFr.out.trans hf)
    have HH25 := Hd hh
    have HD25 := Hd (HDr.out.trans (Dp.refl HDr.out.wd))
    have hb25 := HB25.out.lt
    have hp25 := HH25.out.lt
    have hx25 := HX25.out.lt
    clear hf HRr HBr HFr HDr HXr
    clear hh
    have HSL := Hd (HK.out acc s' (St.more_end HT25.out))
    have HV0 := Hd (Px.FlatS.mono (A' := fun b => w.heap.size < b /\ b ≠ w0.heap.size) (fun b hb => ⟨by omega, by omega⟩) (Gr.flat HG2.out))
    clear HK HG2
    go_wp2_with fail
    refine (must_any P [102, 114, 111, 109] s' _ HH25.out).mono ?_
    rintro e w26 ⟨rfl, h, hf⟩
    have HS26 := Hd (St.must [102, 114, 111, 109] s')
    have HB26 := Hd (HB25.out.keep hf (by simp; omega))
    have HX26 := Hd (HX25.out.keep hf (by simp; omega))
    have HV6_26 := Hd (Px.FlatS.keep hf (fun g hg => by have := hg.1; simp; omega) HV0.out)
    have HF26 := Hd (HF25.out.trans hf)
    have HH26 := Hd h
    have HD26 := Hd (HD25.out.trans (Dp.musted HD25.out.wd [102, 114, 111, 109]))
    obtain ⟨s26, hs26⟩ : ∃ z, z = (musted [102, 114, 111, 109] s') := ⟨_, rfl⟩
    rw [<- hs26] at HH26 HD26 HS26
    have HQ26 := Hd hs26
    clear hs26
    have hb26 := HB26.out.lt
    have hp26 := HH26.out.lt
    have hx26 := HX26.out.lt
    clear hf HH25 HB25 HF25 HD25 HX25 HV0
    clear h
    go_wp2_with fail
    refine (name_any P s26 _ HH26.out).mono ?_
    rintro e w27 ⟨m27, rfl, h, hst, hf⟩
    have HS27 := Hd hst
    clear hst
    have HB27 := Hd (HB26.out.keep hf (by simp; omega))
    have HX27 := Hd (HX26.out.keep hf (by simp; omega))
    have HV6_27 := Hd (Px.FlatS.keep hf (fun g hg => by have := hg.1; simp; omega) HV6_26.out)
    have HF27 := Hd (HF26.out.trans hf)
    have HH27 := Hd h
    have HD27 := Hd (HD26.out.trans (Dp.worded HD26.out.wd 1))
    obtain ⟨s27, hs27⟩ : ∃ z, z = (worded 1 s26) := ⟨_, rfl⟩
    rw [<- hs27] at HH27 HD27 HS27
    have HQ27 := Hd hs27
    clear hs27
    have hb27 := HB27.out.lt
    have hp27 := HH27.out.lt
    have hx27 := HX27.out.lt
    clear hf HH26 HB26 HF26 HD26 HX26 HV6_26
    clear h
    have x1_28 := HX27.out.cell 1
    have f1_28 := HX27.out.free 1
    simp only [List.getElem?_cons_zero, List.getElem?_cons_succ] at x1_28
    have hfs := ((Fr.refl [some w0.heap.size] w27).setCell (p := ⟨w0.heap.size, 1, none⟩) (.inl (by simp)) (.string ⟨m27.toArray⟩))
    have HHs28 := Hd (HH27.out.keepP hfs (fun g hg => by simp; omega))
    have HBs28 := Hd (HB27.out.keep hfs (by simp; omega))
    have HXs28 := Hd (HX27.out.set 1 (.string ⟨m27.toArray⟩))
    simp only [List.set_cons_succ, List.set_cons_zero] at HXs28
    have HFs28 : Hid (Fr [some P] w (w27.setCell ⟨w0.heap.size, 1, none⟩ (.string ⟨m27.toArray⟩))) := Hd (HF27.out.trans' hfs (fun i hi => .inr (by simp at hi; omega)))
    have hsz28 : (w27.setCell ⟨w0.heap.size, 1, none⟩ (.string ⟨m27.toArray⟩)).heap.size = w27.heap.size := by simp [World.setCell]
    have HVs6_28 := Hd (Px.FlatS.keep hfs (fun g hg => by have := hg.2; simp; omega) HV6_27.out)
    go_upto_region 9 with fail
    generalize (w27.setCell ⟨w0.heap.size, 1, none⟩ (.string ⟨m27.toArray⟩)) = wv28 at HHs28 HBs28 HXs28 HFs28 hsz28 HVs6_28 ⊢
    clear hfs x1_28 f1_28 HH27 HB27 HF27 HX27 HV6_27
    have hxx28 := HXs28.out.lt
    have hpp28 := HHs28.out.lt
    have hbb28 := HBs28.out.lt
    go_wp2_with fail
    refine (take_any P [106, 111, 105, 110] s27 _ HHs28.out).mono ?_
    rintro e w29 ⟨rfl, h, hf⟩
    have HFt29 := Hd hf
    have HHt29 := Hd h
    clear h hf
    cases ht : taken [106, 111, 105, 110] s27 with
    |true =>
     have HT29 := Hd ht
     have hf := HFt29.out
     have hh : RR w29 P (skip s27) := by have := HHt29.out; rw [took, ht] at this; exact this
     clear ht HFt29 HHt29
     have hlt29 := skip_lt HT29.out
     have HB29 := Hd (HBs28.out.keep hf (by simp; omega))
     have HX29 := Hd (HXs28.out.keep hf (by simp; omega))
     have HV6_29 := Hd (Px.FlatS.keep hf (fun g hg => by have := hg.1; simp; omega) HVs6_28.out)
     have HF29 := Hd (HFs28.out.trans hf)
     have HH29 := Hd hh
     have HD29 := Hd (HD27.out.trans (Dp.skip HD27.out.wd))
     obtain ⟨s29, hs29⟩ : ∃ z, z = (skip s27) := ⟨_, rfl⟩
     rw [<- hs29] at HH29 HD29 hlt29
     have HQ29 := Hd hs29
     clear hs29
     have hb29 := HB29.out.lt
     have hp29 := HH29.out.lt
     have hx29 := HX29.out.lt
     clear hf HHs28 HBs28 HFs28 HD27 HXs28 HVs6_28
     clear hh
     go_wp2_with fail
     refine (name_any P s29 _ HH29.out).mono ?_
     rintro e w30 ⟨m30, rfl, h, hst, hf⟩
     have HS30 := Hd hst
     clear hst
     have HB30 := Hd (HB29.out.keep hf (by simp; omega))
     have HX30 := Hd (HX29.out.keep hf (by simp; omega))
     have HV6_30 := Hd (Px.FlatS.keep hf (fun g hg => by have := hg.1; simp; omega) HV6_29.out)
     have HF30 := Hd (HF29.out.trans hf)
     have HH30 := Hd h
     have HD30 := Hd (HD29.out.trans (Dp.worded HD29.out.wd 1))
     obtain ⟨s30, hs30⟩ : ∃ z, z = (worded 1 s29) := ⟨_, rfl⟩
     rw [<- hs30] at HH30 HD30 HS30
     have HQ30 := Hd hs30
     clear hs30
     have hb30 := HB30.out.lt
     have hp30 := HH30.out.lt
     have hx30 := HX30.out.lt
     clear hf HH29 HB29 HF29 HD29 HX29 HV6_29
     clear h
     have x7_31 := HX30.out.cell 7
     have f7_31 := HX30.out.free 7
     simp only [List.getElem?_cons_zero, List.getElem?_cons_succ] at x7_31
     have hfs := ((Fr.refl [some w0.heap.size] w30).setCell (p := ⟨w0.heap.size, 7, none⟩) (.inl (by simp)) (.string ⟨m30.toArray⟩))
     have HHs31 := Hd (HH30.out.keepP hfs (fun g hg => by simp; omega))
     have HBs31 := Hd (HB30.out.keep hfs (by simp; omega))
     have HXs31 := Hd (HX30.out.set 7 (.string ⟨m30.toArray⟩))
     simp only [List.set_cons_succ, List.set_cons_zero] at HXs31
     have HFs31 : Hid (Fr [some P] w (w30.setCell ⟨w0.heap.size, 7, none⟩ (.string ⟨m30.toArray⟩))) := Hd (HF30.out.trans' hfs (fun i hi => .inr (by simp at hi; omega)))
     have hsz31 : (w30.setCell ⟨w0.heap.size, 7, none⟩ (.string ⟨m30.toArray⟩)).heap.size = w30.heap.size := by simp [World.setCell]
     have HVs6_31 := Hd (Px.FlatS.keep hfs (fun g hg => by have := hg.2; simp; omega) HV6_30.out)
     go_upto_region 11 with fail
     generalize (w30.setCell ⟨w0.heap.size, 7, none⟩ (.string ⟨m30.toArray⟩)) = wv31 at HHs31 HBs31 HXs31 HFs31 hsz31 HVs6_31 ⊢
     clear hfs x7_31 f7_31 HH30 HB30 HF30 HX30 HV6_30
     have hxx31 := HXs31.out.lt
     have hpp31 := HHs31.out.lt
     have hbb31 := HBs31.out.lt
     go_wp2_with fail
     refine (must_any P [111, 110] s30 _ HHs31.out).mono ?_
     rintro e w32 ⟨rfl, h, hf⟩
     have HS32 := Hd (St.must [111, 110] s30)
     have HB32 := Hd (HBs31.out.keep hf (by simp; omega))
     have HX32 := Hd (HXs31.out.keep hf (by simp; omega))
     have HV6_32 := Hd (Px.FlatS.keep hf (fun g hg => by have := hg.1; simp; omega) HVs6_31.out)
     have HF32 := Hd (HFs31.out.trans hf)
     have HH32 := Hd h
     have HD32 := Hd (HD30.out.trans (Dp.musted HD30.out.wd [111, 110]))
     obtain ⟨s32, hs32⟩ : ∃ z, z = (musted [111, 110] s30) := ⟨_, rfl⟩
     rw [<- hs32] at HH32 HD32 HS32
     have HQ32 := Hd hs32
     clear hs32
     have hb32 := HB32.out.lt
     have hp32 := HH32.out.lt
     have hx32 := HX32.out.lt
     clear hf HHs31 HBs31 HFs31 HD30 HXs31 HVs6_31
     clear h
     go_wp2_with fail
     refine (column_any P s32 _ HH32.out HD32.out.wd).mono ?_
     rintro e w33 ⟨x, sx, xs, rfl, hx, h, hst, hd, hf⟩
     obtain ⟨op, kind, int, t, tb, nm, va, vl, vc, rfl⟩ := e_form hx
     have HS33 := Hd hst
     have HEx := Hd (Rep.E.mono (A' := fun b => w.heap.size < b /\ b ≠ w0.heap.size) (fun b hb => ⟨by omega, by omega⟩) hx)
     clear hx hst
     have HB33 := Hd (HB32.out.keep hf (by simp; omega))
     have HX33 := Hd (HX32.out.keep hf (by simp; omega))
     have HV6_33 := Hd (Px.FlatS.keep hf (fun g hg => by have := hg.1; simp; omega) HV6_32.out)
     have HF33 := Hd (HF32.out.trans hf)
     have HH33 := Hd h
     have HD33 := Hd (HD32.out.trans hd)
     obtain ⟨s33, hs33⟩ : ∃ z, z = sx := ⟨_, rfl⟩
     rw [<- hs33] at HH33 HD33 HS33
     have HQ33 := Hd hs33
     clear hs33
     have hb33 := HB33.out.lt
     have hp33 := HH33.out.lt
     have hx33 := HX33.out.lt
     clear hf HH32 HB32 HF32 HD32 HX32 HV6_32
     clear h hd
     have hfa := (Fr.refl [some P] w33).alloc (.cells #[.int .i64 op, .int .i64 kind, .int .i64 int, .string ⟨t.toArray⟩, .string ⟨tb.toArray⟩, .string ⟨nm.toArray⟩, .slice va vl vc] 82)
     have HHq34 := Hd (HH33.out.alloc (.cells #[.int .i64 op, .int .i64 kind, .int .i64 int, .string ⟨t.toArray⟩, .string ⟨tb.toArray⟩, .string ⟨nm.toArray⟩, .slice va vl vc] 82))
     have HBq34 := Hd (Blk.alloc HB33.out (.cells #[.int .i64 op, .int .i64 kind, .int .i64 int, .string ⟨t.toArray⟩, .string ⟨tb.toArray⟩, .string ⟨nm.toArray⟩, .slice va vl vc] 82))
     have HXq34 := Hd (Blk.alloc HX33.out (.cells #[.int .i64 op, .int .i64 kind, .int .i64 int, .string ⟨t.toArray⟩, .string ⟨tb.toArray⟩, .string ⟨nm.toArray⟩, .slice va vl vc] 82))
     have HFq34 := Hd (HF33.out.trans hfa)
     have HAq := Hd (Blk.new w33 82 [.int .i64 op, .int .i64 kind, .int .i64 int, .string ⟨t.toArray⟩, .string ⟨tb.toArray⟩, .string ⟨nm.toArray⟩, .slice va vl vc])
     have HEq := Hd (Rep.E.keep hfa (fun g hg => by have := hg.1; simp; omega) HEx.out)
     have HVq6_34 := Hd (Px.FlatS.keep hfa (fun g hg => by have := hg.1; simp; omega) HV6_33.out)
     clear hfa HEx HH33 HB33 HF33 HX33 HV6_33
     go_upto_region 13 with fail
     generalize w33.alloc (.cells #[.int .i64 op, .int .i64 kind, .int .i64 int, .string ⟨t.toArray⟩, .string ⟨tb.toArray⟩, .string ⟨nm.toArray⟩, .slice va vl vc] 82) = wq34 at HHq34 HBq34 HXq34 HFq34 HAq HEq HVq6_34 ⊢
     have hqq := HAq.out.lt
     have hpq := HHq34.out.lt
     go_wp2_with fail
     refine (must_any P [61] s33 _ HHq34.out).mono ?_
     rintro e w35 ⟨rfl, h, hf⟩
     have HS35 := Hd (St.must [61] s33)
     have HB35 := Hd (HBq34.out.keep hf (by simp; omega))
     have HX35 := Hd (HXq34.out.keep hf (by simp; omega))
     have HV6_35 := Hd (Px.FlatS.keep hf (fun g hg => by have := hg.1; simp; omega) HVq6_34.out)
     have HV100_35 := Hd (Rep.E.keep hf (fun g hg => by have := hg.1; simp; omega) HEq.out)
     have HV101_35 := Hd (HAq.out.keep hf (by simp; omega))
     have HF35 := Hd (HFq34.out.trans hf)
     have HH35 := Hd h
     have HD35 := Hd (HD33.out.trans (Dp.musted HD33.out.wd [61]))
     obtain ⟨s35, hs35⟩ : ∃ z, z = (musted [61] s33) := ⟨_, rfl⟩
     rw [<- hs35] at HH35 HD35 HS35
     have HQ35 := Hd hs35
     clear hs35
     have hb35 := HB35.out.lt
     have hp35 := HH35.out.lt
     have hx35 := HX35.out.lt
     clear hf HHq34 HBq34 HFq34 HD33 HXq34 HVq6_34 HEq HAq
     clear h
     go_upto_region 14 with fail
     have HKEY : Hid (∀ W', Fr [some P] w35 W' -> W'.cell? ⟨w33.heap.size, 0, none⟩ = some (.int .i64 op) /\ W'.cell? ⟨w33.heap.size, 1, none⟩ = some (.int .i64 kind) /\ W'.cell? ⟨w33.heap.size, 2, none⟩ = some (.int .i64 int) /\ W'.cell? ⟨w33.heap.size, 3, none⟩ = some (.string ⟨t.toArray⟩) /\ W'.cell? ⟨w33.heap.size, 4, none⟩ = some (.string ⟨tb.toArray⟩) /\ W'.cell? ⟨w33.heap.size, 5, none⟩ = some (.string ⟨nm.toArray⟩) /\ W'.cell? ⟨w33.heap.size, 6, none⟩ = some (.slice va vl vc)) := Hd (fun W' hW => by
      have h := HV101_35.out.keep hW (by simp; omega)
      exact ⟨h.cell 0, h.cell 1, h.cell 2, h.cell 3, h.cell 4, h.cell 5, h.cell 6⟩)
     have hfq : Fr [some P] w35 w35.drew := Fr.drew (Fr.refl _ w35)
     have hI0 := HKEY.out _ hfq
     refine Seq3.wp_region_text (fun i => i != 2 && i != 3 && i != 5) (fun _ => none) (fun i => i == 5) (fun w' => w'.cell? ⟨w33.heap.size, 0, none⟩ = some (.int .i64 op) /\ w'.cell? ⟨w33.heap.size, 1, none⟩ = some (.int .i64 kind) /\ w'.cell? ⟨w33.heap.size, 2, none⟩ = some (.int .i64 int) /\ w'.cell? ⟨w33.heap.size, 3, none⟩ = some (.string ⟨t.toArray⟩) /\ w'.cell? ⟨w33.heap.size, 4, none⟩ = some (.string ⟨tb.toArray⟩) /\ w'.cell? ⟨w33.heap.size, 5, none⟩ = some (.string ⟨nm.toArray⟩) /\ w'.cell? ⟨w33.heap.size, 6, none⟩ = some (.slice va vl vc)) (by kernel_rfl) (by kernel_rfl) hI0 ?_
     refine Seq3.wpL_held (v := .agg #[.int .i64 op, .int .i64 kind, .int .i64 int, .string ⟨t.toArray⟩, .string ⟨tb.toArray⟩, .string ⟨nm.toArray⟩, .slice va vl vc]) rfl rfl (fun w' hI => ?_) ?_
     ·obtain ⟨i0, i1, i2, i3, i4, i5, i6⟩ : w'.cell? ⟨w33.heap.size, 0, none⟩ = some (.int .i64 op) /\ w'.cell? ⟨w33.heap.size, 1, none⟩ = some (.int .i64 kind) /\ w'.cell? ⟨w33.heap.size, 2, none⟩ = some (.int .i64 int) /\ w'.cell? ⟨w33.heap.size, 3, none⟩ = some (.string ⟨t.toArray⟩) /\ w'.cell? ⟨w33.heap.size, 4, none⟩ = some (.string ⟨tb.toArray⟩) /\ w'.cell? ⟨w33.heap.size, 5, none⟩ = some (.string ⟨nm.toArray⟩) /\ w'.cell? ⟨w33.heap.size, 6, none⟩ = some (.slice va vl vc) := hI
      simp [go_sem, execOp, i0, i1, i2, i3, i4, i5, i6]
     simp only [Act.put, List.setIfInBounds_toArray, List.set_cons_succ, List.set_cons_zero]
     (refine Seq3.wpL_quiet rfl rfl rfl (fun K hK => ?_); go_big_quiet_op; (first | refine hK _ ?_ | refine ⟨_, by intros; rfl, hK _ ?_⟩); clear hK K)
     refine Seq3.wpL_call rfl rfl (by kernel_rfl) (column_any P s35 w35.drew HH35.out.drew HD35.out.wd) ?_
     rintro e wx ⟨xcc, sx, xs, rfl, hx, h, hst, hd, hf⟩
     obtain ⟨op3, kind3, int3, t3, tb3, nm3, va3, vl3, vc3, rfl⟩ := e_form hx
     have hf1 := hfq.trans hf
     refine ⟨_, rfl, HKEY.out _ hf1, ?_⟩
     simp only [Act.put, List.setIfInBounds_toArray, List.set_cons_succ, List.set_cons_zero]
     have hf3 := hf1.alloc (.cells #[.int .i64 op, .int .i64 kind, .int .i64 int, .string ⟨t.toArray⟩, .string ⟨tb.toArray⟩, .string ⟨nm.toArray⟩, .slice va vl vc, .int .i64 op3, .int .i64 kind3, .int .i64 int3, .string ⟨t3.toArray⟩, .string ⟨tb3.toArray⟩, .string ⟨nm3.toArray⟩, .slice va3 vl3 vc3] 82)
     refine Seq3.wpL_val (v := .slice (some ⟨wx.heap.size, 0, none⟩) 2 2) (w' := wx.alloc (.cells #[.int .i64 op, .int .i64 kind, .int .i64 int, .string ⟨t.toArray⟩, .string ⟨tb.toArray⟩, .string ⟨nm.toArray⟩, .slice va vl vc, .int .i64 op3, .int .i64 kind3, .int .i64 int3, .string ⟨t3.toArray⟩, .string ⟨tb3.toArray⟩, .string ⟨nm3.toArray⟩, .slice va3 vl3 vc3] 82)) rfl rfl (by simp [go_sem, execOp]) (HKEY.out _ hf3) ?_
     simp only [Act.put, List.setIfInBounds_toArray, List.set_cons_succ, List.set_cons_zero]
     (refine Seq3.wpL_quiet rfl rfl rfl (fun K hK => ?_); go_big_quiet_op; (first | refine hK _ ?_ | refine ⟨_, by intros; rfl, hK _ ?_⟩); clear hK K)
     have hxl := HX35.out.lt
     have hsx := hf.size
     simp only [World.size_drew] at hsx
     have hXv := HX35.out.keep hf3 (by simp; omega)
     have k8 := hXv.cell 8
     have f8 := hXv.free 8
     simp only [List.getElem?_cons_zero, List.getElem?_cons_succ] at k8
     refine Seq3.wpL_lasts (w' := (wx.alloc (.cells #[.int .i64 op, .int .i64 kind, .int .i64 int, .string ⟨t.toArray⟩, .string ⟨tb.toArray⟩, .string ⟨nm.toArray⟩, .slice va vl vc, .int .i64 op3, .int .i64 kind3, .int .i64 int3, .string ⟨t3.toArray⟩, .string ⟨tb3.toArray⟩, .string ⟨nm3.toArray⟩, .slice va3 vl3 vc3] 82)).setCell ⟨w0.heap.size, 8, none⟩ (.slice (some ⟨wx.heap.size, 0, none⟩) 2 2)) rfl rfl rfl (by simp [go_sem, execOp, k8, f8]) ?_
     simp only [Act.put, List.setIfInBounds_toArray, List.set_cons_succ, List.set_cons_zero]
     refine Seq3.wpL_nil ?_
     have hfs := (Fr.refl [some w0.heap.size] (wx.alloc (.cells #[.int .i64 op, .int .i64 kind, .int .i64 int, .string ⟨t.toArray⟩, .string ⟨tb.toArray⟩, .string ⟨nm.toArray⟩, .slice va vl vc, .int .i64 op3, .int .i64 kind3, .int .i64 int3, .string ⟨t3.toArray⟩, .string ⟨tb3.toArray⟩, .string ⟨nm3.toArray⟩, .slice va3 vl3 vc3] 82))).setCell (p := ⟨w0.heap.size, 8, none⟩) (.inl (by simp)) (.slice (some ⟨wx.heap.size, 0, none⟩) 2 2)
     have hea := Rep.E.keep hf1 (fun g hg => by have := hg.1; simp; omega) HV100_35.out
     have heb := Rep.E.mono (A' := fun b => w.heap.size < b /\ b ≠ w0.heap.size) (fun b hb => by simp at hb; exact ⟨by omega, by omega⟩) hx
     have hes := es_mk (A := fun b => w.heap.size < b /\ b ≠ w0.heap.size) (.cons x [xcc] _ _ hea (.cons xcc [] _ [] heb .nil)) ⟨by omega, by omega⟩ (by simp [maxLen])
     rw [List.append_nil] at hes
     have HVj := Hd (Rep.Es.keep hfs (fun g hg => by have := hg.2; simp; omega) hes)
     have HHj := Hd ((h.alloc (.cells #[.int .i64 op, .int .i64 kind, .int .i64 int, .string ⟨t.toArray⟩, .string ⟨tb.toArray⟩, .string ⟨nm.toArray⟩, .slice va vl vc, .int .i64 op3, .int .i64 kind3, .int .i64 int3, .string ⟨t3.toArray⟩, .string ⟨tb3.toArray⟩, .string ⟨nm3.toArray⟩, .slice va3 vl3 vc3] 82)).keepP hfs (fun g hg => by simp; omega))
     have HBj := Hd ((HB35.out.keep hf3 (by simp; omega)).keep hfs (by simp; omega))
     have HXj := Hd (hXv.set 8 (.slice (some ⟨wx.heap.size, 0, none⟩) 2 2))
     simp only [List.set_cons_succ, List.set_cons_zero] at HXj
     have HFj := Hd ((HF35.out.trans hf3).trans' hfs (fun i hi => .inr (by simp at hi; omega)))
     have HDj := Hd (HD35.out.trans hd)
     have HSj := Hd hst
     have HVj_6 := Hd (Px.FlatS.keep hfs (fun g hg => by have := hg.2; simp; omega) (Hd (Px.FlatS.keep hf3 (fun g hg => by have := hg.1; simp; omega) HV6_35.out)).out)
     generalize (wx.alloc (.cells #[.int .i64 op, .int .i64 kind, .int .i64 int, .string ⟨t.toArray⟩, .string ⟨tb.toArray⟩, .string ⟨nm.toArray⟩, .slice va vl vc, .int .i64 op3, .int .i64 kind3, .int .i64 int3, .string ⟨t3.toArray⟩, .string ⟨tb3.toArray⟩, .string ⟨nm3.toArray⟩, .slice va3 vl3 vc3] 82)).setCell ⟨w0.heap.size, 8, none⟩ (.slice (some ⟨wx.heap.size, 0, none⟩) 2 2) = wj at HHj HBj HXj HFj HVj HVj_6 ⊢
     clear hI0 hfq hf1 hf3 hfs hea heb hes hXv k8 f8 h hd hst hf hx HKEY HV101_35 HV100_35
     have hxj := HXj.out.lt
     have hpj := HHj.out.lt
     have hbj := HBj.out.lt
     have HJ := Hd (St.joins_yes HT29.out HQ29.out HS30.out HS32.out HS33.out HS35.out HSj.out)
     obtain ⟨sy, hsy⟩ : ∃ z, z = sx := ⟨_, rfl⟩
     subst hsy
     obtain ⟨xa, hxa_⟩ : ∃ z, z = x := ⟨_, rfl⟩
     subst hxa_
     have hwn37 : sy.l.length <= n := by have := HDj.out.len; omega
     go_wp2_with fail
     refine (where_any n P sy _ HHj.out HDj.out.wd hwn37).mono ?_
     rintro e w37 ⟨l37, v, sx, rfl, hv, h, hst, hd, hf⟩
     obtain ⟨a9_37, n9_37, c9_37, rfl⟩ := Rep.Es.form hv
     have HS37 := Hd hst
     have HVw37 := Hd (Rep.Es.mono (A' := fun b => w.heap.size < b /\ b ≠ w0.heap.size) (fun b hb => ⟨by omega, by omega⟩) hv)
     clear hst hv
     have HB37 := Hd (HBj.out.keep hf (by simp; omega))
     have HX37 := Hd (HXj.out.keep hf (by simp; omega))
     have HV6_37 := Hd (Px.FlatS.keep hf (fun g hg => by have := hg.1; simp; omega) HVj_6.out)
     have HV8_37 := Hd (Rep.Es.keep hf (fun g hg => by have := hg.1; simp; omega) HVj.out)
     have HF37 := Hd (HFj.out.trans hf)
     have HH37 := Hd h
     have HD37 := Hd (HDj.out.trans hd)
     obtain ⟨s37, hs37⟩ : ∃ z, z = sx := ⟨_, rfl⟩
     rw [<- hs37] at HH37 HD37 HS37
     have HQ37 := Hd hs37
     clear hs37
     have hb37 := HB37.out.lt
     have hp37 := HH37.out.lt
     have hx37 := HX37.out.lt
     clear hf HHj HBj HFj HDj HXj HVj_6 HVj
     clear h hd
     have x9_38 := HX37.out.cell 9
     have f9_38 := HX37.out.free 9
     simp only [List.getElem?_cons_zero, List.getElem?_cons_succ] at x9_38
     have hfs := ((Fr.refl [some w0.heap.size] w37).setCell (p := ⟨w0.heap.size, 9, none⟩) (.inl (by simp)) (.slice a9_37 n9_37 c9_37))
     have HHs38 := Hd (HH37.out.keepP hfs (fun g hg => by simp; omega))
     have HBs38 := Hd (HB37.out.keep hfs (by simp; omega))
     have HXs38 := Hd (HX37.out.set 9 (.slice a9_37 n9_37 c9_37))
     simp only [List.set_cons_succ, List.set_cons_zero] at HXs38
     have HFs38 : Hid (Fr [some P] w (w37.setCell ⟨w0.heap.size, 9, none⟩ (.slice a9_37 n9_37 c9_37))) := Hd (HF37.out.trans' hfs (fun i hi => .inr (by simp at hi; omega)))
     have hsz38 : (w37.setCell ⟨w0.heap.size, 9, none⟩ (.slice a9_37 n9_37 c9_37)).heap.size = w37.heap.size := by simp [World.setCell]
     have HVs6_38 := Hd (Px.FlatS.keep hfs (fun g hg => by have := hg.2; simp; omega) HV6_37.out)
     have HVs8_38 := Hd (Rep.Es.keep hfs (fun g hg => by have := hg.2; simp; omega) HV8_37.out)
     have HVs9_38 := Hd (Rep.Es.keep hfs (fun g hg => by have := hg.2; simp; omega) HVw37.out)
     go_upto_region 16 with fail
     generalize (w37.setCell ⟨w0.heap.size, 9, none⟩ (.slice a9_37 n9_37 c9_37)) = wv38 at HHs38 HBs38 HXs38 HFs38 hsz38 HVs6_38 HVs8_38 HVs9_38 ⊢
     clear hfs x9_38 f9_38 HH37 HB37 HF37 HX37 HV6_37 HV8_37 HVw37
     have hxx38 := HXs38.out.lt
     have hpp38 := HHs38.out.lt
     have hbb38 := HBs38.out.lt
     go_wp2_with fail
     refine (take_any P [111, 114, 100, 101, 114] s37 _ HHs38.out).mono ?_
     rintro e w39 ⟨rfl, h, hf⟩
     have HFt39 := Hd hf
     have HHt39 := Hd h
     clear h hf
     cases ht : taken [111, 114, 100, 101, 114] s37 with
     |true =>
      have HT39 := Hd ht
      have hf := HFt39.out
      have hh : RR w39 P (skip s37) := by have := HHt39.out; rw [took, ht] at this; exact this
      clear ht HFt39 HHt39
      have hlt39 := skip_lt HT39.out
      have HB39 := Hd (HBs38.out.keep hf (by simp; omega))
      have HX39 := Hd (HXs38.out.keep hf (by simp; omega))
      have HV6_39 := Hd (Px.FlatS.keep hf (fun g hg => by have := hg.1; simp; omega) HVs6_38.out)
      have HV8_39 := Hd (Rep.Es.keep hf (fun g hg => by have := hg.1; simp; omega) HVs8_38.out)
      have HV9_39 := Hd (Rep.Es.keep hf (fun g hg => by have := hg.1; simp; omega) HVs9_38.out)
      have HF39 := Hd (HFs38.out.trans hf)
      have HH39 := Hd hh
      have HD39 := Hd (HD37.out.trans (Dp.skip HD37.out.wd))
      obtain ⟨s39, hs39⟩ : ∃ z, z = (skip s37) := ⟨_, rfl⟩
      rw [<- hs39] at HH39 HD39 hlt39
      have HQ39 := Hd hs39
      clear hs39
      have hb39 := HB39.out.lt
      have hp39 := HH39.out.lt
      have hx39 := HX39.out.lt
      clear hf HHs38 HBs38 HFs38 HD37 HXs38 HVs6_38 HVs8_38 HVs9_38
      clear hh
      go_wp2_with fail
      refine (must_any P [98, 121] s39 _ HH39.out).mono ?_
      rintro e w40 ⟨rfl, h, hf⟩
      have HS40 := Hd (St.must [98, 121] s39)
      have HB40 := Hd (HB39.out.keep hf (by simp; omega))
      have HX40 := Hd (HX39.out.keep hf (by simp; omega))
      have HV6_40 := Hd (Px.FlatS.keep hf (fun g hg => by have := hg.1; simp; omega) HV6_39.out)
      have HV8_40 := Hd (Rep.Es.keep hf (fun g hg => by have := hg.1; simp; omega) HV8_39.out)
      have HV9_40 := Hd (Rep.Es.keep hf (fun g hg => by have := hg.1; simp; omega) HV9_39.out)
      have HF40 := Hd (HF39.out.trans hf)
      have HH40 := Hd h
      have HD40 := Hd (HD39.out.trans (Dp.musted HD39.out.wd [98, 121]))
      obtain ⟨s40, hs40⟩ : ∃ z, z = (musted [98, 121] s39) := ⟨_, rfl⟩
      rw [<- hs40] at HH40 HD40 HS40
      have HQ40 := Hd hs40
      clear hs40
      have hb40 := HB40.out.lt
      have hp40 := HH40.out.lt
      have hx40 := HX40.out.lt
      clear hf HH39 HB39 HF39 HD39 HX39 HV6_39 HV8_39 HV9_39
      clear h
      go_wp2_with fail
      refine (column_any P s40 _ HH40.out HD40.out.wd).mono ?_
      rintro e w41 ⟨x, sx, xs, rfl, hx, h, hst, hd, hf⟩
      obtain ⟨op, kind, int, t, tb, nm, va, vl, vc, rfl⟩ := e_form hx
      have HS41 := Hd hst
      have HEx := Hd (Rep.E.mono (A' := fun b => w.heap.size < b /\ b ≠ w0.heap.size) (fun b hb => ⟨by omega, by omega⟩) hx)
      clear hx hst
      have HB41 := Hd (HB40.out.keep hf (by simp; omega))
      have HX41 := Hd (HX40.out.keep hf (by simp; omega))
      have HV6_41 := Hd (Px.FlatS.keep hf (fun g hg => by have := hg.1; simp; omega) HV6_40.out)
      have HV8_41 := Hd (Rep.Es.keep hf (fun g hg => by have := hg.1; simp; omega) HV8_40.out)
      have HV9_41 := Hd (Rep.Es.keep hf (fun g hg => by have := hg.1; simp; omega) HV9_40.out)
      have HF41 := Hd (HF40.out.trans hf)
      have HH41 := Hd h
      have HD41 := Hd (HD40.out.trans hd)
      obtain ⟨s41, hs41⟩ : ∃ z, z = sx := ⟨_, rfl⟩
      rw [<- hs41] at HH41 HD41 HS41
      have HQ41 := Hd hs41
      clear hs41
      have hb41 := HB41.out.lt
      have hp41 := HH41.out.lt
      have hx41 := HX41.out.lt
      clear hf HH40 HB40 HF40 HD40 HX40 HV6_40 HV8_40 HV9_40
      clear h hd
      have x_ := HX41.out.cell 10
      have f_ := HX41.out.free 10
      simp only [List.getElem?_cons_zero, List.getElem?_cons_succ] at x_
      have hfs := ((Fr.refl [some w0.heap.size] w41).setCell (p := ⟨w0.heap.size, 10, none⟩) (.inl (by simp)) (.slice (some ⟨w41.heap.size, 0, none⟩) 1 1)).alloc (.cells #[.int .i64 op, .int .i64 kind, .int .i64 int, .string ⟨t.toArray⟩, .string ⟨tb.toArray⟩, .string ⟨nm.toArray⟩, .slice va vl vc] 82)
      have hsz_ : (w41.setCell ⟨w0.heap.size, 10, none⟩ (.slice (some ⟨w41.heap.size, 0, none⟩) 1 1)).heap.size = w41.heap.size := by simp [World.setCell]
      have HHe42 := Hd (HH41.out.keepP hfs (fun g hg => by simp; omega))
      have HBe42 := Hd (HB41.out.keep hfs (by simp; omega))
      have HXe42 := Hd (Blk.alloc (HX41.out.set 10 (.slice (some ⟨w41.heap.size, 0, none⟩) 1 1)) (.cells #[.int .i64 op, .int .i64 kind, .int .i64 int, .string ⟨t.toArray⟩, .string ⟨tb.toArray⟩, .string ⟨nm.toArray⟩, .slice va vl vc] 82))
      simp only [List.set_cons_succ, List.set_cons_zero] at HXe42
      have HFe42 : Hid (Fr [some P] w ((w41.setCell ⟨w0.heap.size, 10, none⟩ (.slice (some ⟨w41.heap.size, 0, none⟩) 1 1)).alloc (.cells #[.int .i64 op, .int .i64 kind, .int .i64 int, .string ⟨t.toArray⟩, .string ⟨tb.toArray⟩, .string ⟨nm.toArray⟩, .slice va vl vc] 82))) := Hd (HF41.out.trans' hfs (fun i hi => .inr (by simp at hi; omega)))
      have hes := es_mk (A := fun b => w.heap.size < b /\ b ≠ w0.heap.size) (w := (w41.setCell ⟨w0.heap.size, 10, none⟩ (.slice (some ⟨w41.heap.size, 0, none⟩) 1 1))) (.cons x [] _ [] (Rep.E.keep ((Fr.refl [some w0.heap.size] w41).setCell (p := ⟨w0.heap.size, 10, none⟩) (.inl (by simp)) (.slice (some ⟨w41.heap.size, 0, none⟩) 1 1)) (fun g hg => by have := hg.2; simp; omega) HEx.out) .nil) ⟨by rw [hsz_]; omega, by rw [hsz_]; omega⟩ (by simp [maxLen])
      rw [List.append_nil, hsz_] at hes
      have HVe42 := Hd hes
      have HVe6_42 := Hd (Px.FlatS.keep hfs (fun g hg => by have := hg.2; simp; omega) HV6_41.out)
      have HVe8_42 := Hd (Rep.Es.keep hfs (fun g hg => by have := hg.2; simp; omega) HV8_41.out)
      have HVe9_42 := Hd (Rep.Es.keep hfs (fun g hg => by have := hg.2; simp; omega) HV9_41.out)
      have hnx_ : ¬ w0.heap.size = w41.heap.size := by omega
      have hnx2_ : w0.heap.size < w41.heap.size + 1 := by omega
      go_upto_region 19 with fail
      generalize ((w41.setCell ⟨w0.heap.size, 10, none⟩ (.slice (some ⟨w41.heap.size, 0, none⟩) 1 1)).alloc (.cells #[.int .i64 op, .int .i64 kind, .int .i64 int, .string ⟨t.toArray⟩, .string ⟨tb.toArray⟩, .string ⟨nm.toArray⟩, .slice va vl vc] 82)) = we42 at HHe42 HBe42 HXe42 HFe42 HVe42 HVe6_42 HVe8_42 HVe9_42 ⊢
      clear hfs hes x_ f_ HEx hsz_ HH41 HB41 HF41 HX41 HV6_41 HV8_41 HV9_41
      have hxe42 := HXe42.out.lt
      have hpe42 := HHe42.out.lt
      have hbe42 := HBe42.out.lt
      go_wp2_with fail
      refine (take_any P [100, 101, 115, 99] s41 _ HHe42.out).mono ?_
      rintro e w43 ⟨rfl, h, hf⟩
      have HSd := Hd (St.desc s41)
      change Hid (St (fun _ => CM.desc) s41 (taken [100, 101, 115, 99] s41) (took [100, 101, 115, 99] s41)) at HSd
      obtain ⟨bd, hbd⟩ : ∃ b, taken [100, 101, 115, 99] s41 = b := ⟨_, rfl⟩
      rw [hbd] at HSd ⊢
      clear hbd
      have HB43 := Hd (HBe42.out.keep hf (by simp; omega))
      have HX43 := Hd (HXe42.out.keep hf (by simp; omega))
      have HV6_43 := Hd (Px.FlatS.keep hf (fun g hg => by have := hg.1; simp; omega) HVe6_42.out)
      have HV8_43 := Hd (Rep.Es.keep hf (fun g hg => by have := hg.1; simp; omega) HVe8_42.out)
      have HV9_43 := Hd (Rep.Es.keep hf (fun g hg => by have := hg.1; simp; omega) HVe9_42.out)
      have HV10_43 := Hd (Rep.Es.keep hf (fun g hg => by have := hg.1; simp; omega) HVe42.out)
      have HF43 := Hd (HFe42.out.trans hf)
      have HH43 := Hd h
      have HD43 := Hd (HD41.out.trans (Dp.took HD41.out.wd [100, 101, 115, 99]))
      obtain ⟨s43, hs43⟩ : ∃ z, z = (took [100, 101, 115, 99] s41) := ⟨_, rfl⟩
      rw [<- hs43] at HH43 HD43 HSd
      have HQ43 := Hd hs43
      clear hs43
      have hb43 := HB43.out.lt
      have hp43 := HH43.out.lt
      have hx43 := HX43.out.lt
      clear hf HHe42 HBe42 HFe42 HD41 HXe42 HVe6_42 HVe8_42 HVe9_42 HVe42
      clear h
      have x11_44 := HX43.out.cell 11
      have f11_44 := HX43.out.free 11
      simp only [List.getElem?_cons_zero, List.getElem?_cons_succ] at x11_44
      have hfs := ((Fr.refl [some w0.heap.size] w43).setCell (p := ⟨w0.heap.size, 11, none⟩) (.inl (by simp)) (.bool bd))
      have HHs44 := Hd (HH43.out.keepP hfs (fun g hg => by simp; omega))
      have HBs44 := Hd (HB43.out.keep hfs (by simp; omega))
      have HXs44 := Hd (HX43.out.set 11 (.bool bd))
      simp only [List.set_cons_succ, List.set_cons_zero] at HXs44
      have HFs44 : Hid (Fr [some P] w (w43.setCell ⟨w0.heap.size, 11, none⟩ (.bool bd))) := Hd (HF43.out.trans' hfs (fun i hi => .inr (by simp at hi; omega)))
      have hsz44 : (w43.setCell ⟨w0.heap.size, 11, none⟩ (.bool bd)).heap.size = w43.heap.size := by simp [World.setCell]
      have HVs6_44 := Hd (Px.FlatS.keep hfs (fun g hg => by have := hg.2; simp; omega) HV6_43.out)
      have HVs8_44 := Hd (Rep.Es.keep hfs (fun g hg => by have := hg.2; simp; omega) HV8_43.out)
      have HVs9_44 := Hd (Rep.Es.keep hfs (fun g hg => by have := hg.2; simp; omega) HV9_43.out)
      have HVs10_44 := Hd (Rep.Es.keep hfs (fun g hg => by have := hg.2; simp; omega) HV10_43.out)
      go_upto_region 20 with fail
      generalize (w43.setCell ⟨w0.heap.size, 11, none⟩ (.bool bd)) = wv44 at HHs44 HBs44 HXs44 HFs44 hsz44 HVs6_44 HVs8_44 HVs9_44 HVs10_44 ⊢
      clear hfs x11_44 f11_44 HH43 HB43 HF43 HX43 HV6_43 HV8_43 HV9_43 HV10_43
      have hxx44 := HXs44.out.lt
      have hpp44 := HHs44.out.lt
      have hbb44 := HBs44.out.lt
      have HO := Hd (St.orders_yes HT39.out HQ39.out HS40.out HS41.out HSd.out)
      have HS : Hid (St (selectsW n) s (.mk 6 m27 [] [] [] [] acc m30 [xa, xcc] l37 [x] bd []) s43) := Hd (St.bnd HS22.out (St.selects (n := n) (St.items_some HT23.out HSL.out) HS26.out HS27.out HJ.out HS37.out HO.out))
      obtain ⟨x0, x1, x2, x3, x4, x5, x6, x7, x8, x9, x10, x11, x12, f0, f1, f2, f3, f4, f5, f6, f7, f8, f9, f10, f11, f12⟩ := c13_of HXs44.out
      obtain ⟨y0, y1, y2, y3, y4, y5, y6, y7, y8, y9, y10, y11, y12, k0, k1, k2, k3, k4, k5, k6, k7, k8, k9, k10, k11, k12⟩ := c13_of HBs44.out
      have hRX : ¬ w0.heap.size = w.heap.size := by omega
      go_wp2_with fail
      exact bodyPost_ret (ret_cell13 rfl _ w.heap.size rfl _ _ _ _ _ _ _ _ _ _ _ _ _ _ (blkPut13 HBs44.out _ _ _ _ _ _ _ _ _ _ _ _ _)) rfl ⟨.mk 6 m27 [] [] [] [] acc m30 [xa, xcc] l37 [x] bd [], s43, ⟨_, rfl, .mk 6 m27 [] [] [] [] acc m30 [xa, xcc] l37 [x] bd [] _ _ _ _ _ _ _ _ .nil .nil Rep.Es.nil (Px.FlatS.mono (A' := fun b => w.heap.size <= b) (fun b hb => by have := hb.1; omega) (Px.FlatS.keep (frPut13 (Fr.refl [some w.heap.size] _) (.inl (by simp)) _ _ _ _ _ _ _ _ _ _ _ _ _) (fun b hb => by have := hb.1; simp; omega) HVs6_44.out)) (Rep.Es.mono (A' := fun b => w.heap.size <= b) (fun b hb => by have := hb.1; omega) (Rep.Es.keep (frPut13 (Fr.refl [some w.heap.size] _) (.inl (by simp)) _ _ _ _ _ _ _ _ _ _ _ _ _) (fun b hb => by have := hb.1; simp; omega) HVs8_44.out)) (Rep.Es.mono (A' := fun b => w.heap.size <= b) (fun b hb => by have := hb.1; omega) (Rep.Es.keep (frPut13 (Fr.refl [some w.heap.size] _) (.inl (by simp)) _ _ _ _ _ _ _ _ _ _ _ _ _) (fun b hb => by have := hb.1; simp; omega) HVs9_44.out)) (Rep.Es.mono (A' := fun b => w.heap.size <= b) (fun b hb => by have := hb.1; omega) (Rep.Es.keep (frPut13 (Fr.refl [some w.heap.size] _) (.inl (by simp)) _ _ _ _ _ _ _ _ _ _ _ _ _) (fun b hb => by have := hb.1; simp; omega) HVs10_44.out)) Px.SS.nil⟩, HHs44.out.keepP (frPut13 (Fr.refl [some w.heap.size] _) (.inl (by simp)) _ _ _ _ _ _ _ _ _ _ _ _ _) (fun g hg => by simp; omega), HS.out, HD43.out, frPut13 HFs44.out (.inr (Nat.le_refl _)) _ _ _ _ _ _ _ _ _ _ _ _ _⟩
     |false =>
      have HT39 := Hd ht
      have hf := HFt39.out
      have hh : RR w39 P s37 := by have := HHt39.out; rw [took, ht] at this; exact this
      clear ht HFt39 HHt39
      have HB39 := Hd (HBs38.out.keep hf (by simp; omega))
      have HX39 := Hd (HXs38.out.keep hf (by simp; omega))
      have HV6_39 := Hd (Px.FlatS.keep hf (fun g hg => by have := hg.1; simp; omega) HVs6_38.out)
      have HV8_39 := Hd (Rep.Es.keep hf (fun g hg => by have := hg.1; simp; omega) HVs8_38.out)
      have HV9_39 := Hd (Rep.Es.keep hf (fun g hg => by have := hg.1; simp; omega) HVs9_38.out)
      have HF39 := Hd (HFs38.out.trans hf)
      have HH39 := Hd hh
      have HD39 := Hd (HD37.out.trans (Dp.refl HD37.out.wd))
      have hb39 := HB39.out.lt
      have hp39 := HH39.out.lt
      have hx39 := HX39.out.lt
      clear hf HHs38 HBs38 HFs38 HD37 HXs38 HVs6_38 HVs8_38 HVs9_38
      clear hh
      have HO := Hd (St.orders_no HT39.out)
      have HS : Hid (St (selectsW n) s (.mk 6 m27 [] [] [] [] acc m30 [xa, xcc] l37 [] false []) s37) := Hd (St.bnd HS22.out (St.selects (n := n) (St.items_some HT23.out HSL.out) HS26.out HS27.out HJ.out HS37.out HO.out))
      obtain ⟨x0, x1, x2, x3, x4, x5, x6, x7, x8, x9, x10, x11, x12, f0, f1, f2, f3, f4, f5, f6, f7, f8, f9, f10, f11, f12⟩ := c13_of HX39.out
      obtain ⟨y0, y1, y2, y3, y4, y5, y6, y7, y8, y9, y10, y11, y12, k0, k1, k2, k3, k4, k5, k6, k7, k8, k9, k10, k11, k12⟩ := c13_of HB39.out
      have hRX : ¬ w0.heap.size = w.heap.size := by omega
      go_wp2_with fail
      exact bodyPost_ret (ret_cell13 rfl _ w.heap.size rfl _ _ _ _ _ _ _ _ _ _ _ _ _ _ (blkPut13 HB39.out _ _ _ _ _ _ _ _ _ _ _ _ _)) rfl ⟨.mk 6 m27 [] [] [] [] acc m30 [xa, xcc] l37 [] false [], s37, ⟨_, rfl, .mk 6 m27 [] [] [] [] acc m30 [xa, xcc] l37 [] false [] _ _ _ _ _ _ _ _ .nil .nil Rep.Es.nil (Px.FlatS.mono (A' := fun b => w.heap.size <= b) (fun b hb => by have := hb.1; omega) (Px.FlatS.keep (frPut13 (Fr.refl [some w.heap.size] _) (.inl (by simp)) _ _ _ _ _ _ _ _ _ _ _ _ _) (fun b hb => by have := hb.1; simp; omega) HV6_39.out)) (Rep.Es.mono (A' := fun b => w.heap.size <= b) (fun b hb => by have := hb.1; omega) (Rep.Es.keep (frPut13 (Fr.refl [some w.heap.size] _) (.inl (by simp)) _ _ _ _ _ _ _ _ _ _ _ _ _) (fun b hb => by have := hb.1; simp; omega) HV8_39.out)) (Rep.Es.mono (A' := fun b => w.heap.size <= b) (fun b hb => by have := hb.1; omega) (Rep.Es.keep (frPut13 (Fr.refl [some w.heap.size] _) (.inl (by simp)) _ _ _ _ _ _ _ _ _ _ _ _ _) (fun b hb => by have := hb.1; simp; omega) HV9_39.out)) Rep.Es.nil Px.SS.nil⟩, HH39.out.keepP (frPut13 (Fr.refl [some w.heap.size] _) (.inl (by simp)) _ _ _ _ _ _ _ _ _ _ _ _ _) (fun g hg => by simp; omega), HS.out, HD39.out, frPut13 HF39.out (.inr (Nat.le_refl _)) _ _ _ _ _ _ _ _ _ _ _ _ _⟩
    |false =>
     have HT29 := Hd ht
     have hf := HFt29.out
     have hh : RR w29 P s27 := by have := HHt29.out; rw [took, ht] at this; exact this
     clear ht HFt29 HHt29
     have HB29 := Hd (HBs28.out.keep hf (by simp; omega))
     have HX29 := Hd (HXs28.out.keep hf (by simp; omega))
     have HV6_29 := Hd (Px.FlatS.keep hf (fun g hg => by have := hg.1; simp; omega) HVs6_28.out)
     have HF29 := Hd (HFs28.out.trans hf)
     have HH29 := Hd hh
     have HD29 := Hd (HD27.out.trans (Dp.refl HD27.out.wd))
     have hb29 := HB29.out.lt
     have hp29 := HH29.out.lt
     have hx29 := HX29.out.lt
     clear hf HHs28 HBs28 HFs28 HD27 HXs28 HVs6_28
     clear hh
     have HJ := Hd (St.joins_no HT29.out)
     have hwn30 : s27.l.length <= n := by have := HD29.out.len; omega
     go_wp2_with fail
     refine (where_any n P s27 _ HH29.out HD29.out.wd hwn30).mono ?_
     rintro e w30 ⟨l30, v, sx, rfl, hv, h, hst, hd, hf⟩
     obtain ⟨a9_30, n9_30, c9_30, rfl⟩ := Rep.Es.form hv
     have HS30 := Hd hst
     have HVw30 := Hd (Rep.Es.mono (A' := fun b => w.heap.size < b /\ b ≠ w0.heap.size) (fun b hb => ⟨by omega, by omega⟩) hv)
     clear hst hv
     have HB30 := Hd (HB29.out.keep hf (by simp; omega))
     have HX30 := Hd (HX29.out.keep hf (by simp; omega))
     have HV6_30 := Hd (Px.FlatS.keep hf (fun g hg => by have := hg.1; simp; omega) HV6_29.out)
     have HF30 := Hd (HF29.out.trans hf)
     have HH30 := Hd h
     have HD30 := Hd (HD29.out.trans hd)
     obtain ⟨s30, hs30⟩ : ∃ z, z = sx := ⟨_, rfl⟩
     rw [<- hs30] at HH30 HD30 HS30
     have HQ30 := Hd hs30
     clear hs30
     have hb30 := HB30.out.lt
     have hp30 := HH30.out.lt
     have hx30 := HX30.out.lt
     clear hf HH29 HB29 HF29 HD29 HX29 HV6_29
     clear h hd
     have x9_31 := HX30.out.cell 9
     have f9_31 := HX30.out.free 9
     simp only [List.getElem?_cons_zero, List.getElem?_cons_succ] at x9_31
     have hfs := ((Fr.refl [some w0.heap.size] w30).setCell (p := ⟨w0.heap.size, 9, none⟩) (.inl (by simp)) (.slice a9_30 n9_30 c9_30))
     have HHs31 := Hd (HH30.out.keepP hfs (fun g hg => by simp; omega))
     have HBs31 := Hd (HB30.out.keep hfs (by simp; omega))
     have HXs31 := Hd (HX30.out.set 9 (.slice a9_30 n9_30 c9_30))
     simp only [List.set_cons_succ, List.set_cons_zero] at HXs31
     have HFs31 : Hid (Fr [some P] w (w30.setCell ⟨w0.heap.size, 9, none⟩ (.slice a9_30 n9_30 c9_30))) := Hd (HF30.out.trans' hfs (fun i hi => .inr (by simp at hi; omega)))
     have hsz31 : (w30.setCell ⟨w0.heap.size, 9, none⟩ (.slice a9_30 n9_30 c9_30)).heap.size = w30.heap.size := by simp [World.setCell]
     have HVs6_31 := Hd (Px.FlatS.keep hfs (fun g hg => by have := hg.2; simp; omega) HV6_30.out)
     have HVs9_31 := Hd (Rep.Es.keep hfs (fun g hg => by have := hg.2; simp; omega) HVw30.out)
     go_upto_region 16 with fail
     generalize (w30.setCell ⟨w0.heap.size, 9, none⟩ (.slice a9_30 n9_30 c9_30)) = wv31 at HHs31 HBs31 HXs31 HFs31 hsz31 HVs6_31 HVs9_31 ⊢
     clear hfs x9_31 f9_31 HH30 HB30 HF30 HX30 HV6_30 HVw30
     have hxx31 := HXs31.out.lt
     have hpp31 := HHs31.out.lt
     have hbb31 := HBs31.out.lt
     go_wp2_with fail
     refine (take_any P [111, 114, 100, 101, 114] s30 _ HHs31.out).mono ?_
     rintro e w32 ⟨rfl, h, hf⟩
     have HFt32 := Hd hf
     have HHt32 := Hd h
     clear h hf
     cases ht : taken [111, 114, 100, 101, 114] s30 with
     |true =>
      have HT32 := Hd ht
      have hf := HFt32.out
      have hh : RR w32 P (skip s30) := by have := HHt32.out; rw [took, ht] at this; exact this
      clear ht HFt32 HHt32
      have hlt32 := skip_lt HT32.out
      have HB32 := Hd (HBs31.out.keep hf (by simp; omega))
      have HX32 := Hd (HXs31.out.keep hf (by simp; omega))
      have HV6_32 := Hd (Px.FlatS.keep hf (fun g hg => by have := hg.1; simp; omega) HVs6_31.out)
      have HV9_32 := Hd (Rep.Es.keep hf (fun g hg => by have := hg.1; simp; omega) HVs9_31.out)
      have HF32 := Hd (HFs31.out.trans hf)
      have HH32 := Hd hh
      have HD32 := Hd (HD30.out.trans (Dp.skip HD30.out.wd))
      obtain ⟨s32, hs32⟩ : ∃ z, z = (skip s30) := ⟨_, rfl⟩
      rw [<- hs32] at HH32 HD32 hlt32
      have HQ32 := Hd hs32
      clear hs32
      have hb32 := HB32.out.lt
      have hp32 := HH32.out.lt
      have hx32 := HX32.out.lt
      clear hf HHs31 HBs31 HFs31 HD30 HXs31 HVs6_31 HVs9_31
      clear hh
      go_wp2_with fail
      refine (must_any P [98, 121] s32 _ HH32.out).mono ?_
      rintro e w33 ⟨rfl, h, hf⟩
      have HS33 := Hd (St.must [98, 121] s32)
      have HB33 := Hd (HB32.out.keep hf (by simp; omega))
      have HX33 := Hd (HX32.out.keep hf (by simp; omega))
      have HV6_33 := Hd (Px.FlatS.keep hf (fun g hg => by have := hg.1; simp; omega) HV6_32.out)
      have HV9_33 := Hd (Rep.Es.keep hf (fun g hg => by have := hg.1; simp; omega) HV9_32.out)
      have HF33 := Hd (HF32.out.trans hf)
      have HH33 := Hd h
      have HD33 := Hd (HD32.out.trans (Dp.musted HD32.out.wd [98, 121]))
      obtain ⟨s33, hs33⟩ : ∃ z, z = (musted [98, 121] s32) := ⟨_, rfl⟩
      rw [<- hs33] at HH33 HD33 HS33
      have HQ33 := Hd hs33
      clear hs33
      have hb33 := HB33.out.lt
      have hp33 := HH33.out.lt
      have hx33 := HX33.out.lt
      clear hf HH32 HB32 HF32 HD32 HX32 HV6_32 HV9_32
      clear h
      go_wp2_with fail
      refine (column_any P s33 _ HH33.out HD33.out.wd).mono ?_
      rintro e w34 ⟨x, sx, xs, rfl, hx, h, hst, hd, hf⟩
      obtain ⟨op, kind, int, t, tb, nm, va, vl, vc, rfl⟩ := e_form hx
      have HS34 := Hd hst
      have HEx := Hd (Rep.E.mono (A' := fun b => w.heap.size < b /\ b ≠ w0.heap.size) (fun b hb => ⟨by omega, by omega⟩) hx)
      clear hx hst
      have HB34 := Hd (HB33.out.keep hf (by simp; omega))
      have HX34 := Hd (HX33.out.keep hf (by simp; omega))
      have HV6_34 := Hd (Px.FlatS.keep hf (fun g hg => by have := hg.1; simp; omega) HV6_33.out)
      have HV9_34 := Hd (Rep.Es.keep hf (fun g hg => by have := hg.1; simp; omega) HV9_33.out)
      have HF34 := Hd (HF33.out.trans hf)
      have HH34 := Hd h
      have HD34 := Hd (HD33.out.trans hd)
      obtain ⟨s34, hs34⟩ : ∃ z, z = sx := ⟨_, rfl⟩
      rw [<- hs34] at HH34 HD34 HS34
      have HQ34 := Hd hs34
      clear hs34
      have hb34 := HB34.out.lt
      have hp34 := HH34.out.lt
      have hx34 := HX34.out.lt
      clear hf HH33 HB33 HF33 HD33 HX33 HV6_33 HV9_33
      clear h hd
      have x_ := HX34.out.cell 10
      have f_ := HX34.out.free 10
      simp only [List.getElem?_cons_zero, List.getElem?_cons_succ] at x_
      have hfs := ((Fr.refl [some w0.heap.size] w34).setCell (p := ⟨w0.heap.size, 10, none⟩) (.inl (by simp)) (.slice (some ⟨w34.heap.size, 0, none⟩) 1 1)).alloc (.cells #[.int .i64 op, .int .i64 kind, .int .i64 int, .string ⟨t.toArray⟩, .string ⟨tb.toArray⟩, .string ⟨nm.toArray⟩, .slice va vl vc] 82)
      have hsz_ : (w34.setCell ⟨w0.heap.size, 10, none⟩ (.slice (some ⟨w34.heap.size, 0, none⟩) 1 1)).heap.size = w34.heap.size := by simp [World.setCell]
      have HHe35 := Hd (HH34.out.keepP hfs (fun g hg => by simp; omega))
      have HBe35 := Hd (HB34.out.keep hfs (by simp; omega))
      have HXe35 := Hd (Blk.alloc (HX34.out.set 10 (.slice (some ⟨w34.heap.size, 0, none⟩) 1 1)) (.cells #[.int .i64 op, .int .i64 kind, .int .i64 int, .string ⟨t.toArray⟩, .string ⟨tb.toArray⟩, .string ⟨nm.toArray⟩, .slice va vl vc] 82))
      simp only [List.set_cons_succ, List.set_cons_zero] at HXe35
      have HFe35 : Hid (Fr [some P] w ((w34.setCell ⟨w0.heap.size, 10, none⟩ (.slice (some ⟨w34.heap.size, 0, none⟩) 1 1)).alloc (.cells #[.int .i64 op, .int .i64 kind, .int .i64 int, .string ⟨t.toArray⟩, .string ⟨tb.toArray⟩, .string ⟨nm.toArray⟩, .slice va vl vc] 82))) := Hd (HF34.out.trans' hfs (fun i hi => .inr (by simp at hi; omega)))
      have hes := es_mk (A := fun b => w.heap.size < b /\ b ≠ w0.heap.size) (w := (w34.setCell ⟨w0.heap.size, 10, none⟩ (.slice (some ⟨w34.heap.size, 0, none⟩) 1 1))) (.cons x [] _ [] (Rep.E.keep ((Fr.refl [some w0.heap.size] w34).setCell (p := ⟨w0.heap.size, 10, none⟩) (.inl (by simp)) (.slice (some ⟨w34.heap.size, 0, none⟩) 1 1)) (fun g hg => by have := hg.2; simp; omega) HEx.out) .nil) ⟨by rw [hsz_]; omega, by rw [hsz_]; omega⟩ (by simp [maxLen])
      rw [List.append_nil, hsz_] at hes
      have HVe35 := Hd hes
      have HVe6_35 := Hd (Px.FlatS.keep hfs (fun g hg => by have := hg.2; simp; omega) HV6_34.out)
      have HVe9_35 := Hd (Rep.Es.keep hfs (fun g hg => by have := hg.2; simp; omega) HV9_34.out)
      have hnx_ : ¬ w0.heap.size = w34.heap.size := by omega
      have hnx2_ : w0.heap.size < w34.heap.size + 1 := by omega
      go_upto_region 19 with fail
      generalize ((w34.setCell ⟨w0.heap.size, 10, none⟩ (.slice (some ⟨w34.heap.size, 0, none⟩) 1 1)).alloc (.cells #[.int .i64 op, .int .i64 kind, .int .i64 int, .string ⟨t.toArray⟩, .string ⟨tb.toArray⟩, .string ⟨nm.toArray⟩, .slice va vl vc] 82)) = we35 at HHe35 HBe35 HXe35 HFe35 HVe35 HVe6_35 HVe9_35 ⊢
      clear hfs hes x_ f_ HEx hsz_ HH34 HB34 HF34 HX34 HV6_34 HV9_34
      have hxe35 := HXe35.out.lt
      have hpe35 := HHe35.out.lt
      have hbe35 := HBe35.out.lt
      go_wp2_with fail
      refine (take_any P [100, 101, 115, 99] s34 _ HHe35.out).mono ?_
      rintro e w36 ⟨rfl, h, hf⟩
      have HSd := Hd (St.desc s34)
      change Hid (St (fun _ => CM.desc) s34 (taken [100, 101, 115, 99] s34) (took [100, 101, 115, 99] s34)) at HSd
      obtain ⟨bd, hbd⟩ : ∃ b, taken [100, 101, 115, 99] s34 = b := ⟨_, rfl⟩
      rw [hbd] at HSd ⊢
      clear hbd
      have HB36 := Hd (HBe35.out.keep hf (by simp; omega))
      have HX36 := Hd (HXe35.out.keep hf (by simp; omega))
      have HV6_36 := Hd (Px.FlatS.keep hf (fun g hg => by have := hg.1; simp; omega) HVe6_35.out)
      have HV9_36 := Hd (Rep.Es.keep hf (fun g hg => by have := hg.1; simp; omega) HVe9_35.out)
      have HV10_36 := Hd (Rep.Es.keep hf (fun g hg => by have := hg.1; simp; omega) HVe35.out)
      have HF36 := Hd (HFe35.out.trans hf)
      have HH36 := Hd h
      have HD36 := Hd (HD34.out.trans (Dp.took HD34.out.wd [100, 101, 115, 99]))
      obtain ⟨s36, hs36⟩ : ∃ z, z = (took [100, 101, 115, 99] s34) := ⟨_, rfl⟩
      rw [<- hs36] at HH36 HD36 HSd
      have HQ36 := Hd hs36
      clear hs36
      have hb36 := HB36.out.lt
      have hp36 := HH36.out.lt
      have hx36 := HX36.out.lt
      clear hf HHe35 HBe35 HFe35 HD34 HXe35 HVe6_35 HVe9_35 HVe35
      clear h
      have x11_37 := HX36.out.cell 11
      have f11_37 := HX36.out.free 11
      simp only [List.getElem?_cons_zero, List.getElem?_cons_succ] at x11_37
      have hfs := ((Fr.refl [some w0.heap.size] w36).setCell (p := ⟨w0.heap.size, 11, none⟩) (.inl (by simp)) (.bool bd))
      have HHs37 := Hd (HH36.out.keepP hfs (fun g hg => by simp; omega))
      have HBs37 := Hd (HB36.out.keep hfs (by simp; omega))
      have HXs37 := Hd (HX36.out.set 11 (.bool bd))
      simp only [List.set_cons_succ, List.set_cons_zero] at HXs37
      have HFs37 : Hid (Fr [some P] w (w36.setCell ⟨w0.heap.size, 11, none⟩ (.bool bd))) := Hd (HF36.out.trans' hfs (fun i hi => .inr (by simp at hi; omega)))
      have hsz37 : (w36.setCell ⟨w0.heap.size, 11, none⟩ (.bool bd)).heap.size = w36.heap.size := by simp [World.setCell]
      have HVs6_37 := Hd (Px.FlatS.keep hfs (fun g hg => by have := hg.2; simp; omega) HV6_36.out)
      have HVs9_37 := Hd (Rep.Es.keep hfs (fun g hg => by have := hg.2; simp; omega) HV9_36.out)
      have HVs10_37 := Hd (Rep.Es.keep hfs (fun g hg => by have := hg.2; simp; omega) HV10_36.out)
      go_upto_region 20 with fail
      generalize (w36.setCell ⟨w0.heap.size, 11, none⟩ (.bool bd)) = wv37 at HHs37 HBs37 HXs37 HFs37 hsz37 HVs6_37 HVs9_37 HVs10_37 ⊢
      clear hfs x11_37 f11_37 HH36 HB36 HF36 HX36 HV6_36 HV9_36 HV10_36
      have hxx37 := HXs37.out.lt
      have hpp37 := HHs37.out.lt
      have hbb37 := HBs37.out.lt
      have HO := Hd (St.orders_yes HT32.out HQ32.out HS33.out HS34.out HSd.out)
      have HS : Hid (St (selectsW n) s (.mk 6 m27 [] [] [] [] acc [] [] l30 [x] bd []) s36) := Hd (St.bnd HS22.out (St.selects (n := n) (St.items_some HT23.out HSL.out) HS26.out HS27.out HJ.out HS30.out HO.out))
      obtain ⟨x0, x1, x2, x3, x4, x5, x6, x7, x8, x9, x10, x11, x12, f0, f1, f2, f3, f4, f5, f6, f7, f8, f9, f10, f11, f12⟩ := c13_of HXs37.out
      obtain ⟨y0, y1, y2, y3, y4, y5, y6, y7, y8, y9, y10, y11, y12, k0, k1, k2, k3, k4, k5, k6, k7, k8, k9, k10, k11, k12⟩ := c13_of HBs37.out
      have hRX : ¬ w0.heap.size = w.heap.size := by omega
      go_wp2_with fail
      exact bodyPost_ret (ret_cell13 rfl _ w.heap.size rfl _ _ _ _ _ _ _ _ _ _ _ _ _ _ (blkPut13 HBs37.out _ _ _ _ _ _ _ _ _ _ _ _ _)) rfl ⟨.mk 6 m27 [] [] [] [] acc [] [] l30 [x] bd [], s36, ⟨_, rfl, .mk 6 m27 [] [] [] [] acc [] [] l30 [x] bd [] _ _ _ _ _ _ _ _ .nil .nil Rep.Es.nil (Px.FlatS.mono (A' := fun b => w.heap.size <= b) (fun b hb => by have := hb.1; omega) (Px.FlatS.keep (frPut13 (Fr.refl [some w.heap.size] _) (.inl (by simp)) _ _ _ _ _ _ _ _ _ _ _ _ _) (fun b hb => by have := hb.1; simp; omega) HVs6_37.out)) Rep.Es.nil (Rep.Es.mono (A' := fun b => w.heap.size <= b) (fun b hb => by have := hb.1; omega) (Rep.Es.keep (frPut13 (Fr.refl [some w.heap.size] _) (.inl (by simp)) _ _ _ _ _ _ _ _ _ _ _ _ _) (fun b hb => by have := hb.1; simp; omega) HVs9_37.out)) (Rep.Es.mono (A' := fun b => w.heap.size <= b) (fun b hb => by have := hb.1; omega) (Rep.Es.keep (frPut13 (Fr.refl [some w.heap.size] _) (.inl (by simp)) _ _ _ _ _ _ _ _ _ _ _ _ _) (fun b hb => by have := hb.1; simp; omega) HVs10_37.out)) Px.SS.nil⟩, HHs37.out.keepP (frPut13 (Fr.refl [some w.heap.size] _) (.inl (by simp)) _ _ _ _ _ _ _ _ _ _ _ _ _) (fun g hg => by simp; omega), HS.out, HD36.out, frPut13 HFs37.out (.inr (Nat.le_refl _)) _ _ _ _ _ _ _ _ _ _ _ _ _⟩
     |false =>
      have HT32 := Hd ht
      have hf := HFt32.out
      have hh : RR w32 P s30 := by have := HHt32.out; rw [took, ht] at this; exact this
      clear ht HFt32 HHt32
      have HB32 := Hd (HBs31.out.keep hf (by simp; omega))
      have HX32 := Hd (HXs31.out.keep hf (by simp; omega))
      have HV6_32 := Hd (Px.FlatS.keep hf (fun g hg => by have := hg.1; simp; omega) HVs6_31.out)
      have HV9_32 := Hd (Rep.Es.keep hf (fun g hg => by have := hg.1; simp; omega) HVs9_31.out)
      have HF32 := Hd (HFs31.out.trans hf)
      have HH32 := Hd hh
      have HD32 := Hd (HD30.out.trans (Dp.refl HD30.out.wd))
      have hb32 := HB32.out.lt
      have hp32 := HH32.out.lt
      have hx32 := HX32.out.lt
      clear hf HHs31 HBs31 HFs31 HD30 HXs31 HVs6_31 HVs9_31
      clear hh
      have HO := Hd (St.orders_no HT32.out)
      have HS : Hid (St (selectsW n) s (.mk 6 m27 [] [] [] [] acc [] [] l30 [] false []) s30) := Hd (St.bnd HS22.out (St.selects (n := n) (St.items_some HT23.out HSL.out) HS26.out HS27.out HJ.out HS30.out HO.out))
      obtain ⟨x0, x1, x2, x3, x4, x5, x6, x7, x8, x9, x10, x11, x12, f0, f1, f2, f3, f4, f5, f6, f7, f8, f9, f10, f11, f12⟩ := c13_of HX32.out
      obtain ⟨y0, y1, y2, y3, y4, y5, y6, y7, y8, y9, y10, y11, y12, k0, k1, k2, k3, k4, k5, k6, k7, k8, k9, k10, k11, k12⟩ := c13_of HB32.out
      have hRX : ¬ w0.heap.size = w.heap.size := by omega
      go_wp2_with fail
      exact bodyPost_ret (ret_cell13 rfl _ w.heap.size rfl _ _ _ _ _ _ _ _ _ _ _ _ _ _ (blkPut13 HB32.out _ _ _ _ _ _ _ _ _ _ _ _ _)) rfl ⟨.mk 6 m27 [] [] [] [] acc [] [] l30 [] false [], s30, ⟨_, rfl, .mk 6 m27 [] [] [] [] acc [] [] l30 [] false [] _ _ _ _ _ _ _ _ .nil .nil Rep.Es.nil (Px.FlatS.mono (A' := fun b => w.heap.size <= b) (fun b hb => by have := hb.1; omega) (Px.FlatS.keep (frPut13 (Fr.refl [some w.heap.size] _) (.inl (by simp)) _ _ _ _ _ _ _ _ _ _ _ _ _) (fun b hb => by have := hb.1; simp; omega) HV6_32.out)) Rep.Es.nil (Rep.Es.mono (A' := fun b => w.heap.size <= b) (fun b hb => by have := hb.1; omega) (Rep.Es.keep (frPut13 (Fr.refl [some w.heap.size] _) (.inl (by simp)) _ _ _ _ _ _ _ _ _ _ _ _ _) (fun b hb => by have := hb.1; simp; omega) HV9_32.out)) Rep.Es.nil Px.SS.nil⟩, HH32.out.keepP (frPut13 (Fr.refl [some w.heap.size] _) (.inl (by simp)) _ _ _ _ _ _ _ _ _ _ _ _ _) (fun g hg => by simp; omega), HS.out, HD32.out, frPut13 HF32.out (.inr (Nat.le_refl _)) _ _ _ _ _ _ _ _ _ _ _ _ _⟩
end Rf
end Go.Proofs.YtmdnhinpaflamaaGreatDoor
