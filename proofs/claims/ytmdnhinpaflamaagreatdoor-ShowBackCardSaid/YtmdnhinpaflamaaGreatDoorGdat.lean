/- Data that is made. -/
import Derived.Test.YtmdnhinpaflamaaGreatDoorGaD
import Derived.Test.YtmdnhinpaflamaaGreatDoorGsel
import Derived.Test.YtmdnhinpaflamaaGreatDoorSeq3
namespace Go.Proofs.YtmdnhinpaflamaaGreatDoor
open Go.RowKit
set_option linter.unusedVariables false
set_option linter.unusedSimpArgs false
namespace Gn
open PM (Ex B)
open Px (SR SS StR ItS TagS ColS itC kIt kTag kEx FlatS frSet ret_cell13 c13_of put13 frPut13 blkPut13 c7_of)
open CM (Pr Qs Wr Sel Im Co Cl)
theorem tab_at {n r : Nat} {w : World} (h : Sch n w) (hr : r < 2) : ∃ (x : ByteArray) (a1 a2 : Option Addr) (l1 c1 l2 c2 : Nat), tabV n r = [.string x, .slice a1 l1 c1, .slice a2 l2 c2] /\ w.cell? ⟨n + 4, r * 3, none⟩ = some (.string x) /\ w.cell? ⟨n + 4, r * 3 + 1, none⟩ = some (.slice a1 l1 c1) /\ w.cell? ⟨n + 4, r * 3 + 2, none⟩ = some (.slice a2 l2 c2) := by
 rcases (by omega : r = 0 \/ r = 1) with rfl | rfl
 ·exact ⟨_, _, _, _, _, _, _, rfl, h.l.cell 0, h.l.cell 1, h.l.cell 2⟩
 ·exact ⟨_, _, _, _, _, _, _, rfl, h.l.cell 3, h.l.cell 4, h.l.cell 5⟩
theorem tab_gen (n : Nat) {r : Nat} (hr : r < 2) : ∃ (cb : Nat) (ia : Option Addr) (il ic : Nat), Hid ((if r = 0 then n + 1 else n + 3) = cb) /\ tabV n r = [.string ⟨(tname r).toArray⟩, .slice (some ⟨cb, 0, none⟩) 3 3, .slice ia il ic] := by
 rcases (by omega : r = 0 \/ r = 1) with rfl | rfl <;> exact ⟨_, _, _, _, Hd rfl, rfl⟩
theorem kinds_cellr {r n cb : Nat} {w : World} (hcb : Hid ((if r = 0 then n + 1 else n + 3) = cb)) (h : Sch n w) {k : Nat} (hk : k < 3) : w.cell? ⟨cb, k * 3 + 1, none⟩ = some (.int .i64 (kindOf r k)) := by
 have := kinds_cell (i := r) h hk
 rwa [hcb.out] at this
set_option maxRecDepth 4000000 in
set_option maxHeartbeats 16000000 in
theorem data_any {B M : Nat} (P : Nat) (w : World) (h : PK B M w P) :
  Calls Tryz.prog 30 #[.pointer (some ⟨P, 0, none⟩)] w fun e w' => (∃ q : Qs, OkS q /\ IsD q /\ StR w.heap.size w' e q.st) /\ PK B (M - 1) w' P /\ Fr [some P] w w' := by
 have hPl := h.lt'
 have HK := Hd h
 clear h
 go_enter Tryz.func30, Tryz.ntmps30
 go_wp2_with fail
 refine (schema_any (w.alloc (.cells #[.int .i64 0, .string ⟨#[]⟩, .string ⟨#[]⟩, .slice none 0 0, .slice none 0 0, .slice none 0 0, .slice none 0 0, .string ⟨#[]⟩, .slice none 0 0, .slice none 0 0, .slice none 0 0, .bool false, .slice none 0 0] 29))).mono ?_
 rintro e w1 ⟨rfl, hs, hf⟩
 rw [World.size_alloc] at hs
 have HS := Hd hs
 have HF := Hd (((Fr.refl [] w).alloc (.cells #[.int .i64 0, .string ⟨#[]⟩, .string ⟨#[]⟩, .slice none 0 0, .slice none 0 0, .slice none 0 0, .slice none 0 0, .string ⟨#[]⟩, .slice none 0 0, .slice none 0 0, .slice none 0 0, .bool false, .slice none 0 0] 29)).trans hf)
 have HF1 := Hd hf
 have HR := Hd ((Blk.new w 29 [.int .i64 0, .string ⟨#[]⟩, .string ⟨#[]⟩, .slice none 0 0, .slice none 0 0, .slice none 0 0, .slice none 0 0, .string ⟨#[]⟩, .slice none 0 0, .slice none 0 0, .slice none 0 0, .bool false, .slice none 0 0]).keep hf (by simp))
 have hsz := hf.size
 simp only [World.size_alloc] at hsz
 clear hs hf
 go_upto_region 2 with fail
 have HQS := Hd (HS.out.keep ((Fr.refl [] w1).alloc (.cells #[.slice (some ⟨w.heap.size + 1 + 4, 0, none⟩) 2 2, .slice none 0 0] 69)) (by simp))
 have HQR := Hd (HR.out.alloc (.cells #[.slice (some ⟨w.heap.size + 1 + 4, 0, none⟩) 2 2, .slice none 0 0] 69))
 have HQK := Hd ((((Gd.start HK.out).alloc (.cells #[.int .i64 0, .string ⟨#[]⟩, .string ⟨#[]⟩, .slice none 0 0, .slice none 0 0, .slice none 0 0, .slice none 0 0, .string ⟨#[]⟩, .slice none 0 0, .slice none 0 0, .slice none 0 0, .bool false, .slice none 0 0] 29)).call0 ((Fr.refl [] _).trans (HF1.out))).alloc (.cells #[.slice (some ⟨w.heap.size + 1 + 4, 0, none⟩) 2 2, .slice none 0 0] 69))
 have HQC := Hd (Blk.new w1 69 [.slice (some ⟨w.heap.size + 1 + 4, 0, none⟩) 2 2, .slice none 0 0])
 have hq : w1.heap.size < (w1.alloc (.cells #[.slice (some ⟨w.heap.size + 1 + 4, 0, none⟩) 2 2, .slice none 0 0] 69)).heap.size := by simp
 generalize w1.alloc (.cells #[.slice (some ⟨w.heap.size + 1 + 4, 0, none⟩) 2 2, .slice none 0 0] 69) = wq at HQS HQR HQK HQC hq ⊢
 have HKEY : Hid (∀ W, Fr [some P] wq W -> W.cell? ⟨w1.heap.size, 0, none⟩ = some (.slice (some ⟨w.heap.size + 1 + 4, 0, none⟩) 2 2)) := Hd (fun W hW => (HQC.out.keep hW (by simp; omega)).cell 0)
 have k0 := HKEY.out _ (Fr.refl _ _)
 have hlP : P < wq.heap.size := by omega
 have hlS := HQS.out.l.lt
 have n1 : ¬ w1.heap.size = wq.heap.size := by omega
 go_cut [4] from 11 to 16 (fun s4 wx => ∃ (r bt : Nat), s4 = .pointer (some ⟨bt, 0, none⟩) /\ r < 2 /\ wq.heap.size <= bt /\ Hid (Blk wx bt 75 (tabV (w.heap.size + 1) r)) /\ Hid (Gd B (M - 1) P w wx) /\ Hid (Fr [some P] wq wx))
 case first =>
  go_region_with (
   go_at_call 25
   refine (num_less (B := B) (M := M) P 2 (by decide) (by decide) _ ?_).mono ?_
   first | with_reducible exact ((HQK.out.alloc _).drew).pk | with_reducible exact HQK.out.drew.pk | with_reducible exact (HQK.out.drew.alloc _).pk
   rintro e w3 ⟨r, rfl, hr, hk, hf⟩
   have hr2 : r < 2 := by omega
   first
    |have hfz := (Fr.drew ((Fr.refl [some P] wq).alloc (.cells #[.string ⟨#[]⟩, .slice none 0 0, .slice none 0 0] 75))).trans hf
     have HDz := Hd (((HQK.out.alloc (.cells #[.string ⟨#[]⟩, .slice none 0 0, .slice none 0 0] 75)).drew).less hk hf)
     have HFz := Hd hfz
     have HTz := Hd ((Blk.new wq 75 [.string ⟨#[]⟩, .slice none 0 0, .slice none 0 0]).drew.keep hf (by simp; omega))
     have hsz := hfz.size
     obtain ⟨x, a1, a2, l1, c1, l2, c2, hx, t0, t1, t2⟩ := tab_at (HQS.out.keep hfz (fun g hg => by simp at hg; omega)) hr2
     have k0 := HKEY.out _ hfz
     have HX := Hd hx
     have z0 := HTz.out.cell 0
     have z1 := HTz.out.cell 1
     have z2 := HTz.out.cell 2
     have f0 := HTz.out.free 0
     have f1 := HTz.out.free 1
     have f2 := HTz.out.free 2
     have hlz := HTz.out.lt
     clear hk hf hfz hx
    |have hfz := (Fr.drew (Fr.refl [some P] wq)).trans hf
     have HDz := Hd (HQK.out.drew.less hk hf)
     have HFz := Hd hfz
     have hsz := hfz.size
     obtain ⟨x, a1, a2, l1, c1, l2, c2, hx, t0, t1, t2⟩ := tab_at (HQS.out.keep hfz (fun g hg => by simp at hg; omega)) hr2
     have k0 := HKEY.out _ hfz
     have HX := Hd hx
     have n2 : ¬ w.heap.size + 1 + 4 = w3.heap.size := by omega
     have n3 : ¬ w1.heap.size = w3.heap.size := by omega
     have g3 : w1.heap.size < w3.heap.size := by omega
     have g2 : w.heap.size + 1 + 4 < w3.heap.size := by omega
     clear hk hf hfz hx)
  all_goals go_wp2_with fail
  all_goals go_meet
  all_goals first
   |exact ⟨r, w3.heap.size, rfl, hr2, hsz, Hd (by rw [HX.out]; exact Blk.new w3 75 [.string x, .slice a1 l1 c1, .slice a2 l2 c2]), Hd (HDz.out.alloc _), Hd (HFz.out.alloc _)⟩
   |exact ⟨r, wq.heap.size, rfl, hr2, Nat.le_refl _, Hd (by rw [HX.out]; exact ((HTz.out.set 0 (.string x)).set 1 (.slice a1 l1 c1)).set 2 (.slice a2 l2 c2)), Hd (((HDz.out.set (i := 0) (v := .string x) (by omega)).set (i := 1) (v := .slice a1 l1 c1) (by omega)).set (i := 2) (v := .slice a2 l2 c2) (by omega)), Hd (((HFz.out.setCell (p := ⟨wq.heap.size, 0, none⟩) (.inr (Nat.le_refl _)) (.string x)).setCell (p := ⟨wq.heap.size, 1, none⟩) (.inr (Nat.le_refl _)) (.slice a1 l1 c1)).setCell (p := ⟨wq.heap.size, 2, none⟩) (.inr (Nat.le_refl _)) (.slice a2 l2 c2))⟩
 case rest =>
  obtain ⟨r, bt, rfl, hr, hbt, HTB, HGD, HFR⟩ := hcut
  have HQS2 := Hd (HQS.out.keep HFR.out (fun g hg => by simp at hg; omega))
  have HQC2 := Hd (HQC.out.keep HFR.out (by simp; omega))
  have HQR2 := Hd (HQR.out.keep HFR.out (by simp; omega))
  have hlS1 := HS.out.l.lt
  obtain ⟨cb, ia, il, ic, HCB, htv⟩ := tab_gen (w.heap.size + 1) hr
  have HCT := Hd (cols_tab (i := r) (n := w.heap.size + 1) hr wc HQS2.out)
  rw [htv] at HTB HCT
  have HTV := Hd htv
  clear htv
  have HT : Hid (Blk wc bt 75 [.string ⟨(tname r).toArray⟩, .slice (some ⟨cb, 0, none⟩) 3 3, .slice ia il ic]) := Hd HTB.out
  have t0 := HT.out.cell 0
  have t1 := HT.out.cell 1
  have t2 := HT.out.cell 2
  have hbl := HT.out.lt
  go_wp2_with fail
  refine HCT.out.mono ?_
  rintro e w3 ⟨vc, vk, rfl, hc, hk, hf⟩
  obtain ⟨z0, z1, HD3⟩ : ∃ z0 z1, Hid (Dt [.string ⟨(tname r).toArray⟩, .slice (some ⟨cb, 0, none⟩) 3 3, .slice ia il ic] r B (M - 1) P (w.heap.size + 1) w1.heap.size bt z0 z1 w vc vk w3) := ⟨wc.heap.size, w3.heap.size, Hd ⟨HGD.out.call0 hf, HQS2.out.keep' hf (by simp), HQR2.out.keep hf (by simp), HQC2.out.keep hf (by simp), HT.out.keep hf (by simp), Ck.new hc hk, by omega, by omega, by omega, by omega, hf.size, Nat.le_refl _⟩⟩
  have hz1 := HD3.out.h1
  clear hc hk hf t0 t1 t2 HT HTB HQS2 HQC2 HQR2 HGD HFR
  go_wp2_with fail
  refine (num_any P 7 (by decide) (by decide) w3 HD3.out.d.pk).mono ?_
  rintro e w5 ⟨r7, rfl, hr7, hk, hf⟩
  have HD5 := Hd (HD3.out.call hk hf)
  have hs5 := hf.size
  clear hk hf HD3
  have t0 := HD5.out.tb.cell 0
  have t1 := HD5.out.tb.cell 1
  have t2 := HD5.out.tb.cell 2
  have hbl := HD5.out.tb.lt
  go_upto_if 24 with fail
  go_cut [24] from 25 to 27 (fun s24 wx => s24 = .bool (decide ((r7 : Int) <= 2)) /\ w5 = wx)
  case first =>
   by_cases hi0 : (r7 : Int) = 0
   ·go_wp2_with fail
    go_meet
    exact ⟨congrArg Value.bool (by rw [Bool.eq_iff_iff]; simp; omega), rfl⟩
   ·skip
    by_cases hi1 : (r7 : Int) = 1
    ·go_wp2_with fail
     go_meet
     exact ⟨congrArg Value.bool (by rw [Bool.eq_iff_iff]; simp; omega), rfl⟩
    ·skip
     by_cases hi2 : (r7 : Int) = 2
     ·go_wp2_with fail
      go_meet
      exact ⟨congrArg Value.bool (by rw [Bool.eq_iff_iff]; simp; omega), rfl⟩
     ·go_wp2_with fail
      go_meet
      exact ⟨congrArg Value.bool (by rw [Bool.eq_iff_iff]; simp; omega), rfl⟩
  case rest =>
   obtain ⟨rfl, rfl⟩ := hcut
   by_cases hi3 : (r7 : Int) <= 2
   case pos =>
    go_wp2_with fail
    have HD7 := Hd (HD5.out.alloc (.cells #[.int .i64 5, .string ⟨(tname r).toArray⟩, .string ⟨#[]⟩, .slice none 0 0, .slice none 0 0, .slice none 0 0, .slice none 0 0, .string ⟨#[]⟩, .slice none 0 0, .slice none 0 0, .slice none 0 0, .bool false, .slice none 0 0] 29))
    have HSt7 := Hd (Blk.new w5 29 [.int .i64 5, .string ⟨(tname r).toArray⟩, .string ⟨#[]⟩, .slice none 0 0, .slice none 0 0, .slice none 0 0, .slice none 0 0, .string ⟨#[]⟩, .slice none 0 0, .slice none 0 0, .slice none 0 0, .bool false, .slice none 0 0])
    have hs7 : w5.heap.size < (w5.alloc (.cells #[.int .i64 5, .string ⟨(tname r).toArray⟩, .string ⟨#[]⟩, .slice none 0 0, .slice none 0 0, .slice none 0 0, .slice none 0 0, .string ⟨#[]⟩, .slice none 0 0, .slice none 0 0, .slice none 0 0, .bool false, .slice none 0 0] 29)).heap.size := by simp
    generalize w5.alloc (.cells #[.int .i64 5, .string ⟨(tname r).toArray⟩, .string ⟨#[]⟩, .slice none 0 0, .slice none 0 0, .slice none 0 0, .slice none 0 0, .string ⟨#[]⟩, .slice none 0 0, .slice none 0 0, .slice none 0 0, .bool false, .slice none 0 0] 29) = w7 at HD7 HSt7 hs7 ⊢
    clear HD5 t0 t1 t2
    go_loopw [8] (fun i wr => ∃ (k : Nat) (ps : List Pr) (a5 : Option Addr) (l5 c5 : Nat), i = .int .i64 (k : Int) /\ k <= 3 /\ ps.length = k /\ Hid (∀ p ∈ ps, Sz 1 p) /\ Hid (Blk wr w5.heap.size 29 [.int .i64 5, .string ⟨(tname r).toArray⟩, .string ⟨#[]⟩, .slice none 0 0, .slice none 0 0, .slice a5 l5 c5, .slice none 0 0, .string ⟨#[]⟩, .slice none 0 0, .slice none 0 0, .slice none 0 0, .bool false, .slice none 0 0]) /\ Hid (Dt [.string ⟨(tname r).toArray⟩, .slice (some ⟨cb, 0, none⟩) 3 3, .slice ia il ic] r B (M - 1) P (w.heap.size + 1) w1.heap.size bt z0 z1 w vc vk wr) /\ Hid (Gr kEx 82 (w5.heap.size + 1) wr (.slice a5 l5 c5) (ps.map Pr.ex)) /\ w5.heap.size < wr.heap.size) (fun i _ => (3 - intOf i).toNat)
    case atStart => exact ⟨0, [], none, 0, 0, rfl, by omega, rfl, Hd (by simp), HSt7, HD7, Hd Gr.nil, hs7⟩
    case round =>
     obtain ⟨k, ps, a5, l5, c5, rfl, hk, hpl, HSZ, HStr, HDr, HGr, hsr⟩ := hrel
     have t1 := HDr.out.tb.cell 1
     have hbl := HDr.out.tb.lt
     by_cases hk3 : k = 3
     ·subst hk3
      obtain ⟨k0, k1, k2, k3, k4, k5, k6, k7, k8, k9, k10, k11, k12, f0, f1, f2, f3, f4, f5, f6, f7, f8, f9, f10, f11, f12⟩ := c13_of HStr.out
      obtain ⟨q0, q1, q2, q3, q4, q5, q6, q7, q8, q9, q10, q11, q12, g0, g1, g2, g3, g4, g5, g6, g7, g8, g9, g10, g11, g12⟩ := c13_of HDr.out.r
      have hlS := HStr.out.lt
      have hlR := HDr.out.r.lt
      have hlt := HDr.out.lt
      have hnR : ¬ w.heap.size = w5.heap.size := by omega
      obtain ⟨x, y, z, rfl⟩ : ∃ x y z, ps = [x, y, z] := by
       match ps, hpl with
       |[x, y, z], _ => exact ⟨x, y, z, rfl⟩
      go_wp2_with fail
      refine bodyPost_ret (ret_cell13 rfl _ w.heap.size rfl _ _ _ _ _ _ _ _ _ _ _ _ _ _ (blkPut13 HDr.out.r _ _ _ _ _ _ _ _ _ _ _ _ _)) rfl ?_
      have hv := Px.ex_es HGr.out.done
      exact HDr.out.done (q := .write (.insert (tname r) x [y, z])) (okS_ins (tname_ok r) HSZ.out (by simp)) (.inr ⟨_, rfl⟩) (.mk 5 (tname r) [] [] [] _ [] [] [] [] [] false [] _ _ _ _ _ _ _ _ .nil .nil (Rep.Es.mono (fun g hg => by omega) hv) .nil Rep.Es.nil Rep.Es.nil Rep.Es.nil SS.nil)
     ·have hk2 : (k : Int) < 3 := by omega
      have hk0 : (0 : Int) <= k := by omega
      go_upto_region 12 with fail
      have hown : ∀ g, (Value.slice a5 l5 c5).ownBlock = some g -> w5.heap.size < g /\ g < wr.heap.size := fun g hg => ⟨HGr.out.own g hg, HGr.out.live g hg⟩
      have hPw := HDr.out.d.lt
      have hlt := HDr.out.lt
      have HKEY : Hid (∀ W, Fr [some P, (Value.slice a5 l5 c5).ownBlock] wr W -> W.cell? ⟨w5.heap.size, 5, none⟩ = some (.slice a5 l5 c5) /\ W.cell? ⟨bt, 1, none⟩ = some (.slice (some ⟨cb, 0, none⟩) 3 3) /\ W.cell? ⟨cb, k * 3 + 1, none⟩ = some (.int .i64 (kindOf r k))) := Hd (fun W hW => by
       have n1 : ∀ g, w.heap.size <= g -> g <= w5.heap.size -> some g ∉ [some P, (Value.slice a5 l5 c5).ownBlock] := fun g h1 h2 hm => by simp only [List.mem_cons, Option.some.injEq, List.not_mem_nil, or_false] at hm; rcases hm with h | h; omega; have := hown _ h.symm; omega
       have hdt := HDr.out
       have h1 := hdt.ht
       have h2 := hdt.h0
       have h3 := hdt.h01
       have h4 := hdt.hs
       exact ⟨(HStr.out.keep hW (n1 _ (by omega) (by omega))).cell 5, (hdt.tb.keep hW (n1 _ (by omega) (by omega))).cell 1, kinds_cellr HCB (hdt.s.keep' hW (fun g g1 g2 => n1 g (by omega) (by omega))) (by omega)⟩)
      have HOWN := Hd hown
      have hfq : Fr [some P, (Value.slice a5 l5 c5).ownBlock] wr wr.drew := Fr.drew (Fr.refl _ wr)
      have hI0 := HKEY.out _ hfq
      clear hown
      refine Seq3.wp_region_text (fun i => i != 9 && i != 10 && i != 11 && i != 12 && i != 14) (fun _ => none) (fun i => i == 14) (fun w' => w'.cell? ⟨w5.heap.size, 5, none⟩ = some (.slice a5 l5 c5) /\ w'.cell? ⟨bt, 1, none⟩ = some (.slice (some ⟨cb, 0, none⟩) 3 3) /\ w'.cell? ⟨cb, k * 3 + 1, none⟩ = some (.int .i64 (kindOf r k))) (by kernel_rfl) (by kernel_rfl) hI0 ?_
      (refine Seq3.wpL_quiet rfl rfl rfl (fun K hK => ?_); go_big_quiet_op; (first | refine hK _ ?_ | refine ⟨_, by intros; rfl, hK _ ?_⟩); clear hK K)
      refine Seq3.wpL_held (v := .slice a5 l5 c5) rfl rfl (fun w' hI => ?_) ?_
      ·have hI' : w'.cell? ⟨w5.heap.size, 5, none⟩ = some (.slice a5 l5 c5) := hI.1
       simp [go_sem, execOp, hI']
      simp only [Act.put, List.setIfInBounds_toArray, List.set_cons_succ, List.set_cons_zero]
      iterate 2 (refine Seq3.wpL_quiet rfl rfl rfl (fun K hK => ?_); go_big_quiet_op; (first | refine hK _ ?_ | refine ⟨_, by intros; rfl, hK _ ?_⟩); clear hK K)
      refine Seq3.wpL_held (v := .slice (some ⟨cb, 0, none⟩) 3 3) rfl rfl (fun w' hI => ?_) ?_
      ·have hI' : w'.cell? ⟨bt, 1, none⟩ = some (.slice (some ⟨cb, 0, none⟩) 3 3) := hI.2.1
       simp [go_sem, execOp, hI']
      simp only [Act.put, List.setIfInBounds_toArray, List.set_cons_succ, List.set_cons_zero]
      iterate 3 (refine Seq3.wpL_quiet rfl rfl rfl (fun K hK => ?_); go_big_quiet_op; (first | refine hK _ ?_ | refine ⟨_, by intros; rfl, hK _ ?_⟩); clear hK K)
      refine Seq3.wpL_held (v := .int .i64 (kindOf r k)) rfl rfl (fun w' hI => ?_) ?_
      ·have hI' : w'.cell? ⟨cb, k * 3 + 1, none⟩ = some (.int .i64 (kindOf r k)) := hI.2.2
       simp [go_sem, execOp, hI']
      simp only [Act.put, List.setIfInBounds_toArray, List.set_cons_succ, List.set_cons_zero]
      refine Seq3.wpL_call rfl rfl (by kernel_rfl) (value_any P (kindOf r k) wr.drew HDr.out.drew.d.pk) ?_
      rintro e wx ⟨vk', vi, vt, rfl, hlit, hk', hf⟩
      have hf1 := hfq.trans' hf (by simp)
      refine ⟨_, rfl, HKEY.out _ hf1, ?_⟩
      simp only [Act.put, List.setIfInBounds_toArray, List.set_cons_succ, List.set_cons_zero]
      have HDx := Hd (HDr.out.drew.call hk' hf)
      have HGx := Hd ((HGr.out.keep (Fr.drew (Fr.refl [] wr)) (by simp)).keep hf (fun g hg => by simp; omega))
      have hsx := hf.size
      simp only [World.size_drew] at hsx
      have HLIT := Hd hlit
      clear hk' hf hlit
      refine Seq3.wpL_call rfl rfl (by kernel_rfl) (lit_any vk' vi vt wx) ?_
      rintro e wy ⟨rfl, hf⟩
      have hf2 := hf1.trans' hf (by simp)
      refine ⟨_, rfl, HKEY.out _ hf2, ?_⟩
      simp only [Act.put, List.setIfInBounds_toArray, List.set_cons_succ, List.set_cons_zero]
      have HDy := Hd (HDx.out.call0 hf)
      have HGy := Hd (HGx.out.keep hf (by simp))
      have hsy := hf.size
      clear hf
      have hf3 := hf2.alloc (.cells #[.int .i64 1, .int .i64 vk', .int .i64 vi, .string ⟨vt.toArray⟩, .string ⟨#[]⟩, .string ⟨#[]⟩, .slice none 0 0] 82)
      refine Seq3.wpL_val (v := .slice (some ⟨wy.heap.size, 0, none⟩) 1 1) (w' := wy.alloc (.cells #[.int .i64 1, .int .i64 vk', .int .i64 vi, .string ⟨vt.toArray⟩, .string ⟨#[]⟩, .string ⟨#[]⟩, .slice none 0 0] 82)) rfl rfl (by simp [go_sem, execOp]) (HKEY.out _ hf3) ?_
      simp only [Act.put, List.setIfInBounds_toArray, List.set_cons_succ, List.set_cons_zero]
      have HDz := Hd (HDy.out.alloc (.cells #[.int .i64 1, .int .i64 vk', .int .i64 vi, .string ⟨vt.toArray⟩, .string ⟨#[]⟩, .string ⟨#[]⟩, .slice none 0 0] 82))
      obtain ⟨⟨cs, hRL, hROW⟩, hGO⟩ := HGy.out
      have HRL := Hd hRL
      have HROW := Hd hROW
      have HROWz := Hd (hROW.keep ((Fr.refl [] wy).alloc (.cells #[.int .i64 1, .int .i64 vk', .int .i64 vi, .string ⟨vt.toArray⟩, .string ⟨#[]⟩, .string ⟨#[]⟩, .slice none 0 0] 82)) (by simp))
      clear hRL hROW hGO
      have hmx : (ps.map Pr.ex).length + 1 <= maxLen := by rw [List.length_map]; unfold maxLen; omega
      have hby : ((ps.map Pr.ex).length + 1) * 96 <= 140737488355328 := by rw [List.length_map]; omega
      obtain ⟨i0, hi, hz0, hz1, hz2⟩ := info_parts' ex_info
      refine wpL_append_row rfl rfl _ _ 25 rfl 82 i0 (.agg #[.int .i64 0, .int .i64 0, .int .i64 0, .string ⟨#[]⟩, .string ⟨#[]⟩, .string ⟨#[]⟩, .slice none 0 0]) 7 96 Tryz.underlying25 hi hz0 hz1 hz2 rfl (by decide) (.slice a5 l5 c5) (ps.map Pr.ex).length cs rfl HROWz.out ⟨wy.heap.size, 0, none⟩ 1 1 [.int .i64 1, .int .i64 vk', .int .i64 vi, .string ⟨vt.toArray⟩, .string ⟨#[]⟩, .string ⟨#[]⟩, .slice none 0 0] rfl rfl (Lx.four_new wy 82 [.int .i64 1, .int .i64 vk', .int .i64 vi, .string ⟨vt.toArray⟩, .string ⟨#[]⟩, .string ⟨#[]⟩, .slice none 0 0]) (by simp [Value.oneCell']) hmx hby ?_
      intro v' wv hrv hfv hov
      refine ⟨.inr (HKEY.out _ (hf3.trans' hfv (fun g hg => .inl (by simp only [List.mem_cons, List.not_mem_nil, or_false] at hg ⊢; exact .inr hg)))), ?_⟩
      simp only [Act.put, List.setIfInBounds_toArray, List.set_cons_succ, List.set_cons_zero]
      obtain ⟨a5', l5', c5', rfl⟩ := row_slice hrv
      obtain ⟨px, hpx, hpe⟩ := lit_p HLIT.out
      obtain ⟨st1, _⟩ := Gr.push (x := px.ex) HRL.out HROW.out (fun g hg => (HOWN.out g hg).1) (by omega) (lit_rep _ _ hpe) hrv hfv (by rw [World.size_alloc] at hov; exact hov)
      have HGv : Hid (Gr kEx 82 (w5.heap.size + 1) wv (.slice a5' l5' c5') ((ps ++ [px]).map Pr.ex)) := Hd (by rw [List.map_append]; exact st1)
      have HDv := Hd (HDz.out.own hfv (fun g hg => by have := HOWN.out _ hg; omega))
      have HStv := Hd (HStr.out.keep (((hf3.trans' hfv (fun g hg => .inl (by simp only [List.mem_cons, List.not_mem_nil, or_false] at hg ⊢; exact .inr hg))))) (fun hm => by simp only [List.mem_cons, Option.some.injEq, List.not_mem_nil, or_false] at hm; rcases hm with h | h; omega; have := HOWN.out _ h.symm; omega))
      have HPX := Hd hpx
      have hsv := hfv.size
      clear hrv hfv hov hmx hby st1 hpx hpe HRL HROW HROWz
      (refine Seq3.wpL_quiet rfl rfl rfl (fun K hK => ?_); go_big_quiet_op; (first | refine hK _ ?_ | refine ⟨_, by intros; rfl, hK _ ?_⟩); clear hK K)
      have k5 : wv.cell? ⟨w5.heap.size, 5, none⟩ = some (.slice a5 l5 c5) := HStv.out.cell 5
      have f5 := HStv.out.free 5
      refine Seq3.wpL_lasts (w' := wv.setCell ⟨w5.heap.size, 5, none⟩ (.slice a5' l5' c5')) rfl rfl rfl (by simp [go_sem, execOp, k5, f5]) ?_
      simp only [Act.put, List.setIfInBounds_toArray, List.set_cons_succ, List.set_cons_zero]
      refine Seq3.wpL_nil ?_
      have HDw := Hd (HDv.out.set (b := w5.heap.size) (j := 5) (v := .slice a5' l5' c5') (by omega))
      have HStw := Hd (HStv.out.set 5 (.slice a5' l5' c5'))
      have HGw := Hd (HGv.out.keep (frSet (P := w5.heap.size) (i := 5) (.slice a5' l5' c5')) (fun g hg => by simp; omega))
      have hsw : w5.heap.size < (wv.setCell ⟨w5.heap.size, 5, none⟩ (.slice a5' l5' c5')).heap.size := by simp [World.size_alloc] at hsv ⊢; omega
      generalize wv.setCell ⟨w5.heap.size, 5, none⟩ (.slice a5' l5' c5') = wz at HDw HStw HGw hsw ⊢
      clear hI0 hfq hf1 hf2 hf3 k5 f5
      go_wp2_with fail
      go_roundw
      case rel => exact ⟨k + 1, ps ++ [px], a5', l5', c5', by go_num, by omega, by simp; omega, Hd (fun p hp => by rcases List.mem_append.1 hp with h | h; exact HSZ.out p h; rw [List.mem_singleton.1 h]; exact HPX.out), HStw, HDw, HGw, hsw⟩
      case measure => simp only [intOf]; omega
   case neg =>
    by_cases hi4 : (r7 : Int) = 3
    case pos =>
     have hPw := HD5.out.d.lt
     have hlt := HD5.out.lt
     have HKEY : Hid (∀ W, Fr [some P] w5 W -> W.cell? ⟨bt, 0, none⟩ = some (.string ⟨(tname r).toArray⟩)) := Hd (fun W hW => (HD5.out.tb.keep hW (by have := HD5.out.ht; have := HD5.out.hs; simp; omega)).cell 0)
     have n1 : ¬ bt = w5.heap.size := by omega
     go_upto_region 15 with fail
     clear hi4 hi3
     go_cut [9] from 55 to 62 (fun s9 wx => ∃ (x : Pr) (b : Nat) (a5 : Option Addr) (l5 c5 : Nat), s9 = .pointer (some ⟨b, 0, none⟩) /\ z1 <= b /\ Hid (Sz 5 x) /\ Hid (Blk wx b 29 [.int .i64 7, .string ⟨(tname r).toArray⟩, .string ⟨#[110]⟩, .slice none 0 0, .slice none 0 0, .slice a5 l5 c5, .slice none 0 0, .string ⟨#[]⟩, .slice none 0 0, .slice none 0 0, .slice none 0 0, .bool false, .slice none 0 0]) /\ Hid (Dt [.string ⟨(tname r).toArray⟩, .slice (some ⟨cb, 0, none⟩) 3 3, .slice ia il ic] r B (M - 1) P (w.heap.size + 1) w1.heap.size bt z0 z1 w vc vk wx) /\ Hid (Rep.Es 82 (fun g => z1 <= g /\ g ≠ b) wx [x.ex] (.slice a5 l5 c5)))
     case first =>
      have hPz : P < z1 := by omega
      refine Rg.wp_region [[], [0], [], [], [], [2, 3, 4], [5], [1, 6], [], [7, 8]] [some 55, some 56, some 57, some 58, some 59, some 60, some 61, some 62, some 9, none] 9 (fun j v wz => match j with | 0 => v = .pointer (some ⟨bt, 0, none⟩) | 1 => v = .string ⟨(tname r).toArray⟩ | 2 => v = .pointer (some ⟨P, 0, none⟩) | 3 => v = vc | 4 => v = vk | 5 => ∃ (x : Pr) (cs : List Value), v = .agg cs.toArray /\ Sz 5 x /\ Rep.E 82 (fun g => z1 <= g) wz x.ex cs | 6 => ∃ (x : Pr) (a5 : Option Addr) (l5 c5 : Nat), v = .slice a5 l5 c5 /\ Sz 5 x /\ Rep.Es 82 (fun g => z1 <= g) wz [x.ex] (.slice a5 l5 c5) | 7 => ∃ (x : Pr) (a5 : Option Addr) (l5 c5 : Nat), v = .agg #[.int .i64 7, .string ⟨(tname r).toArray⟩, .string ⟨#[110]⟩, .slice none 0 0, .slice none 0 0, .slice a5 l5 c5, .slice none 0 0, .string ⟨#[]⟩, .slice none 0 0, .slice none 0 0, .slice none 0 0, .bool false, .slice none 0 0] /\ Sz 5 x /\ Rep.Es 82 (fun g => z1 <= g) wz [x.ex] (.slice a5 l5 c5) | 8 => ∃ b : Nat, v = .pointer (some ⟨b, 0, none⟩) /\ z1 <= b /\ Blk wz b 29 [.int .i64 0, .string ⟨#[]⟩, .string ⟨#[]⟩, .slice none 0 0, .slice none 0 0, .slice none 0 0, .slice none 0 0, .string ⟨#[]⟩, .slice none 0 0, .slice none 0 0, .slice none 0 0, .bool false, .slice none 0 0] | _ => True) (fun wz => Dt [.string ⟨(tname r).toArray⟩, .slice (some ⟨cb, 0, none⟩) 3 3, .slice ia il ic] r B (M - 1) P (w.heap.size + 1) w1.heap.size bt z0 z1 w vc vk wz) (fun wz wz' => Fr [some P] wz wz') (by kernel_rfl) (by kernel_rfl) (by kernel_rfl) (by kernel_rfl) HD5.out.drew ?_ ?_
      ·intro j hj v wz wz' hR
       match j, hj with
       |0, _ => exact fun h => h
       |1, _ => exact fun h => h
       |2, _ => exact fun h => h
       |3, _ => exact fun h => h
       |4, _ => exact fun h => h
       |5, _ =>
        rintro ⟨x, cs, e, hs, h⟩
        exact ⟨x, cs, e, hs, Rep.E.keep hR (fun g hg => by simp; omega) h⟩
       |6, _ =>
        rintro ⟨x, a, l, c, e, hs, h⟩
        exact ⟨x, a, l, c, e, hs, Rep.Es.keep hR (fun g hg => by simp; omega) h⟩
       |7, _ =>
        rintro ⟨x, a, l, c, e, hs, h⟩
        exact ⟨x, a, l, c, e, hs, Rep.Es.keep hR (fun g hg => by simp; omega) h⟩
       |8, _ =>
        rintro ⟨b, e, hb, h⟩
        exact ⟨b, e, hb, h.keep hR (by simp; omega)⟩
       |j + 9, hj => exact absurd hj (by omega)
      refine Rg.Each.cons (fun vals wr hI hφ => ?_) ?_
      ·change Rg.Does _ _ _ _ (fun v wz => (Dt [.string ⟨(tname r).toArray⟩, .slice (some ⟨cb, 0, none⟩) 3 3, .slice ia il ic] r B (M - 1) P (w.heap.size + 1) w1.heap.size bt z0 z1 w vc vk wz) /\ (Fr [some P] wr wz) /\ (v = .pointer (some ⟨bt, 0, none⟩)))
       clear hφ
       simp only [Rg.putsD, List.getD_cons_succ, List.getD_cons_zero]
       exact Rg.Does.val (v := .pointer (some ⟨bt, 0, none⟩)) (by first | rfl | kernel_rfl | simp [go_sem, execOp]) ⟨hI, Fr.refl _ _, rfl⟩
      refine Rg.Each.cons (fun vals wr hI hφ => ?_) ?_
      ·change Rg.Does _ _ _ _ (fun v wz => (Dt [.string ⟨(tname r).toArray⟩, .slice (some ⟨cb, 0, none⟩) 3 3, .slice ia il ic] r B (M - 1) P (w.heap.size + 1) w1.heap.size bt z0 z1 w vc vk wz) /\ (Fr [some P] wr wz) /\ (v = .string ⟨(tname r).toArray⟩))
       have h0 : _ = _ := hφ 0 (by decide)
       clear hφ
       simp only [Rg.putsD, List.getD_cons_succ, List.getD_cons_zero]
       have hc := hI.tb.cell 0
       simp only [List.getElem?_cons_zero] at hc
       rw [h0]
       exact Rg.Does.val (v := .string ⟨(tname r).toArray⟩) (by simp [go_sem, execOp, Act.put, Act.eval, hc]) ⟨hI, Fr.refl _ _, rfl⟩
      refine Rg.Each.cons (fun vals wr hI hφ => ?_) ?_
      ·change Rg.Does _ _ _ _ (fun v wz => (Dt [.string ⟨(tname r).toArray⟩, .slice (some ⟨cb, 0, none⟩) 3 3, .slice ia il ic] r B (M - 1) P (w.heap.size + 1) w1.heap.size bt z0 z1 w vc vk wz) /\ (Fr [some P] wr wz) /\ (v = .pointer (some ⟨P, 0, none⟩)))
       clear hφ
       simp only [Rg.putsD, List.getD_cons_succ, List.getD_cons_zero]
       exact Rg.Does.val (v := .pointer (some ⟨P, 0, none⟩)) (by first | rfl | kernel_rfl) ⟨hI, Fr.refl _ _, rfl⟩
      refine Rg.Each.cons (fun vals wr hI hφ => ?_) ?_
      ·change Rg.Does _ _ _ _ (fun v wz => (Dt [.string ⟨(tname r).toArray⟩, .slice (some ⟨cb, 0, none⟩) 3 3, .slice ia il ic] r B (M - 1) P (w.heap.size + 1) w1.heap.size bt z0 z1 w vc vk wz) /\ (Fr [some P] wr wz) /\ (v = vc))
       clear hφ
       simp only [Rg.putsD, List.getD_cons_succ, List.getD_cons_zero]
       exact Rg.Does.val (v := vc) (by first | rfl | kernel_rfl) ⟨hI, Fr.refl _ _, rfl⟩
      refine Rg.Each.cons (fun vals wr hI hφ => ?_) ?_
      ·change Rg.Does _ _ _ _ (fun v wz => (Dt [.string ⟨(tname r).toArray⟩, .slice (some ⟨cb, 0, none⟩) 3 3, .slice ia il ic] r B (M - 1) P (w.heap.size + 1) w1.heap.size bt z0 z1 w vc vk wz) /\ (Fr [some P] wr wz) /\ (v = vk))
       clear hφ
       simp only [Rg.putsD, List.getD_cons_succ, List.getD_cons_zero]
       exact Rg.Does.val (v := vk) (by first | rfl | kernel_rfl) ⟨hI, Fr.refl _ _, rfl⟩
      refine Rg.Each.cons (fun vals wr hI hφ => ?_) ?_
      ·change Rg.Does _ _ _ _ (fun v wz => (Dt [.string ⟨(tname r).toArray⟩, .slice (some ⟨cb, 0, none⟩) 3 3, .slice ia il ic] r B (M - 1) P (w.heap.size + 1) w1.heap.size bt z0 z1 w vc vk wz) /\ (Fr [some P] wr wz) /\ (∃ (x : Pr) (cs : List Value), v = .agg cs.toArray /\ Sz 5 x /\ Rep.E 82 (fun g => z1 <= g) wz x.ex cs))
       have h2 : _ = _ := hφ 2 (by decide)
       have h3 : _ = _ := hφ 3 (by decide)
       have h4 : _ = _ := hφ 4 (by decide)
       clear hφ
       simp only [Rg.putsD, List.getD_cons_succ, List.getD_cons_zero]
       rw [h2, h3, h4]
       refine Rg.Does.call (by kernel_rfl) (expr_gen P vc vk (tits r) (tkinds r) 5 1 1 (by decide) (by decide) (by decide) (.inl (.inl rfl)) wr hI.d.pk hI.cols) ?_
       rintro e wx ⟨⟨x, hsz, hx⟩, hk, hf⟩
       obtain ⟨po, pk, pi, pz, pt, pn, pa, pe, pc, rfl, hrep⟩ := Px.ex_cells hx
       have hh1 := hI.h1
       exact ⟨_, rfl, hI.call hk hf, hf, x, [.int .i64 po, .int .i64 pk, .int .i64 pi, .string ⟨pz.toArray⟩, .string ⟨pt.toArray⟩, .string ⟨pn.toArray⟩, .slice pa pe pc], rfl, hsz, Rep.E.mono (fun g hg => by omega) hrep⟩
      refine Rg.Each.cons (fun vals wr hI hφ => ?_) ?_
      ·change Rg.Does _ _ _ _ (fun v wz => (Dt [.string ⟨(tname r).toArray⟩, .slice (some ⟨cb, 0, none⟩) 3 3, .slice ia il ic] r B (M - 1) P (w.heap.size + 1) w1.heap.size bt z0 z1 w vc vk wz) /\ (Fr [some P] wr wz) /\ (∃ (x : Pr) (a5 : Option Addr) (l5 c5 : Nat), v = .slice a5 l5 c5 /\ Sz 5 x /\ Rep.Es 82 (fun g => z1 <= g) wz [x.ex] (.slice a5 l5 c5)))
       have h5 := hφ 5 (by decide)
       clear hφ
       simp only [Rg.putsD, List.getD_cons_succ, List.getD_cons_zero]
       obtain ⟨x, cs, e5, hsz, hrep⟩ := h5
       obtain ⟨po, pk, pi, pz, pt, pn, pg, pa, pe, pc, hxe, rfl, _⟩ := Sm.e_cells hrep
       rw [e5]
       have hL := Rep.L.cons _ _ _ _ hrep .nil
       rw [List.append_nil] at hL
       exact Rg.Does.val (v := .slice (some ⟨wr.heap.size, 0, none⟩) 1 1) (w' := wr.alloc (.cells #[.int .i64 po, .int .i64 pk, .int .i64 pi, .string ⟨pz.toArray⟩, .string ⟨pt.toArray⟩, .string ⟨pn.toArray⟩, .slice pa pe pc] 82)) (by first | simp [go_sem, execOp, Act.put, Act.eval] | kernel_rfl) ⟨hI.alloc _, (Fr.refl _ _).alloc _, x, _, _, _, rfl, hsz, es_new hL hI.h1 (by simp [maxLen])⟩
      refine Rg.Each.cons (fun vals wr hI hφ => ?_) ?_
      ·change Rg.Does _ _ _ _ (fun v wz => (Dt [.string ⟨(tname r).toArray⟩, .slice (some ⟨cb, 0, none⟩) 3 3, .slice ia il ic] r B (M - 1) P (w.heap.size + 1) w1.heap.size bt z0 z1 w vc vk wz) /\ (Fr [some P] wr wz) /\ (∃ (x : Pr) (a5 : Option Addr) (l5 c5 : Nat), v = .agg #[.int .i64 7, .string ⟨(tname r).toArray⟩, .string ⟨#[110]⟩, .slice none 0 0, .slice none 0 0, .slice a5 l5 c5, .slice none 0 0, .string ⟨#[]⟩, .slice none 0 0, .slice none 0 0, .slice none 0 0, .bool false, .slice none 0 0] /\ Sz 5 x /\ Rep.Es 82 (fun g => z1 <= g) wz [x.ex] (.slice a5 l5 c5)))
       have h1 : _ = _ := hφ 1 (by decide)
       have h6 := hφ 6 (by decide)
       clear hφ
       simp only [Rg.putsD, List.getD_cons_succ, List.getD_cons_zero]
       obtain ⟨x, a5, l5, c5, e6, hsz, hes⟩ := h6
       rw [h1, e6]
       exact Rg.Does.val (v := .agg #[.int .i64 7, .string ⟨(tname r).toArray⟩, .string ⟨#[110]⟩, .slice none 0 0, .slice none 0 0, .slice a5 l5 c5, .slice none 0 0, .string ⟨#[]⟩, .slice none 0 0, .slice none 0 0, .slice none 0 0, .bool false, .slice none 0 0]) (by first | rfl | kernel_rfl) ⟨hI, Fr.refl _ _, x, a5, l5, c5, rfl, hsz, hes⟩
      refine Rg.Each.cons (fun vals wr hI hφ => ?_) ?_
      ·change Rg.Does _ _ _ _ (fun v wz => (Dt [.string ⟨(tname r).toArray⟩, .slice (some ⟨cb, 0, none⟩) 3 3, .slice ia il ic] r B (M - 1) P (w.heap.size + 1) w1.heap.size bt z0 z1 w vc vk wz) /\ (Fr [some P] wr wz) /\ (∃ b : Nat, v = .pointer (some ⟨b, 0, none⟩) /\ z1 <= b /\ Blk wz b 29 [.int .i64 0, .string ⟨#[]⟩, .string ⟨#[]⟩, .slice none 0 0, .slice none 0 0, .slice none 0 0, .slice none 0 0, .string ⟨#[]⟩, .slice none 0 0, .slice none 0 0, .slice none 0 0, .bool false, .slice none 0 0]))
       clear hφ
       simp only [Rg.putsD, List.getD_cons_succ, List.getD_cons_zero]
       exact Rg.Does.val (v := .pointer (some ⟨wr.heap.size, 0, none⟩)) (w' := wr.alloc (.cells #[.int .i64 0, .string ⟨#[]⟩, .string ⟨#[]⟩, .slice none 0 0, .slice none 0 0, .slice none 0 0, .slice none 0 0, .string ⟨#[]⟩, .slice none 0 0, .slice none 0 0, .slice none 0 0, .bool false, .slice none 0 0] 29)) (by first | rfl | kernel_rfl | simp [go_sem, execOp]) ⟨hI.alloc _, (Fr.refl _ _).alloc _, wr.heap.size, rfl, hI.h1, Blk.new wr _ [.int .i64 0, .string ⟨#[]⟩, .string ⟨#[]⟩, .slice none 0 0, .slice none 0 0, .slice none 0 0, .slice none 0 0, .string ⟨#[]⟩, .slice none 0 0, .slice none 0 0, .slice none 0 0, .bool false, .slice none 0 0]⟩
      refine Rg.Each.one (fun vals wr hI hφ => ?_)
      have h7 := hφ 7 (by decide)
      have h8 := hφ 8 (by decide)
      clear hφ
      obtain ⟨x, a5, l5, c5, e7, hsz, hes⟩ := h7
      obtain ⟨b, e8, hb, hblk⟩ := h8
      obtain ⟨q0, q1, q2, q3, q4, q5, q6, q7, q8, q9, q10, q11, q12, g0, g1, g2, g3, g4, g5, g6, g7, g8, g9, g10, g11, g12⟩ := c13_of hblk
      have hlb := hblk.lt
      rw [show List.range 9 = [0, 1, 2, 3, 4, 5, 6, 7, 8] from rfl]
      simp only [Rg.putsD, List.getD_cons_succ, List.getD_cons_zero]
      rw [e7, e8]
      refine Rg.Does.skip (w' := put13 wr b (.int .i64 7) (.string ⟨(tname r).toArray⟩) (.string ⟨#[110]⟩) (.slice none 0 0) (.slice none 0 0) (.slice a5 l5 c5) (.slice none 0 0) (.string ⟨#[]⟩) (.slice none 0 0) (.slice none 0 0) (.slice none 0 0) (.bool false) (.slice none 0 0)) (by unfold put13; simp [go_sem, execOp, Act.put, Act.eval, q0, q1, q2, q3, q4, q5, q6, q7, q8, q9, q10, q11, q12, g0, g1, g2, g3, g4, g5, g6, g7, g8, g9, g10, g11, g12]) ?_
      simp only [Act.put, List.setIfInBounds_toArray, List.set_cons_succ, List.set_cons_zero]
      have hff := frPut13 (T := b) (Fr.refl [some b] wr) (.inl (by simp)) (.int .i64 7) (.string ⟨(tname r).toArray⟩) (.string ⟨#[110]⟩) (.slice none 0 0) (.slice none 0 0) (.slice a5 l5 c5) (.slice none 0 0) (.string ⟨#[]⟩) (.slice none 0 0) (.slice none 0 0) (.slice none 0 0) (.bool false) (.slice none 0 0)
      have HD6 := Hd (hI.own hff (fun g hg => by cases hg; omega))
      have HB6 := Hd (blkPut13 hblk (.int .i64 7) (.string ⟨(tname r).toArray⟩) (.string ⟨#[110]⟩) (.slice none 0 0) (.slice none 0 0) (.slice a5 l5 c5) (.slice none 0 0) (.string ⟨#[]⟩) (.slice none 0 0) (.slice none 0 0) (.slice none 0 0) (.bool false) (.slice none 0 0))
      have HE6 := Hd (Rep.Es.keep hff (fun g hg => by simp; exact hg.2) (Es_off hes hblk (by decide)))
      have HSZ6 := Hd hsz
      clear hff hes hsz hblk hI e7 e8 q0 q1 q2 q3 q4 q5 q6 q7 q8 q9 q10 q11 q12 g0 g1 g2 g3 g4 g5 g6 g7 g8 g9 g10 g11 g12
      generalize put13 wr b (.int .i64 7) (.string ⟨(tname r).toArray⟩) (.string ⟨#[110]⟩) (.slice none 0 0) (.slice none 0 0) (.slice a5 l5 c5) (.slice none 0 0) (.string ⟨#[]⟩) (.slice none 0 0) (.slice none 0 0) (.slice none 0 0) (.bool false) (.slice none 0 0) = w6 at HD6 HB6 HE6 ⊢
      go_wp2_with fail
      go_meet
      exact ⟨x, b, a5, l5, c5, rfl, hb, HSZ6, HB6, HD6, HE6⟩
     case rest =>
      obtain ⟨x, b, a5, l5, c5, rfl, hb, HSZ, HSt, HDc, HEc⟩ := hcut
      have t0 := HDc.out.tb.cell 0
      have hbl := HDc.out.tb.lt
      have hlb := HSt.out.lt
      clear HD5 HKEY
      rcases (by omega : r = 0 \/ r = 1) with rfl | rfl
      ·have t0 : _ = some (Value.string ⟨#[116]⟩) := HDc.out.tb.cell 0
       go_wp2_with fail
       refine (num_any P 3 (by decide) (by decide) _ HDc.out.d.pk).mono ?_
       rintro e w7 ⟨r3, rfl, hr3, hk, hf⟩
       have HD7 := Hd (HDc.out.call hk hf)
       have HSt7 := Hd (HSt.out.keep hf (by simp; omega))
       have HE7 := Hd (Rep.Es.keep hf (fun g hg => by simp; omega) HEc.out)
       have hs7 := hf.size
       clear hk hf
       go_upto_if 70 with fail
       go_cut [] from 63 to 77 (fun wx => ∃ (x : Pr) (nm : PM.B) (a5 : Option Addr) (l5 c5 : Nat), Hid (OkN nm) /\ Hid (Sz 5 x) /\ Hid (Blk wx b 29 [.int .i64 7, .string ⟨(tname 0).toArray⟩, .string ⟨nm.toArray⟩, .slice none 0 0, .slice none 0 0, .slice a5 l5 c5, .slice none 0 0, .string ⟨#[]⟩, .slice none 0 0, .slice none 0 0, .slice none 0 0, .bool false, .slice none 0 0]) /\ Hid (Dt [.string ⟨(tname 0).toArray⟩, .slice (some ⟨cb, 0, none⟩) 3 3, .slice ia il ic] 0 B (M - 1) P (w.heap.size + 1) w1.heap.size bt z0 z1 w vc vk wx) /\ Hid (Rep.Es 82 (fun g => z1 <= g /\ g ≠ b) wx [x.ex] (.slice a5 l5 c5)))
       case first =>
        by_cases h3 : (r3 : Int) = 0
        ·go_wp2_with fail
         refine (expr_gen (B := B) (M := M - 1) P vc vk (tits 0) (tkinds 0) 5 2 1 (by decide) (by decide) (by decide) (.inl (.inr rfl)) w7 HD7.out.d.pk HD7.out.cols).mono ?_
         rintro e w8 ⟨⟨y, hsz, hx⟩, hk, hf⟩
         obtain ⟨po, pk, pi, pz, pt, pn, pa, pe, pc, rfl, hrep⟩ := Px.ex_cells hx
         have HSY := Hd hsz
         have HREP := Hd (Rep.E.live hrep)
         have HD8 := Hd (HD7.out.call hk hf)
         have HSt8 := Hd (HSt7.out.keep hf (by simp; omega))
         have hs8 := hf.size
         clear hk hf hx hrep hsz
         obtain ⟨k0, k1, k2, k3, k4, k5, k6, k7, k8, k9, k10, k11, k12, f0, f1, f2, f3, f4, f5, f6, f7, f8, f9, f10, f11, f12⟩ := c13_of HSt8.out
         have hlb8 := HSt8.out.lt
         have nb8 : ¬ b = w8.heap.size := by omega
         have nb9 : b < w8.heap.size + 1 := by omega
         go_wp2_with fail
         go_meet
         have hfs := (frSet (P := b) (w := w8) (i := 2) (.string ⟨#[118]⟩)).setCell (p := ⟨b, 5, none⟩) (.inl (by simp)) (.slice (some ⟨w8.heap.size, 0, none⟩) 1 1)
         have hes := upd_es (z := z1) (b := b) (n := w7.heap.size) (Rep.E.mono (fun g hg => ⟨hg.1, by simp; exact hg.2⟩) (Rep.E.keep hfs (fun g hg => by simp; omega) HREP.out)) (by omega) (by simp; omega) (by omega)
         rw [World.size_setCell, World.size_setCell] at hes
         exact ⟨y, [118], some ⟨w8.heap.size, 0, none⟩, 1, 1, Hd ⟨by decide, by decide⟩, HSY, Hd (((HSt8.out.set 2 (.string ⟨#[118]⟩)).set 5 (.slice (some ⟨w8.heap.size, 0, none⟩) 1 1)).alloc (.cells #[.int .i64 po, .int .i64 pk, .int .i64 pi, .string ⟨pz.toArray⟩, .string ⟨pt.toArray⟩, .string ⟨pn.toArray⟩, .slice pa pe pc] 82)), Hd (((HD8.out.set (b := b) (j := 2) (v := .string ⟨#[118]⟩) (by omega)).set (b := b) (j := 5) (v := (.slice (some ⟨w8.heap.size, 0, none⟩) 1 1)) (by omega)).alloc (.cells #[.int .i64 po, .int .i64 pk, .int .i64 pi, .string ⟨pz.toArray⟩, .string ⟨pt.toArray⟩, .string ⟨pn.toArray⟩, .slice pa pe pc] 82)), Hd hes⟩
        ·go_wp2_with fail
         go_meet
         exact ⟨x, [110], a5, l5, c5, Hd ⟨by decide, by decide⟩, HSZ, HSt7, HD7, HE7⟩
       case rest =>
        clear HSZ HSt HDc HEc t0 hbl hlb
        obtain ⟨x, nm, a5, l5, c5, HNM, HSZ, HSt, HDc, HEc⟩ := hcut
        have hlb := HSt.out.lt
        go_wp2_with fail
        refine (where_gen P vc vk (tits 0) (tkinds 0) _ HDc.out.d.pk HDc.out.cols).mono ?_
        rintro e wx ⟨wo, v, rfl, hwo, hE, hk, hf⟩
        obtain ⟨a9, l9, c9, rfl⟩ : ∃ a n c, v = .slice a n c := by obtain ⟨a, c, h, _⟩ := Sx.es_form hE; exact ⟨a, _, c, h⟩
        have HDx := Hd (HDc.out.call hk hf)
        have HStx := Hd (HSt.out.keep hf (by simp; omega))
        have HEx := Hd (Rep.Es.keep hf (fun g hg => by simp; omega) HEc.out)
        have HE9 := Hd hE
        have HWO := Hd hwo
        have hsx := hf.size
        clear hk hf hE hwo
        obtain ⟨k0, k1, k2, k3, k4, k5, k6, k7, k8, k9, k10, k11, k12, f0, f1, f2, f3, f4, f5, f6, f7, f8, f9, f10, f11, f12⟩ := c13_of HStx.out
        obtain ⟨q0, q1, q2, q3, q4, q5, q6, q7, q8, q9, q10, q11, q12, g0, g1, g2, g3, g4, g5, g6, g7, g8, g9, g10, g11, g12⟩ := c13_of HDx.out.r
        have hlS := HStx.out.lt
        have hlR := HDx.out.r.lt
        have hnR : ¬ w.heap.size = b := by omega
        have hnb : ¬ b = w.heap.size := by omega
        go_wp2_with fail
        have HDy := Hd (HDx.out.set (b := b) (j := 9) (v := .slice a9 l9 c9) (by omega))
        refine bodyPost_ret (ret_cell13 rfl _ w.heap.size rfl _ _ _ _ _ _ _ _ _ _ _ _ _ _ (blkPut13 HDy.out.r _ _ _ _ _ _ _ _ _ _ _ _ _)) rfl ?_
        have hv5 := Rep.Es.keep (frSet (P := b) (i := 9) (.slice a9 l9 c9)) (fun g hg => by simp; omega) HEx.out
        have hv9 := Rep.Es.keep (frSet (P := b) (i := 9) (.slice a9 l9 c9)) (fun g hg => by simp; omega) HE9.out
        exact HDy.out.done (q := .write (.update (tname 0) nm x wo)) (okS_upd (tname_ok 0) HNM.out (HSZ.out.up (by decide)) HWO.out) (.inr ⟨_, rfl⟩) (.mk 7 (tname 0) nm [] [] [x.ex] [] [] [] _ [] false [] _ _ _ _ _ _ _ _ .nil .nil (Rep.Es.mono (fun g hg => hg.1) hv5) .nil Rep.Es.nil (Rep.Es.mono (fun g hg => by omega) hv9) Rep.Es.nil SS.nil)
      ·have t0 : _ = some (Value.string ⟨#[117]⟩) := HDc.out.tb.cell 0
       go_upto_if 70 with fail
       go_cut [] from 63 to 77 (fun wx => ∃ (x : Pr) (nm : PM.B) (a5 : Option Addr) (l5 c5 : Nat), Hid (OkN nm) /\ Hid (Sz 5 x) /\ Hid (Blk wx b 29 [.int .i64 7, .string ⟨(tname 1).toArray⟩, .string ⟨nm.toArray⟩, .slice none 0 0, .slice none 0 0, .slice a5 l5 c5, .slice none 0 0, .string ⟨#[]⟩, .slice none 0 0, .slice none 0 0, .slice none 0 0, .bool false, .slice none 0 0]) /\ Hid (Dt [.string ⟨(tname 1).toArray⟩, .slice (some ⟨cb, 0, none⟩) 3 3, .slice ia il ic] 1 B (M - 1) P (w.heap.size + 1) w1.heap.size bt z0 z1 w vc vk wx) /\ Hid (Rep.Es 82 (fun g => z1 <= g /\ g ≠ b) wx [x.ex] (.slice a5 l5 c5)))
       case first =>
        go_wp2_with fail
        go_meet
        exact ⟨x, [110], a5, l5, c5, Hd ⟨by decide, by decide⟩, HSZ, HSt, HDc, HEc⟩
       case rest =>
        clear HSZ HSt HDc HEc t0 hbl hlb
        obtain ⟨x, nm, a5, l5, c5, HNM, HSZ, HSt, HDc, HEc⟩ := hcut
        have hlb := HSt.out.lt
        go_wp2_with fail
        refine (where_gen P vc vk (tits 1) (tkinds 1) _ HDc.out.d.pk HDc.out.cols).mono ?_
        rintro e wx ⟨wo, v, rfl, hwo, hE, hk, hf⟩
        obtain ⟨a9, l9, c9, rfl⟩ : ∃ a n c, v = .slice a n c := by obtain ⟨a, c, h, _⟩ := Sx.es_form hE; exact ⟨a, _, c, h⟩
        have HDx := Hd (HDc.out.call hk hf)
        have HStx := Hd (HSt.out.keep hf (by simp; omega))
        have HEx := Hd (Rep.Es.keep hf (fun g hg => by simp; omega) HEc.out)
        have HE9 := Hd hE
        have HWO := Hd hwo
        have hsx := hf.size
        clear hk hf hE hwo
        obtain ⟨k0, k1, k2, k3, k4, k5, k6, k7, k8, k9, k10, k11, k12, f0, f1, f2, f3, f4, f5, f6, f7, f8, f9, f10, f11, f12⟩ := c13_of HStx.out
        obtain ⟨q0, q1, q2, q3, q4, q5, q6, q7, q8, q9, q10, q11, q12, g0, g1, g2, g3, g4, g5, g6, g7, g8, g9, g10, g11, g12⟩ := c13_of HDx.out.r
        have hlS := HStx.out.lt
        have hlR := HDx.out.r.lt
        have hnR : ¬ w.heap.size = b := by omega
        have hnb : ¬ b = w.heap.size := by omega
        go_wp2_with fail
        have HDy := Hd (HDx.out.set (b := b) (j := 9) (v := .slice a9 l9 c9) (by omega))
        refine bodyPost_ret (ret_cell13 rfl _ w.heap.size rfl _ _ _ _ _ _ _ _ _ _ _ _ _ _ (blkPut13 HDy.out.r _ _ _ _ _ _ _ _ _ _ _ _ _)) rfl ?_
        have hv5 := Rep.Es.keep (frSet (P := b) (i := 9) (.slice a9 l9 c9)) (fun g hg => by simp; omega) HEx.out
        have hv9 := Rep.Es.keep (frSet (P := b) (i := 9) (.slice a9 l9 c9)) (fun g hg => by simp; omega) HE9.out
        exact HDy.out.done (q := .write (.update (tname 1) nm x wo)) (okS_upd (tname_ok 1) HNM.out (HSZ.out.up (by decide)) HWO.out) (.inr ⟨_, rfl⟩) (.mk 7 (tname 1) nm [] [] [x.ex] [] [] [] _ [] false [] _ _ _ _ _ _ _ _ .nil .nil (Rep.Es.mono (fun g hg => hg.1) hv5) .nil Rep.Es.nil (Rep.Es.mono (fun g hg => by omega) hv9) Rep.Es.nil SS.nil)
    case neg =>
     by_cases hi5 : (r7 : Int) = 4
     case pos =>
      go_upto_region 21 with fail
      have hPw := HD5.out.d.lt
      have hlt := HD5.out.lt
      have HKEY : Hid (∀ W, Fr [some P] w5 W -> W.cell? ⟨bt, 0, none⟩ = some (.string ⟨(tname r).toArray⟩)) := Hd (fun W hW => (HD5.out.tb.keep hW (by have := HD5.out.ht; have := HD5.out.hs; simp; omega)).cell 0)
      have hfq : Fr [some P] w5 w5.drew := Fr.drew (Fr.refl _ w5)
      have hI0 := HKEY.out _ hfq
      refine Seq3.wp_region_text (fun i => i != 5 && i != 7) (fun _ => none) (fun i => i == 7) (fun w' => w'.cell? ⟨bt, 0, none⟩ = some (.string ⟨(tname r).toArray⟩)) (by kernel_rfl) (by kernel_rfl) hI0 ?_
      (refine Seq3.wpL_quiet rfl rfl rfl (fun K hK => ?_); go_big_quiet_op; (first | refine hK _ ?_ | refine ⟨_, by intros; rfl, hK _ ?_⟩); clear hK K)
      refine Seq3.wpL_held (v := .string ⟨(tname r).toArray⟩) rfl rfl (fun w' hI => ?_) ?_
      ·have hI' : w'.cell? ⟨bt, 0, none⟩ = some (.string ⟨(tname r).toArray⟩) := hI
       simp [go_sem, execOp, hI']
      simp only [Act.put, List.setIfInBounds_toArray, List.set_cons_succ, List.set_cons_zero]
      iterate 3 (refine Seq3.wpL_quiet rfl rfl rfl (fun K hK => ?_); go_big_quiet_op; (first | refine hK _ ?_ | refine ⟨_, by intros; rfl, hK _ ?_⟩); clear hK K)
      refine Seq3.wpL_call rfl rfl (by kernel_rfl) (where_gen P vc vk (tits r) (tkinds r) w5.drew HD5.out.drew.d.pk HD5.out.drew.cols) ?_
      rintro e wx ⟨wo, v, rfl, hwo, hE, hk', hf⟩
      obtain ⟨a9, l9, c9, rfl⟩ : ∃ a n c, v = .slice a n c := by obtain ⟨a, c, h, _⟩ := Sx.es_form hE; exact ⟨a, _, c, h⟩
      have hf1 := hfq.trans' hf (by simp)
      refine ⟨_, rfl, HKEY.out _ hf1, ?_⟩
      simp only [Act.put, List.setIfInBounds_toArray, List.set_cons_succ, List.set_cons_zero]
      have HDx := Hd (HD5.out.drew.call hk' hf)
      have HE := Hd hE
      have HWO := Hd hwo
      clear hk' hf hwo hE
      refine Seq3.wpL_held (v := .agg #[.int .i64 8, .string ⟨(tname r).toArray⟩, .string ⟨#[]⟩, .slice none 0 0, .slice none 0 0, .slice none 0 0, .slice none 0 0, .string ⟨#[]⟩, .slice none 0 0, .slice a9 l9 c9, .slice none 0 0, .bool false, .slice none 0 0]) rfl rfl (fun w' hI => by first | rfl | kernel_rfl) ?_
      simp only [Act.put, List.setIfInBounds_toArray, List.set_cons_succ, List.set_cons_zero]
      obtain ⟨q0, q1, q2, q3, q4, q5, q6, q7, q8, q9, q10, q11, q12, g0, g1, g2, g3, g4, g5, g6, g7, g8, g9, g10, g11, g12⟩ := c13_of HDx.out.r
      have hlR := HDx.out.r.lt
      refine Seq3.wpL_lasts (w' := put13 wx w.heap.size (.int .i64 8) (.string ⟨(tname r).toArray⟩) (.string ⟨#[]⟩) (.slice none 0 0) (.slice none 0 0) (.slice none 0 0) (.slice none 0 0) (.string ⟨#[]⟩) (.slice none 0 0) (.slice a9 l9 c9) (.slice none 0 0) (.bool false) (.slice none 0 0)) rfl rfl rfl (by unfold put13; simp [go_sem, execOp, q0, q1, q2, q3, q4, q5, q6, q7, q8, q9, q10, q11, q12, g0, g1, g2, g3, g4, g5, g6, g7, g8, g9, g10, g11, g12]) ?_
      simp only [Act.put, List.setIfInBounds_toArray, List.set_cons_succ, List.set_cons_zero]
      refine Seq3.wpL_nil ?_
      have hfin := HDx.out.done (q := .write (.delete (tname r) wo)) (okS_del (tname_ok r) HWO.out) (.inr ⟨_, rfl⟩) (.mk 8 (tname r) [] [] [] [] [] [] [] _ [] false [] _ _ _ _ _ _ _ _ .nil .nil Rep.Es.nil .nil Rep.Es.nil (Rep.Es.mono (fun g hg => by simp at hg; omega) HE.out) Rep.Es.nil SS.nil)
      have HFIN := Hd hfin
      have HBR := Hd (blkPut13 HDx.out.r (.int .i64 8) (.string ⟨(tname r).toArray⟩) (.string ⟨#[]⟩) (.slice none 0 0) (.slice none 0 0) (.slice none 0 0) (.slice none 0 0) (.string ⟨#[]⟩) (.slice none 0 0) (.slice a9 l9 c9) (.slice none 0 0) (.bool false) (.slice none 0 0))
      clear hfin q0 q1 q2 q3 q4 q5 q6 q7 q8 q9 q10 q11 q12 g0 g1 g2 g3 g4 g5 g6 g7 g8 g9 g10 g11 g12
      generalize put13 wx w.heap.size (.int .i64 8) (.string ⟨(tname r).toArray⟩) (.string ⟨#[]⟩) (.slice none 0 0) (.slice none 0 0) (.slice none 0 0) (.slice none 0 0) (.string ⟨#[]⟩) (.slice none 0 0) (.slice a9 l9 c9) (.slice none 0 0) (.bool false) (.slice none 0 0) = wz at HFIN HBR ⊢
      go_wp2_with fail
      exact bodyPost_ret (ret_cell13 rfl _ w.heap.size rfl _ _ _ _ _ _ _ _ _ _ _ _ _ _ HBR.out) rfl HFIN.out
     case neg =>
      have u0 := HD5.out.sc.cell 0
      have u1 := HD5.out.sc.cell 1
      obtain ⟨q0, q1, q2, q3, q4, q5, q6, q7, q8, q9, q10, q11, q12, g0, g1, g2, g3, g4, g5, g6, g7, g8, g9, g10, g11, g12⟩ := c13_of HD5.out.r
      have hlR := HD5.out.r.lt
      have hlu := HD5.out.sc.lt
      go_wp2_with fail
      have hsel := selected_any (ti := r) (n := w.heap.size + 1) hr P (by have := HD5.out.d.lt; omega) w5 HD5.out.d.pk HD5.out.s
      rw [HTV.out] at hsel
      refine hsel.mono ?_
      rintro e w6 ⟨⟨s, hok, hst⟩, hk, hf⟩
      clear hsel
      have HD6 := Hd (HD5.out.call hk hf)
      obtain ⟨kind, table, name, join, a3, a4, a5, a6, a8, a9, a10, a12, l3, l4, l5, l6, l8, l9, l10, l12, c3, c4, c5, c6, c8, c9, c10, c12, desc, rfl, hsr⟩ := Px.st_cells hst
      have HSR := Hd (SR.mono (A' := fun g => z1 <= g) (fun g hg => by omega) hsr)
      have HOK := Hd hok
      clear hst hsr hok hk hf u0 u1 q0 q1 q2 q3 q4 q5 q6 q7 q8 q9 q10 q11 q12 g0 g1 g2 g3 g4 g5 g6 g7 g8 g9 g10 g11 g12 hlR hlu t0 t1 t2
      obtain ⟨q0, q1, q2, q3, q4, q5, q6, q7, q8, q9, q10, q11, q12, g0, g1, g2, g3, g4, g5, g6, g7, g8, g9, g10, g11, g12⟩ := c13_of HD6.out.r
      have hlR := HD6.out.r.lt
      go_wp2_with fail
      refine bodyPost_ret (ret_cell13 rfl _ w.heap.size rfl _ _ _ _ _ _ _ _ _ _ _ _ _ _ (blkPut13 HD6.out.r _ _ _ _ _ _ _ _ _ _ _ _ _)) rfl ?_
      exact HD6.out.done HOK.out (.inl ⟨s, rfl⟩) HSR.out
end Gn
end Go.Proofs.YtmdnhinpaflamaaGreatDoor
