/- Any statement that is made. -/
import Derived.Test.YtmdnhinpaflamaaGreatDoorGsth
import Derived.Test.YtmdnhinpaflamaaGreatDoorGdat
namespace Go.Proofs.YtmdnhinpaflamaaGreatDoor
open Go.RowKit
set_option linter.unusedVariables false
set_option linter.unusedSimpArgs false
namespace Gn
open PM (Ex B)
open Px (SR SS SL StR ItS TagS ColS itC kIt kTag kEx RL FlatS frSet ret_cell13 c13_of put13 frPut13 blkPut13 c7_of)
open CM (Pr Qs Wr Sel Im Co Cl)
theorem colw_info : (Tryz.prog.info? 57).map (fun i => (i.zero, i.size, i.bytes)) = some (some (.agg #[.string ⟨#[]⟩, .int .i64 0, .string ⟨#[]⟩]), 3, 40) := by kernel_rfl
def kdI (t : Bool) : Int := if t then 2 else 1
theorem kind_of {r : Nat} (hr : r < 2) : ∃ t : Bool, (1 + (r : Int)) = kdI t := by
 rcases (by omega : r = 0 \/ r = 1) with rfl | rfl
 ·exact ⟨false, rfl⟩
 ·exact ⟨true, rfl⟩
set_option maxRecDepth 4000000 in
set_option maxHeartbeats 16000000 in
theorem stmt_any {B M : Nat} (P : Nat) (w : World) (h : PK B M w P) :
  Calls Tryz.prog 13 #[.pointer (some ⟨P, 0, none⟩)] w fun e w' => (∃ q : Qs, OkS q /\ StR w.heap.size w' e q.st) /\ PK B M w' P /\ Fr [some P] w w' := by
 have hPl := h.lt'
 have HK := Hd h
 clear h
 go_enter Tryz.func13, Tryz.ntmps13
 go_wp2_with fail
 have HD0 : Hid (Ds B M P w (w.alloc (.cells #[.int .i64 0, .string ⟨#[]⟩, .string ⟨#[]⟩, .slice none 0 0, .slice none 0 0, .slice none 0 0, .slice none 0 0, .string ⟨#[]⟩, .slice none 0 0, .slice none 0 0, .slice none 0 0, .bool false, .slice none 0 0] 29))) := Hd ⟨(Gd.start HK.out).alloc (.cells #[.int .i64 0, .string ⟨#[]⟩, .string ⟨#[]⟩, .slice none 0 0, .slice none 0 0, .slice none 0 0, .slice none 0 0, .string ⟨#[]⟩, .slice none 0 0, .slice none 0 0, .slice none 0 0, .bool false, .slice none 0 0] 29), Blk.new w 29 [.int .i64 0, .string ⟨#[]⟩, .string ⟨#[]⟩, .slice none 0 0, .slice none 0 0, .slice none 0 0, .slice none 0 0, .string ⟨#[]⟩, .slice none 0 0, .slice none 0 0, .slice none 0 0, .bool false, .slice none 0 0]⟩
 refine (num_any P 14 (by decide) (by decide) _ HD0.out.d.pk).mono ?_
 rintro e w1 ⟨r, rfl, hr, hk, hf⟩
 have HD1 := Hd (HD0.out.call hk hf)
 clear hk hf HD0
 have hlt := HD1.out.lt
 by_cases hr0 : (r : Int) = 0
 case pos =>
  go_wp2_with fail
  refine (num_any P 4 (by decide) (by decide) _ (HD1.out.alloc _).d.pk).mono ?_
  rintro e w2 ⟨r4, rfl, hr4, hk, hf⟩
  have hB := (Blk.new w1 9 [.string ⟨#[116]⟩, .string ⟨#[117]⟩, .string ⟨#[119]⟩, .string ⟨#[120]⟩]).keep hf (by simp; omega)
  obtain ⟨nm, hnnm, hcnm⟩ : ∃ nm : PM.B, OkN nm /\ w2.cell? ⟨w1.heap.size, r4, none⟩ = some (.string ⟨nm.toArray⟩) := by
   obtain ⟨nm, h1, h2⟩ := strs_get (L := [[116], [117], [119], [120]]) (by decide) (show r4 < 4 by omega)
   exact ⟨nm, h1, (hB.cell r4).trans h2⟩
  have HNnm := Hd hnnm
  clear hB hnnm
  have HD2 := Hd ((HD1.out.alloc (.cells #[.string ⟨#[116]⟩, .string ⟨#[117]⟩, .string ⟨#[119]⟩, .string ⟨#[120]⟩] 9)).call hk hf)
  have hs2 := hf.size
  simp only [World.size_alloc] at hs2
  clear hk hf
  go_wp2_with fail
  refine (num_any P 4 (by decide) (by decide) _ (HD2.out.alloc _).d.pk).mono ?_
  rintro e w3 ⟨r5, rfl, hr5, hk, hf⟩
  have HSt3 := Hd ((Blk.new w2 29 [.int .i64 1, .string ⟨#[]⟩, .string ⟨nm.toArray⟩, .slice none 0 0, .slice none 0 0, .slice none 0 0, .slice none 0 0, .string ⟨#[]⟩, .slice none 0 0, .slice none 0 0, .slice none 0 0, .bool false, .slice none 0 0]).keep hf (by simp; omega))
  have HD3 := Hd ((HD2.out.alloc (.cells #[.int .i64 1, .string ⟨#[]⟩, .string ⟨nm.toArray⟩, .slice none 0 0, .slice none 0 0, .slice none 0 0, .slice none 0 0, .string ⟨#[]⟩, .slice none 0 0, .slice none 0 0, .slice none 0 0, .bool false, .slice none 0 0] 29)).call hk hf)
  have hs3 := hf.size
  simp only [World.size_alloc] at hs3
  clear hk hf hcnm
  go_wp2_with fail
  go_loopw [4] (fun i wr => ∃ (k : Nat) (cs : List Co) (a3 : Option Addr) (l3 c3 : Nat), i = .int .i64 ((k : Int) - 1) /\ k <= 4 /\ cs.length + k = r5 + 1 /\ Hid (∀ c ∈ cs, OkCo c) /\ Hid (Blk wr w2.heap.size 29 [.int .i64 1, .string ⟨#[]⟩, .string ⟨nm.toArray⟩, .slice a3 l3 c3, .slice none 0 0, .slice none 0 0, .slice none 0 0, .string ⟨#[]⟩, .slice none 0 0, .slice none 0 0, .slice none 0 0, .bool false, .slice none 0 0]) /\ Hid (Ds B M P w wr) /\ Hid (FlatS 57 Px.colC 3 (fun g => w2.heap.size < g) wr (.slice a3 l3 c3) (cs.map Co.col)) /\ w2.heap.size < wr.heap.size) (fun i _ => (intOf i + 1).toNat)
  case atStart => exact ⟨r5 + 1, [], none, 0, 0, by congr 1; omega, by omega, by simp, Hd (by simp), HSt3, HD3, Hd Px.FlatS.nil, by omega⟩
  case round =>
   obtain ⟨k, cs, a3, l3, c3, rfl, hk, hkl, HOK, HStr, HDr, HFr, hsr⟩ := hrel
   by_cases hk0 : k = 0
   ·subst hk0
    obtain ⟨c, cr, rfl⟩ : ∃ c cr, cs = c :: cr := by
     cases cs with
     |nil => simp at hkl
     |cons c cr => exact ⟨c, cr, rfl⟩
    obtain ⟨k0, k1, k2, k3, k4, k5, k6, k7, k8, k9, k10, k11, k12, f0, f1, f2, f3, f4, f5, f6, f7, f8, f9, f10, f11, f12⟩ := c13_of HStr.out
    obtain ⟨q0, q1, q2, q3, q4, q5, q6, q7, q8, q9, q10, q11, q12, g0, g1, g2, g3, g4, g5, g6, g7, g8, g9, g10, g11, g12⟩ := c13_of HDr.out.r
    have hlS := HStr.out.lt
    have hlR := HDr.out.r.lt
    have hnR : ¬ w.heap.size = w2.heap.size := by omega
    go_wp2_with fail
    refine bodyPost_ret (ret_cell13 rfl _ w.heap.size rfl _ _ _ _ _ _ _ _ _ _ _ _ _ _ (blkPut13 HDr.out.r _ _ _ _ _ _ _ _ _ _ _ _ _)) rfl ?_
    have hv := HFr.out
    exact HDr.out.done (q := .table nm c cr) (okS_tab HNnm.out HOK.out (by simp at hkl; omega)) (.mk 1 [] nm ((c :: cr).map Co.col) [] [] [] [] [] [] [] false [] _ _ _ _ _ _ _ _ (hv.mono (fun g hg => by omega)) .nil Rep.Es.nil .nil Rep.Es.nil Rep.Es.nil Rep.Es.nil SS.nil)
   ·have hk1 : (0 : Int) <= (k : Int) - 1 := by omega
    have hk3 : (k : Int) - 1 <= 3 := by omega
    have HFr := Hd HFr.out.live
    go_upto_region 7 with fail
    go_cut [5] from 24 to 39 (fun s5 wx => ∃ (cn : PM.B) (tx : Bool) (b : Nat), s5 = .pointer (some ⟨b, 0, none⟩) /\ w.heap.size < b /\ b < wx.heap.size /\ wr.heap.size <= b /\ Hid (OkN cn) /\ Hid (Blk wx b 57 [.string ⟨cn.toArray⟩, .int .i64 (kdI tx), .string ⟨#[]⟩]) /\ Hid (Ds B M P w wx) /\ Hid (Fr [some P] wr wx))
    case first =>
     have HDs := HDr
     have hlw := HDr.out.lt
     have HIS : PK B M wr.drew P /\ Fr [some P] wr wr.drew := ⟨HDr.out.d.pk.drew, Fr.drew (Fr.refl _ _)⟩
     refine Rg.wp_region [[], [], [1], [], [3], [], [5], [4, 6], [2, 7], [8], [0, 9], [10], [], [12], [13], [11, 14], [], [15, 16]] [some 24, some 25, some 26, some 27, some 28, some 29, some 30, some 31, some 32, some 33, some 34, some 35, some 36, some 37, some 38, some 39, some 5, none] 17 (fun j v wz => match j with | 0 => ∃ b : Nat, v = .slice (some ⟨b, 0, none⟩) 4 4 /\ w.heap.size < b /\ Blk wz b 9 [.string ⟨#[107]⟩, .string ⟨#[118]⟩, .string ⟨#[110]⟩, .string ⟨#[114]⟩] | 1 => v = .int .i64 ((k : Int) - 1) | 2 => ∃ z : Nat, v = .int .i64 z /\ z <= 3 | 3 => v = .pointer (some ⟨P, 0, none⟩) | 4 => ∃ rr : Nat, v = .int .i64 rr /\ rr < 2 | 5 => v = .pointer (some ⟨P, 0, none⟩) | 6 => ∃ rr : Nat, v = .int .i64 rr /\ rr < 3 | 7 => ∃ z : Nat, v = .int .i64 z /\ z <= 2 | 8 => ∃ z : Nat, v = .int .i64 z /\ z <= 5 | 9 => ∃ z : Nat, v = .int .i64 z /\ z < 4 | 10 => ∃ b k : Nat, v = .pointer (some ⟨b, k, none⟩) /\ k < 4 /\ w.heap.size < b /\ Blk wz b 9 [.string ⟨#[107]⟩, .string ⟨#[118]⟩, .string ⟨#[110]⟩, .string ⟨#[114]⟩] | 11 => ∃ nm : PM.B, v = .string ⟨nm.toArray⟩ /\ OkN nm | 12 => v = .pointer (some ⟨P, 0, none⟩) | 13 => ∃ rr : Nat, v = .int .i64 rr /\ rr < 2 | 14 => ∃ tx : Bool, v = .int .i64 (kdI tx) | 15 => ∃ (cn : PM.B) (tx : Bool), v = .agg #[.string ⟨cn.toArray⟩, .int .i64 (kdI tx), .string ⟨#[]⟩] /\ OkN cn | 16 => ∃ b : Nat, v = .pointer (some ⟨b, 0, none⟩) /\ wr.heap.size <= b /\ Blk wz b 57 [.string ⟨#[]⟩, .int .i64 0, .string ⟨#[]⟩] | _ => True) (fun wz => PK B M wz P /\ Fr [some P] wr wz) (fun wz wz' => Fr [some P] wz wz') (by kernel_rfl) (by kernel_rfl) (by kernel_rfl) (by kernel_rfl) HIS ?_ ?_
     ·intro j hj v wz wz' hR
      match j, hj with
      |0, _ =>
       rintro ⟨b, e, hb, h⟩
       exact ⟨b, e, hb, h.keep hR (by simp; omega)⟩
      |1, _ => exact fun h => h
      |2, _ => exact fun h => h
      |3, _ => exact fun h => h
      |4, _ => exact fun h => h
      |5, _ => exact fun h => h
      |6, _ => exact fun h => h
      |7, _ => exact fun h => h
      |8, _ => exact fun h => h
      |9, _ => exact fun h => h
      |10, _ =>
       rintro ⟨b, k, e, hk, hb, h⟩
       exact ⟨b, k, e, hk, hb, h.keep hR (by simp; omega)⟩
      |11, _ => exact fun h => h
      |12, _ => exact fun h => h
      |13, _ => exact fun h => h
      |14, _ => exact fun h => h
      |15, _ => exact fun h => h
      |16, _ =>
       rintro ⟨b, e, hb, h⟩
       exact ⟨b, e, hb, h.keep hR (by simp; omega)⟩
      |j + 17, hj => exact absurd hj (by omega)
     refine Rg.Each.cons (fun vals wq hI hφ => ?_) ?_
     ·change Rg.Does _ _ _ _ (fun v wz => (PK B M wz P /\ Fr [some P] wr wz) /\ (Fr [some P] wq wz) /\ (∃ b : Nat, v = .slice (some ⟨b, 0, none⟩) 4 4 /\ w.heap.size < b /\ Blk wz b 9 [.string ⟨#[107]⟩, .string ⟨#[118]⟩, .string ⟨#[110]⟩, .string ⟨#[114]⟩]))
      clear hφ
      simp only [Rg.putsD, List.getD_cons_succ, List.getD_cons_zero]
      have hs0 := hI.2.size
      exact Rg.Does.val (v := .slice (some ⟨wq.heap.size, 0, none⟩) 4 4) (w' := wq.alloc (.cells #[.string ⟨#[107]⟩, .string ⟨#[118]⟩, .string ⟨#[110]⟩, .string ⟨#[114]⟩] 9)) (by first | kernel_rfl | simp [go_sem, execOp]) ⟨⟨hI.1.alloc _, hI.2.alloc _⟩, (Fr.refl _ _).alloc _, wq.heap.size, rfl, by omega, Blk.new wq _ [.string ⟨#[107]⟩, .string ⟨#[118]⟩, .string ⟨#[110]⟩, .string ⟨#[114]⟩]⟩
     refine Rg.Each.cons (fun vals wq hI hφ => ?_) ?_
     ·change Rg.Does _ _ _ _ (fun v wz => (PK B M wz P /\ Fr [some P] wr wz) /\ (Fr [some P] wq wz) /\ (v = .int .i64 ((k : Int) - 1)))
      clear hφ
      simp only [Rg.putsD, List.getD_cons_succ, List.getD_cons_zero]
      exact Rg.Does.val (v := .int .i64 ((k : Int) - 1)) (by first | rfl | kernel_rfl) ⟨hI, Fr.refl _ _, rfl⟩
     refine Rg.Each.cons (fun vals wq hI hφ => ?_) ?_
     ·change Rg.Does _ _ _ _ (fun v wz => (PK B M wz P /\ Fr [some P] wr wz) /\ (Fr [some P] wq wz) /\ (∃ z : Nat, v = .int .i64 z /\ z <= 3))
      have h1 : _ = _ := hφ 1 (by decide)
      clear hφ
      simp only [Rg.putsD, List.getD_cons_succ, List.getD_cons_zero]
      rw [h1]
      obtain ⟨z, hz⟩ : ∃ z : Nat, 3 - ((k : Int) - 1) = z := ⟨(3 - ((k : Int) - 1)).toNat, by omega⟩
      have hw : IntKind.i64.wrap (3 - ((k : Int) - 1)) = z := by rw [hz]; exact IntWalk.i64_in _ (by omega)
      exact Rg.Does.val (v := .int .i64 z) (by simp [go_sem, execOp, Act.put, Act.eval, hw]) ⟨hI, Fr.refl _ _, z, rfl, by omega⟩
     refine Rg.Each.cons (fun vals wq hI hφ => ?_) ?_
     ·change Rg.Does _ _ _ _ (fun v wz => (PK B M wz P /\ Fr [some P] wr wz) /\ (Fr [some P] wq wz) /\ (v = .pointer (some ⟨P, 0, none⟩)))
      clear hφ
      simp only [Rg.putsD, List.getD_cons_succ, List.getD_cons_zero]
      exact Rg.Does.val (v := .pointer (some ⟨P, 0, none⟩)) (by first | rfl | kernel_rfl) ⟨hI, Fr.refl _ _, rfl⟩
     refine Rg.Each.cons (fun vals wq hI hφ => ?_) ?_
     ·change Rg.Does _ _ _ _ (fun v wz => (PK B M wz P /\ Fr [some P] wr wz) /\ (Fr [some P] wq wz) /\ (∃ rr : Nat, v = .int .i64 rr /\ rr < 2))
      have h3 : _ = _ := hφ 3 (by decide)
      clear hφ
      simp only [Rg.putsD, List.getD_cons_succ, List.getD_cons_zero]
      rw [h3]
      refine Rg.Does.call (by kernel_rfl) (num_any P 2 (by decide) (by decide) wq hI.1) ?_
      rintro e wx ⟨rr, rfl, hrr, hk, hf⟩
      exact ⟨_, rfl, ⟨hk, hI.2.trans hf⟩, hf, rr, rfl, by omega⟩
     refine Rg.Each.cons (fun vals wq hI hφ => ?_) ?_
     ·change Rg.Does _ _ _ _ (fun v wz => (PK B M wz P /\ Fr [some P] wr wz) /\ (Fr [some P] wq wz) /\ (v = .pointer (some ⟨P, 0, none⟩)))
      clear hφ
      simp only [Rg.putsD, List.getD_cons_succ, List.getD_cons_zero]
      exact Rg.Does.val (v := .pointer (some ⟨P, 0, none⟩)) (by first | rfl | kernel_rfl) ⟨hI, Fr.refl _ _, rfl⟩
     refine Rg.Each.cons (fun vals wq hI hφ => ?_) ?_
     ·change Rg.Does _ _ _ _ (fun v wz => (PK B M wz P /\ Fr [some P] wr wz) /\ (Fr [some P] wq wz) /\ (∃ rr : Nat, v = .int .i64 rr /\ rr < 3))
      have h5 : _ = _ := hφ 5 (by decide)
      clear hφ
      simp only [Rg.putsD, List.getD_cons_succ, List.getD_cons_zero]
      rw [h5]
      refine Rg.Does.call (by kernel_rfl) (num_any P 3 (by decide) (by decide) wq hI.1) ?_
      rintro e wx ⟨rr, rfl, hrr, hk, hf⟩
      exact ⟨_, rfl, ⟨hk, hI.2.trans hf⟩, hf, rr, rfl, by omega⟩
     refine Rg.Each.cons (fun vals wq hI hφ => ?_) ?_
     ·change Rg.Does _ _ _ _ (fun v wz => (PK B M wz P /\ Fr [some P] wr wz) /\ (Fr [some P] wq wz) /\ (∃ z : Nat, v = .int .i64 z /\ z <= 2))
      have h4 := hφ 4 (by decide)
      have h6 := hφ 6 (by decide)
      clear hφ
      simp only [Rg.putsD, List.getD_cons_succ, List.getD_cons_zero]
      obtain ⟨x, ex, hx⟩ := h4
      obtain ⟨y, ey, hy⟩ := h6
      rw [ex, ey]
      have hxy : x * y <= 2 := by rcases (by omega : x = 0 \/ x = 1) with rfl | rfl <;> omega
      have hw : IntKind.i64.wrap ((x : Int) * y) = ((x * y : Nat) : Int) := by rw [<- Int.natCast_mul]; exact IntWalk.i64_in _ (by omega)
      exact Rg.Does.val (v := .int .i64 ((x * y : Nat) : Int)) (by simp only [go_sem, execOp, Act.put, Act.eval] ; simp [go_sem, hw]) ⟨hI, Fr.refl _ _, x * y, rfl, hxy⟩
     refine Rg.Each.cons (fun vals wq hI hφ => ?_) ?_
     ·change Rg.Does _ _ _ _ (fun v wz => (PK B M wz P /\ Fr [some P] wr wz) /\ (Fr [some P] wq wz) /\ (∃ z : Nat, v = .int .i64 z /\ z <= 5))
      have h2 := hφ 2 (by decide)
      have h7 := hφ 7 (by decide)
      clear hφ
      simp only [Rg.putsD, List.getD_cons_succ, List.getD_cons_zero]
      obtain ⟨x, ex, hx⟩ := h2
      obtain ⟨y, ey, hy⟩ := h7
      rw [ex, ey]
      have hw : IntKind.i64.wrap ((x : Int) + y) = ((x + y : Nat) : Int) := by rw [<- Int.natCast_add]; exact IntWalk.i64_in _ (by omega)
      exact Rg.Does.val (v := .int .i64 ((x + y : Nat) : Int)) (by simp only [go_sem, execOp, Act.put, Act.eval]; simp [go_sem, hw]) ⟨hI, Fr.refl _ _, x + y, rfl, by omega⟩
     refine Rg.Each.cons (fun vals wq hI hφ => ?_) ?_
     ·change Rg.Does _ _ _ _ (fun v wz => (PK B M wz P /\ Fr [some P] wr wz) /\ (Fr [some P] wq wz) /\ (∃ z : Nat, v = .int .i64 z /\ z < 4))
      have h8 := hφ 8 (by decide)
      clear hφ
      simp only [Rg.putsD, List.getD_cons_succ, List.getD_cons_zero]
      obtain ⟨x, ex, hx⟩ := h8
      rw [ex]
      have hw : Int.tmod (x : Int) 4 = ((x % 4 : Nat) : Int) := by rw [Int.tmod_eq_emod_of_nonneg (by omega)]; omega
      exact Rg.Does.val (v := .int .i64 ((x % 4 : Nat) : Int)) (by simp [go_sem, execOp, Act.put, Act.eval, hw]) ⟨hI, Fr.refl _ _, x % 4, rfl, by omega⟩
     refine Rg.Each.cons (fun vals wq hI hφ => ?_) ?_
     ·change Rg.Does _ _ _ _ (fun v wz => (PK B M wz P /\ Fr [some P] wr wz) /\ (Fr [some P] wq wz) /\ (∃ b k : Nat, v = .pointer (some ⟨b, k, none⟩) /\ k < 4 /\ w.heap.size < b /\ Blk wz b 9 [.string ⟨#[107]⟩, .string ⟨#[118]⟩, .string ⟨#[110]⟩, .string ⟨#[114]⟩]))
      have h0 := hφ 0 (by decide)
      have h9 := hφ 9 (by decide)
      clear hφ
      simp only [Rg.putsD, List.getD_cons_succ, List.getD_cons_zero]
      obtain ⟨b, eb, hb, hblk⟩ := h0
      obtain ⟨k, ek, hk⟩ := h9
      rw [eb, ek]
      have hk0 : (0 : Int) <= k := by omega
      have hk1 : (k : Int) < 4 := by omega
      skip
      exact Rg.Does.val (v := .pointer (some ⟨b, k, none⟩)) (by simp [go_sem, execOp, Act.put, Act.eval]; omega) ⟨hI, Fr.refl _ _, b, k, rfl, by omega, hb, hblk⟩
     refine Rg.Each.cons (fun vals wq hI hφ => ?_) ?_
     ·change Rg.Does _ _ _ _ (fun v wz => (PK B M wz P /\ Fr [some P] wr wz) /\ (Fr [some P] wq wz) /\ (∃ nm : PM.B, v = .string ⟨nm.toArray⟩ /\ OkN nm))
      have h10 := hφ 10 (by decide)
      clear hφ
      simp only [Rg.putsD, List.getD_cons_succ, List.getD_cons_zero]
      obtain ⟨b, k, eb, hk, hb, hblk⟩ := h10
      obtain ⟨nm, h1, h2⟩ := strs_get (L := [[107], [118], [110], [114]]) (by decide) (show k < 4 by omega)
      have hc : wq.cell? ⟨b, k, none⟩ = some (.string ⟨nm.toArray⟩) := (hblk.cell k).trans h2
      rw [eb]
      exact Rg.Does.val (v := .string ⟨nm.toArray⟩) (by simp [go_sem, execOp, Act.put, Act.eval, hc]) ⟨hI, Fr.refl _ _, nm, rfl, h1⟩
     refine Rg.Each.cons (fun vals wq hI hφ => ?_) ?_
     ·change Rg.Does _ _ _ _ (fun v wz => (PK B M wz P /\ Fr [some P] wr wz) /\ (Fr [some P] wq wz) /\ (v = .pointer (some ⟨P, 0, none⟩)))
      clear hφ
      simp only [Rg.putsD, List.getD_cons_succ, List.getD_cons_zero]
      exact Rg.Does.val (v := .pointer (some ⟨P, 0, none⟩)) (by first | rfl | kernel_rfl) ⟨hI, Fr.refl _ _, rfl⟩
     refine Rg.Each.cons (fun vals wq hI hφ => ?_) ?_
     ·change Rg.Does _ _ _ _ (fun v wz => (PK B M wz P /\ Fr [some P] wr wz) /\ (Fr [some P] wq wz) /\ (∃ rr : Nat, v = .int .i64 rr /\ rr < 2))
      have h12 : _ = _ := hφ 12 (by decide)
      clear hφ
      simp only [Rg.putsD, List.getD_cons_succ, List.getD_cons_zero]
      rw [h12]
      refine Rg.Does.call (by kernel_rfl) (num_any P 2 (by decide) (by decide) wq hI.1) ?_
      rintro e wx ⟨rr, rfl, hrr, hk, hf⟩
      exact ⟨_, rfl, ⟨hk, hI.2.trans hf⟩, hf, rr, rfl, by omega⟩
     refine Rg.Each.cons (fun vals wq hI hφ => ?_) ?_
     ·change Rg.Does _ _ _ _ (fun v wz => (PK B M wz P /\ Fr [some P] wr wz) /\ (Fr [some P] wq wz) /\ (∃ tx : Bool, v = .int .i64 (kdI tx)))
      have h13 := hφ 13 (by decide)
      clear hφ
      simp only [Rg.putsD, List.getD_cons_succ, List.getD_cons_zero]
      obtain ⟨x, ex, hx⟩ := h13
      rw [ex]
      obtain ⟨tx, htx⟩ := kind_of hx
      have hw : IntKind.i64.wrap (1 + (x : Int)) = kdI tx := by rw [<- htx]; exact IntWalk.i64_in _ (by omega)
      exact Rg.Does.val (v := .int .i64 (kdI tx)) (by simp only [go_sem, execOp, Act.put, Act.eval]; simp [go_sem, hw]) ⟨hI, Fr.refl _ _, tx, rfl⟩
     refine Rg.Each.cons (fun vals wq hI hφ => ?_) ?_
     ·change Rg.Does _ _ _ _ (fun v wz => (PK B M wz P /\ Fr [some P] wr wz) /\ (Fr [some P] wq wz) /\ (∃ (cn : PM.B) (tx : Bool), v = .agg #[.string ⟨cn.toArray⟩, .int .i64 (kdI tx), .string ⟨#[]⟩] /\ OkN cn))
      have h11 := hφ 11 (by decide)
      have h14 := hφ 14 (by decide)
      clear hφ
      simp only [Rg.putsD, List.getD_cons_succ, List.getD_cons_zero]
      obtain ⟨cn, en, hn⟩ := h11
      obtain ⟨tx, et⟩ := h14
      rw [en, et]
      exact Rg.Does.val (v := .agg #[.string ⟨cn.toArray⟩, .int .i64 (kdI tx), .string ⟨#[]⟩]) (by first | rfl | kernel_rfl) ⟨hI, Fr.refl _ _, cn, tx, rfl, hn⟩
     refine Rg.Each.cons (fun vals wq hI hφ => ?_) ?_
     ·change Rg.Does _ _ _ _ (fun v wz => (PK B M wz P /\ Fr [some P] wr wz) /\ (Fr [some P] wq wz) /\ (∃ b : Nat, v = .pointer (some ⟨b, 0, none⟩) /\ wr.heap.size <= b /\ Blk wz b 57 [.string ⟨#[]⟩, .int .i64 0, .string ⟨#[]⟩]))
      clear hφ
      simp only [Rg.putsD, List.getD_cons_succ, List.getD_cons_zero]
      have hs0 := hI.2.size
      exact Rg.Does.val (v := .pointer (some ⟨wq.heap.size, 0, none⟩)) (w' := wq.alloc (.cells #[.string ⟨#[]⟩, .int .i64 0, .string ⟨#[]⟩] 57)) (by first | rfl | kernel_rfl | simp [go_sem, execOp]) ⟨⟨hI.1.alloc _, hI.2.alloc _⟩, (Fr.refl _ _).alloc _, wq.heap.size, rfl, hs0, Blk.new wq _ [.string ⟨#[]⟩, .int .i64 0, .string ⟨#[]⟩]⟩
     refine Rg.Each.one (fun vals wq hI hφ => ?_)
     have h15 := hφ 15 (by decide)
     have h16 := hφ 16 (by decide)
     clear hφ
     obtain ⟨cn, tx, e15, hn⟩ := h15
     obtain ⟨b, e16, hb, hblk⟩ := h16
     obtain ⟨q0, q1, q2, g0, g1, g2⟩ := c3_of hblk
     have hlb := hblk.lt
     rw [show List.range 17 = [0, 1, 2, 3, 4, 5, 6, 7, 8, 9, 10, 11, 12, 13, 14, 15, 16] from rfl]
     simp only [Rg.putsD, List.getD_cons_succ, List.getD_cons_zero]
     rw [e15, e16]
     refine Rg.Does.skip (w' := put3 wq b (.string ⟨cn.toArray⟩) (.int .i64 (kdI tx)) (.string ⟨#[]⟩)) (by unfold put3; simp [go_sem, execOp, Act.put, Act.eval, q0, q1, q2, g0, g1, g2]) ?_
     simp only [Act.put, List.setIfInBounds_toArray, List.set_cons_succ, List.set_cons_zero]
     have hff := frPut3 (T := b) (Fr.refl [some b] wq) (.inl (by simp)) (.string ⟨cn.toArray⟩) (.int .i64 (kdI tx)) (.string ⟨#[]⟩)
     have hsz := hI.2.size
     have HD6 := Hd (HDs.out.call hI.1 hI.2)
     have HD7 := Hd (HD6.out.own hff (fun g hg => by cases hg; omega))
     have HB7 := Hd (blkPut3 hblk (.string ⟨cn.toArray⟩) (.int .i64 (kdI tx)) (.string ⟨#[]⟩))
     have HF7 : Hid (Fr [some P] wr (put3 wq b (.string ⟨cn.toArray⟩) (.int .i64 (kdI tx)) (.string ⟨#[]⟩))) := Hd (hI.2.trans' hff (fun g hg => by simp at hg; exact .inr (by omega)))
     have hs7 := hff.size
     have HN := Hd hn
     clear hff hblk hI e15 e16 q0 q1 q2 g0 g1 g2 HD6 hn
     generalize put3 wq b (.string ⟨cn.toArray⟩) (.int .i64 (kdI tx)) (.string ⟨#[]⟩) = w7 at HD7 HB7 HF7 hs7 ⊢
     go_wp2_with fail
     go_meet
     exact ⟨cn, tx, b, rfl, by omega, by omega, hb, HN, HB7, HD7, HF7⟩
    case rest =>
     obtain ⟨cn, tx, b, rfl, hb, hbl, hbr, HCN, HBc, HDc, HFc⟩ := hcut
     have HSt4 := Hd (HStr.out.keep HFc.out (by have := HDc.out.d.lt; simp; omega))
     have HF4 := Hd (HFr.out.keep HFc.out (fun g hg => by have := HDc.out.d.lt; simp; omega))
     have hs4 := HFc.out.size
     have hbn : ¬ b = w2.heap.size := by omega
     have hbn2 : ¬ w2.heap.size = b := by omega
     clear HStr HFr HDr HFc
     go_wp2_with fail
     refine (num_any P 5 (by decide) (by decide) _ HDc.out.d.pk).mono ?_
     rintro e w6 ⟨r6, rfl, hr6, hk', hf⟩
     have HD6 := Hd (HDc.out.call hk' hf)
     have HSt6 := Hd (HSt4.out.keep hf (by simp; omega))
     have HF6 := Hd (HF4.out.keep hf (fun g hg => by simp; omega))
     have HBc6 := Hd (HBc.out.keep hf (by simp; omega))
     have hs6 := hf.size
     clear hk' hf HDc HSt4 HF4 HBc
     go_upto_if 42 with fail
     go_cut [] from 40 to 48 (fun wx => ∃ (cr : PM.B), Hid (cr = [] \/ OkN cr) /\ Hid (Blk wx b 57 [.string ⟨cn.toArray⟩, .int .i64 (kdI tx), .string ⟨cr.toArray⟩]) /\ Hid (Ds B M P w wx) /\ Hid (Blk wx w2.heap.size 29 [.int .i64 1, .string ⟨#[]⟩, .string ⟨nm.toArray⟩, .slice a3 l3 c3, .slice none 0 0, .slice none 0 0, .slice none 0 0, .string ⟨#[]⟩, .slice none 0 0, .slice none 0 0, .slice none 0 0, .bool false, .slice none 0 0]) /\ Hid (FlatS 57 Px.colC 3 (fun g => w2.heap.size < g /\ g < wr.heap.size) wx (.slice a3 l3 c3) (cs.map Co.col)) /\ w6.heap.size <= wx.heap.size)
     case first =>
      by_cases h6 : (r6 : Int) = 0
      ·go_wp2_with fail
       refine (num_any P 3 (by decide) (by decide) _ (HD6.out.alloc _).d.pk).mono ?_
       rintro e w7 ⟨r7, rfl, hr7, hk', hf⟩
       have hB := (Blk.new w6 9 [.string ⟨#[116]⟩, .string ⟨#[117]⟩, .string ⟨#[113]⟩]).keep hf (by simp; omega)
       obtain ⟨rf, hnrf, hcrf⟩ : ∃ nm : PM.B, OkN nm /\ w7.cell? ⟨w6.heap.size, r7, none⟩ = some (.string ⟨nm.toArray⟩) := by
        obtain ⟨nm, h1, h2⟩ := strs_get (L := [[116], [117], [113]]) (by decide) (show r7 < 3 by omega)
        exact ⟨nm, h1, (hB.cell r7).trans h2⟩
       have HNrf := Hd hnrf
       clear hB hnrf
       have HD7 := Hd ((HD6.out.alloc (.cells #[.string ⟨#[116]⟩, .string ⟨#[117]⟩, .string ⟨#[113]⟩] 9)).call hk' hf)
       have hfx := ((Fr.refl [some P] w6).alloc (.cells #[.string ⟨#[116]⟩, .string ⟨#[117]⟩, .string ⟨#[113]⟩] 9)).trans hf
       have HSt7 := Hd (HSt6.out.keep hfx (by simp; omega))
       have HF7 := Hd (HF6.out.keep hfx (fun g hg => by simp; omega))
       have HBc7 := Hd (HBc6.out.keep hfx (by simp; omega))
       have hs7 := hfx.size
       clear hk' hf hfx
       have z0 := HBc7.out.cell 0
       have z1 := HBc7.out.cell 1
       have z2 := HBc7.out.cell 2
       have y2 := HBc7.out.free 2
       have hlz := HBc7.out.lt
       go_wp2_with fail
       go_meet
       exact ⟨rf, Hd (.inr HNrf.out), Hd (HBc7.out.set 2 (.string ⟨rf.toArray⟩)), Hd (HD7.out.set hb), Hd (HSt7.out.keep (frSet (P := b) (i := 2) (.string ⟨rf.toArray⟩)) (by simp; omega)), Hd (HF7.out.keep (frSet (P := b) (i := 2) (.string ⟨rf.toArray⟩)) (fun g hg => by simp; omega)), by simp; omega⟩
      ·go_wp2_with fail
       go_meet
       exact ⟨[], Hd (.inl rfl), HBc6, HD6, HSt6, HF6, Nat.le_refl _⟩
     case rest =>
      clear HBc6 HD6 HSt6 HF6
      obtain ⟨cr, HCR, HBc, HDx, HStx, HFx, hsx⟩ := hcut
      have z0 := HBc.out.cell 0
      have z1 := HBc.out.cell 1
      have z2 := HBc.out.cell 2
      have hlz := HBc.out.lt
      have hlS := HStx.out.lt
      have hk3s := HStx.out.cell 3
      have hf3s := HStx.out.free 3
      have hmx : (cs.map Co.col).length + 1 <= maxLen := by rw [List.length_map]; unfold maxLen; omega
      have hby : ((cs.map Co.col).length + 1) * 40 <= 140737488355328 := by rw [List.length_map]; omega
      obtain ⟨i0, hi, hz0, hz1, hz2⟩ := info_parts' colw_info
      have HROW := Hd ((HFx.out.1).keep ((Fr.refl [] _).alloc (.cells #[.string ⟨cn.toArray⟩, .int .i64 (kdI tx), .string ⟨cr.toArray⟩] 57)) (by simp))
      have HOWN := Hd (fun g (hg : (Value.slice a3 l3 c3).ownBlock = some g) => And.intro (HFx.out.2 g hg).1 (HFx.out.1.block_lt hg))
      have HDy := Hd (HDx.out.alloc (.cells #[.string ⟨cn.toArray⟩, .int .i64 (kdI tx), .string ⟨cr.toArray⟩] 57))
      have HSty := Hd (HStx.out.alloc (.cells #[.string ⟨cn.toArray⟩, .int .i64 (kdI tx), .string ⟨cr.toArray⟩] 57))
      have HFy := Hd (HFx.out.keep ((Fr.refl [] _).alloc (.cells #[.string ⟨cn.toArray⟩, .int .i64 (kdI tx), .string ⟨cr.toArray⟩] 57)) (by simp))
      go_wp2_with (at_builtin; go_loud (refine wpList_append_row rfl _ _ 23 rfl 57 i0 (.agg #[.string ⟨#[]⟩, .int .i64 0, .string ⟨#[]⟩]) 3 40 Tryz.underlying23 hi hz0 hz1 hz2 rfl (by decide) (.slice a3 l3 c3) (cs.map Co.col).length ((cs.map Co.col).flatMap Px.colC) rfl HROW.out ⟨_, 0, none⟩ 1 1 [.string ⟨cn.toArray⟩, .int .i64 (kdI tx), .string ⟨cr.toArray⟩] rfl rfl (Lx.four_new _ 57 [.string ⟨cn.toArray⟩, .int .i64 (kdI tx), .string ⟨cr.toArray⟩]) (by simp [Value.oneCell']) hmx hby ?_))
      intro v' wv hrv hfv hov
      obtain ⟨a3', l3', c3', rfl⟩ := row_slice hrv
      have HDv := Hd (HDy.out.own hfv (fun g hg => by have := HOWN.out g hg; omega))
      have HStv := Hd (HSty.out.keep hfv (fun hm => by simp only [List.mem_cons, List.not_mem_nil, or_false] at hm; have := HOWN.out _ hm.symm; omega))
      have HFv := Hd (flat_push (x := Co.col ⟨cn, tx, cr⟩) (HFy.out.mono (fun g hg => hg.1)) (by simp; omega) (by rw [List.length_map]; exact hrv) (by rw [World.size_alloc]; exact hov))
      have hsv := hfv.size
      clear hrv hfv hov hmx hby HROW HDy HSty HFy hk3s hf3s z0 z1 z2 hlz
      have k3 := HStv.out.cell 3
      have f3 := HStv.out.free 3
      have hlv := HStv.out.lt
      have HDz := Hd (HDv.out.set (b := w2.heap.size) (j := 3) (v := .slice a3' l3' c3') (by omega))
      have HStz := Hd (HStv.out.set 3 (.slice a3' l3' c3'))
      have HFz := Hd (HFv.out.keep (frSet (P := w2.heap.size) (i := 3) (.slice a3' l3' c3')) (fun g hg => by simp; omega))
      go_wp2_with fail
      go_roundw
      case rel => exact ⟨k - 1, cs ++ [⟨cn, tx, cr⟩], a3', l3', c3', by go_num, by omega, by simp; omega, Hd (fun c hc => by rcases List.mem_append.1 hc with h | h; exact HOK.out c h; rw [List.mem_singleton.1 h]; exact okCo HCN.out HCR.out), HStz, HDz, Hd (by rw [List.map_append]; exact HFz.out), by simp; omega⟩
      case measure => simp only [intOf]; omega
 case neg =>
  by_cases hr1 : (r : Int) = 1
  case pos =>
   go_upto_region 13 with fail
   have HDs := HD1
   have HIS : PK B M w1.drew P /\ Fr [some P] w1 w1.drew := ⟨HD1.out.d.pk.drew, Fr.drew (Fr.refl _ _)⟩
   refine Rg.wp_region [[], [], [1], [0, 2], [3], [], [], [6], [5, 7], [8], [4, 9], [10]] [some 58, some 59, some 60, some 61, some 62, some 63, some 64, some 65, some 66, some 67, some 68, none] 11 (fun j v wz => match j with | 0 => ∃ b : Nat, v = .slice (some ⟨b, 0, none⟩) 3 3 /\ w.heap.size < b /\ Blk wz b 9 [.string ⟨#[116]⟩, .string ⟨#[117]⟩, .string ⟨#[119]⟩] | 1 => v = .pointer (some ⟨P, 0, none⟩) | 2 => ∃ rr : Nat, v = .int .i64 rr /\ rr < 3 | 3 => ∃ b k : Nat, v = .pointer (some ⟨b, k, none⟩) /\ k < 3 /\ w.heap.size < b /\ Blk wz b 9 [.string ⟨#[116]⟩, .string ⟨#[117]⟩, .string ⟨#[119]⟩] | 4 => ∃ nm : PM.B, v = .string ⟨nm.toArray⟩ /\ OkN nm | 5 => ∃ b : Nat, v = .slice (some ⟨b, 0, none⟩) 4 4 /\ w.heap.size < b /\ Blk wz b 9 [.string ⟨#[110]⟩, .string ⟨#[118]⟩, .string ⟨#[107]⟩, .string ⟨#[113]⟩] | 6 => v = .pointer (some ⟨P, 0, none⟩) | 7 => ∃ rr : Nat, v = .int .i64 rr /\ rr < 4 | 8 => ∃ b k : Nat, v = .pointer (some ⟨b, k, none⟩) /\ k < 4 /\ w.heap.size < b /\ Blk wz b 9 [.string ⟨#[110]⟩, .string ⟨#[118]⟩, .string ⟨#[107]⟩, .string ⟨#[113]⟩] | 9 => ∃ nm : PM.B, v = .string ⟨nm.toArray⟩ /\ OkN nm | 10 => ∃ t m : PM.B, v = .agg #[.int .i64 2, .string ⟨t.toArray⟩, .string ⟨m.toArray⟩, .slice none 0 0, .slice none 0 0, .slice none 0 0, .slice none 0 0, .string ⟨#[]⟩, .slice none 0 0, .slice none 0 0, .slice none 0 0, .bool false, .slice none 0 0] /\ OkN t /\ OkN m | _ => True) (fun wz => PK B M wz P /\ Fr [some P] w1 wz) (fun wz wz' => Fr [some P] wz wz') (by kernel_rfl) (by kernel_rfl) (by kernel_rfl) (by kernel_rfl) HIS ?_ ?_
   ·intro j hj v wz wz' hR
    match j, hj with
    |0, _ =>
     rintro ⟨b, e, hb, h⟩
     exact ⟨b, e, hb, h.keep hR (by simp; omega)⟩
    |1, _ => exact fun h => h
    |2, _ => exact fun h => h
    |3, _ =>
     rintro ⟨b, k, e, hk, hb, h⟩
     exact ⟨b, k, e, hk, hb, h.keep hR (by simp; omega)⟩
    |4, _ => exact fun h => h
    |5, _ =>
     rintro ⟨b, e, hb, h⟩
     exact ⟨b, e, hb, h.keep hR (by simp; omega)⟩
    |6, _ => exact fun h => h
    |7, _ => exact fun h => h
    |8, _ =>
     rintro ⟨b, k, e, hk, hb, h⟩
     exact ⟨b, k, e, hk, hb, h.keep hR (by simp; omega)⟩
    |9, _ => exact fun h => h
    |10, _ => exact fun h => h
    |j + 11, hj => exact absurd hj (by omega)
   refine Rg.Each.cons (fun vals wr hI hφ => ?_) ?_
   ·change Rg.Does _ _ _ _ (fun v wz => (PK B M wz P /\ Fr [some P] w1 wz) /\ (Fr [some P] wr wz) /\ (∃ b : Nat, v = .slice (some ⟨b, 0, none⟩) 3 3 /\ w.heap.size < b /\ Blk wz b 9 [.string ⟨#[116]⟩, .string ⟨#[117]⟩, .string ⟨#[119]⟩]))
    clear hφ
    simp only [Rg.putsD, List.getD_cons_succ, List.getD_cons_zero]
    have hs0 := hI.2.size
    exact Rg.Does.val (v := .slice (some ⟨wr.heap.size, 0, none⟩) 3 3) (w' := wr.alloc (.cells #[.string ⟨#[116]⟩, .string ⟨#[117]⟩, .string ⟨#[119]⟩] 9)) (by first | kernel_rfl | simp [go_sem, execOp]) ⟨⟨hI.1.alloc _, hI.2.alloc _⟩, (Fr.refl _ _).alloc _, wr.heap.size, rfl, by omega, Blk.new wr _ [.string ⟨#[116]⟩, .string ⟨#[117]⟩, .string ⟨#[119]⟩]⟩
   refine Rg.Each.cons (fun vals wr hI hφ => ?_) ?_
   ·change Rg.Does _ _ _ _ (fun v wz => (PK B M wz P /\ Fr [some P] w1 wz) /\ (Fr [some P] wr wz) /\ (v = .pointer (some ⟨P, 0, none⟩)))
    clear hφ
    simp only [Rg.putsD, List.getD_cons_succ, List.getD_cons_zero]
    exact Rg.Does.val (v := .pointer (some ⟨P, 0, none⟩)) (by first | rfl | kernel_rfl) ⟨hI, Fr.refl _ _, rfl⟩
   refine Rg.Each.cons (fun vals wr hI hφ => ?_) ?_
   ·change Rg.Does _ _ _ _ (fun v wz => (PK B M wz P /\ Fr [some P] w1 wz) /\ (Fr [some P] wr wz) /\ (∃ rr : Nat, v = .int .i64 rr /\ rr < 3))
    have h1 : _ = _ := hφ 1 (by decide)
    clear hφ
    simp only [Rg.putsD, List.getD_cons_succ, List.getD_cons_zero]
    rw [h1]
    refine Rg.Does.call (by kernel_rfl) (num_any P 3 (by decide) (by decide) wr hI.1) ?_
    rintro e wx ⟨rr, rfl, hrr, hk, hf⟩
    exact ⟨_, rfl, ⟨hk, hI.2.trans hf⟩, hf, rr, rfl, by omega⟩
   refine Rg.Each.cons (fun vals wr hI hφ => ?_) ?_
   ·change Rg.Does _ _ _ _ (fun v wz => (PK B M wz P /\ Fr [some P] w1 wz) /\ (Fr [some P] wr wz) /\ (∃ b k : Nat, v = .pointer (some ⟨b, k, none⟩) /\ k < 3 /\ w.heap.size < b /\ Blk wz b 9 [.string ⟨#[116]⟩, .string ⟨#[117]⟩, .string ⟨#[119]⟩]))
    have h0 := hφ 0 (by decide)
    have h2 := hφ 2 (by decide)
    clear hφ
    simp only [Rg.putsD, List.getD_cons_succ, List.getD_cons_zero]
    obtain ⟨b, eb, hb, hblk⟩ := h0
    obtain ⟨k, ek, hk⟩ := h2
    rw [eb, ek]
    have hk0 : (0 : Int) <= k := by omega
    have hk1 : (k : Int) < 4 := by omega
    skip
    exact Rg.Does.val (v := .pointer (some ⟨b, k, none⟩)) (by simp [go_sem, execOp, Act.put, Act.eval]; omega) ⟨hI, Fr.refl _ _, b, k, rfl, by omega, hb, hblk⟩
   refine Rg.Each.cons (fun vals wr hI hφ => ?_) ?_
   ·change Rg.Does _ _ _ _ (fun v wz => (PK B M wz P /\ Fr [some P] w1 wz) /\ (Fr [some P] wr wz) /\ (∃ nm : PM.B, v = .string ⟨nm.toArray⟩ /\ OkN nm))
    have h3 := hφ 3 (by decide)
    clear hφ
    simp only [Rg.putsD, List.getD_cons_succ, List.getD_cons_zero]
    obtain ⟨b, k, eb, hk, hb, hblk⟩ := h3
    obtain ⟨nm, h1, h2⟩ := strs_get (L := [[116], [117], [119]]) (by decide) (show k < 3 by omega)
    have hc : wr.cell? ⟨b, k, none⟩ = some (.string ⟨nm.toArray⟩) := (hblk.cell k).trans h2
    rw [eb]
    exact Rg.Does.val (v := .string ⟨nm.toArray⟩) (by simp [go_sem, execOp, Act.put, Act.eval, hc]) ⟨hI, Fr.refl _ _, nm, rfl, h1⟩
   refine Rg.Each.cons (fun vals wr hI hφ => ?_) ?_
   ·change Rg.Does _ _ _ _ (fun v wz => (PK B M wz P /\ Fr [some P] w1 wz) /\ (Fr [some P] wr wz) /\ (∃ b : Nat, v = .slice (some ⟨b, 0, none⟩) 4 4 /\ w.heap.size < b /\ Blk wz b 9 [.string ⟨#[110]⟩, .string ⟨#[118]⟩, .string ⟨#[107]⟩, .string ⟨#[113]⟩]))
    clear hφ
    simp only [Rg.putsD, List.getD_cons_succ, List.getD_cons_zero]
    have hs0 := hI.2.size
    exact Rg.Does.val (v := .slice (some ⟨wr.heap.size, 0, none⟩) 4 4) (w' := wr.alloc (.cells #[.string ⟨#[110]⟩, .string ⟨#[118]⟩, .string ⟨#[107]⟩, .string ⟨#[113]⟩] 9)) (by first | kernel_rfl | simp [go_sem, execOp]) ⟨⟨hI.1.alloc _, hI.2.alloc _⟩, (Fr.refl _ _).alloc _, wr.heap.size, rfl, by omega, Blk.new wr _ [.string ⟨#[110]⟩, .string ⟨#[118]⟩, .string ⟨#[107]⟩, .string ⟨#[113]⟩]⟩
   refine Rg.Each.cons (fun vals wr hI hφ => ?_) ?_
   ·change Rg.Does _ _ _ _ (fun v wz => (PK B M wz P /\ Fr [some P] w1 wz) /\ (Fr [some P] wr wz) /\ (v = .pointer (some ⟨P, 0, none⟩)))
    clear hφ
    simp only [Rg.putsD, List.getD_cons_succ, List.getD_cons_zero]
    exact Rg.Does.val (v := .pointer (some ⟨P, 0, none⟩)) (by first | rfl | kernel_rfl) ⟨hI, Fr.refl _ _, rfl⟩
   refine Rg.Each.cons (fun vals wr hI hφ => ?_) ?_
   ·change Rg.Does _ _ _ _ (fun v wz => (PK B M wz P /\ Fr [some P] w1 wz) /\ (Fr [some P] wr wz) /\ (∃ rr : Nat, v = .int .i64 rr /\ rr < 4))
    have h6 : _ = _ := hφ 6 (by decide)
    clear hφ
    simp only [Rg.putsD, List.getD_cons_succ, List.getD_cons_zero]
    rw [h6]
    refine Rg.Does.call (by kernel_rfl) (num_any P 4 (by decide) (by decide) wr hI.1) ?_
    rintro e wx ⟨rr, rfl, hrr, hk, hf⟩
    exact ⟨_, rfl, ⟨hk, hI.2.trans hf⟩, hf, rr, rfl, by omega⟩
   refine Rg.Each.cons (fun vals wr hI hφ => ?_) ?_
   ·change Rg.Does _ _ _ _ (fun v wz => (PK B M wz P /\ Fr [some P] w1 wz) /\ (Fr [some P] wr wz) /\ (∃ b k : Nat, v = .pointer (some ⟨b, k, none⟩) /\ k < 4 /\ w.heap.size < b /\ Blk wz b 9 [.string ⟨#[110]⟩, .string ⟨#[118]⟩, .string ⟨#[107]⟩, .string ⟨#[113]⟩]))
    have h5 := hφ 5 (by decide)
    have h7 := hφ 7 (by decide)
    clear hφ
    simp only [Rg.putsD, List.getD_cons_succ, List.getD_cons_zero]
    obtain ⟨b, eb, hb, hblk⟩ := h5
    obtain ⟨k, ek, hk⟩ := h7
    rw [eb, ek]
    have hk0 : (0 : Int) <= k := by omega
    have hk1 : (k : Int) < 4 := by omega
    skip
    exact Rg.Does.val (v := .pointer (some ⟨b, k, none⟩)) (by simp [go_sem, execOp, Act.put, Act.eval]; omega) ⟨hI, Fr.refl _ _, b, k, rfl, by omega, hb, hblk⟩
   refine Rg.Each.cons (fun vals wr hI hφ => ?_) ?_
   ·change Rg.Does _ _ _ _ (fun v wz => (PK B M wz P /\ Fr [some P] w1 wz) /\ (Fr [some P] wr wz) /\ (∃ nm : PM.B, v = .string ⟨nm.toArray⟩ /\ OkN nm))
    have h8 := hφ 8 (by decide)
    clear hφ
    simp only [Rg.putsD, List.getD_cons_succ, List.getD_cons_zero]
    obtain ⟨b, k, eb, hk, hb, hblk⟩ := h8
    obtain ⟨nm, h1, h2⟩ := strs_get (L := [[110], [118], [107], [113]]) (by decide) (show k < 4 by omega)
    have hc : wr.cell? ⟨b, k, none⟩ = some (.string ⟨nm.toArray⟩) := (hblk.cell k).trans h2
    rw [eb]
    exact Rg.Does.val (v := .string ⟨nm.toArray⟩) (by simp [go_sem, execOp, Act.put, Act.eval, hc]) ⟨hI, Fr.refl _ _, nm, rfl, h1⟩
   refine Rg.Each.cons (fun vals wr hI hφ => ?_) ?_
   ·change Rg.Does _ _ _ _ (fun v wz => (PK B M wz P /\ Fr [some P] w1 wz) /\ (Fr [some P] wr wz) /\ (∃ t m : PM.B, v = .agg #[.int .i64 2, .string ⟨t.toArray⟩, .string ⟨m.toArray⟩, .slice none 0 0, .slice none 0 0, .slice none 0 0, .slice none 0 0, .string ⟨#[]⟩, .slice none 0 0, .slice none 0 0, .slice none 0 0, .bool false, .slice none 0 0] /\ OkN t /\ OkN m))
    have h4 := hφ 4 (by decide)
    have h9 := hφ 9 (by decide)
    clear hφ
    simp only [Rg.putsD, List.getD_cons_succ, List.getD_cons_zero]
    obtain ⟨t, et, ht⟩ := h4
    obtain ⟨m, em, hm⟩ := h9
    rw [et, em]
    exact Rg.Does.val (v := .agg #[.int .i64 2, .string ⟨t.toArray⟩, .string ⟨m.toArray⟩, .slice none 0 0, .slice none 0 0, .slice none 0 0, .slice none 0 0, .string ⟨#[]⟩, .slice none 0 0, .slice none 0 0, .slice none 0 0, .bool false, .slice none 0 0]) (by first | rfl | kernel_rfl) ⟨hI, Fr.refl _ _, t, m, rfl, ht, hm⟩
   refine Rg.Each.one (fun vals wr hI hφ => ?_)
   have h10 := hφ 10 (by decide)
   clear hφ
   obtain ⟨t, m, e10, ht, hm⟩ := h10
   rw [show List.range 11 = [0, 1, 2, 3, 4, 5, 6, 7, 8, 9, 10] from rfl]
   simp only [Rg.putsD, List.getD_cons_succ, List.getD_cons_zero]
   rw [e10]
   have HDf := Hd (HDs.out.call hI.1 hI.2)
   obtain ⟨q0, q1, q2, q3, q4, q5, q6, q7, q8, q9, q10, q11, q12, g0, g1, g2, g3, g4, g5, g6, g7, g8, g9, g10, g11, g12⟩ := c13_of HDf.out.r
   have hlb := HDf.out.r.lt
   refine Rg.Does.skip (w' := put13 wr w.heap.size (.int .i64 2) (.string ⟨t.toArray⟩) (.string ⟨m.toArray⟩) (.slice none 0 0) (.slice none 0 0) (.slice none 0 0) (.slice none 0 0) (.string ⟨#[]⟩) (.slice none 0 0) (.slice none 0 0) (.slice none 0 0) (.bool false) (.slice none 0 0)) (by unfold put13; simp [go_sem, execOp, Act.put, Act.eval, q0, q1, q2, q3, q4, q5, q6, q7, q8, q9, q10, q11, q12, g0, g1, g2, g3, g4, g5, g6, g7, g8, g9, g10, g11, g12]) ?_
   simp only [Act.put, List.setIfInBounds_toArray, List.set_cons_succ, List.set_cons_zero]
   have hfin := HDf.out.done (q := .index t m) (okS_idx ht hm) (.mk 2 t m [] [] [] [] [] [] [] [] false [] _ _ _ _ _ _ _ _ .nil .nil Rep.Es.nil .nil Rep.Es.nil Rep.Es.nil Rep.Es.nil SS.nil)
   have HFIN := Hd hfin
   have HBR := Hd (blkPut13 HDf.out.r (.int .i64 2) (.string ⟨t.toArray⟩) (.string ⟨m.toArray⟩) (.slice none 0 0) (.slice none 0 0) (.slice none 0 0) (.slice none 0 0) (.string ⟨#[]⟩) (.slice none 0 0) (.slice none 0 0) (.slice none 0 0) (.bool false) (.slice none 0 0))
   clear hfin HDf hI q0 q1 q2 q3 q4 q5 q6 q7 q8 q9 q10 q11 q12 g0 g1 g2 g3 g4 g5 g6 g7 g8 g9 g10 g11 g12
   generalize put13 wr w.heap.size (.int .i64 2) (.string ⟨t.toArray⟩) (.string ⟨m.toArray⟩) (.slice none 0 0) (.slice none 0 0) (.slice none 0 0) (.slice none 0 0) (.string ⟨#[]⟩) (.slice none 0 0) (.slice none 0 0) (.slice none 0 0) (.bool false) (.slice none 0 0) = wz at HFIN HBR ⊢
   go_wp2_with fail
   exact bodyPost_ret (ret_cell13 rfl _ w.heap.size rfl _ _ _ _ _ _ _ _ _ _ _ _ _ _ HBR.out) rfl HFIN.out
  case neg =>
   by_cases hr2 : (r : Int) = 2
   case pos =>
    go_wp2_with fail
    refine (schema_any w1).mono ?_
    rintro e w2 ⟨rfl, hs, hf⟩
    have HS3 := Hd (hs.keep ((Fr.refl [] w2).alloc (.cells #[.slice (some ⟨w1.heap.size + 4, 0, none⟩) 2 2, .slice none 0 0] 69)) (by simp))
    have HD3 := Hd ((HD1.out.call0 hf).alloc (.cells #[.slice (some ⟨w1.heap.size + 4, 0, none⟩) 2 2, .slice none 0 0] 69))
    have HSc := Hd (Blk.new w2 69 [.slice (some ⟨w1.heap.size + 4, 0, none⟩) 2 2, .slice none 0 0])
    have hls := hs.l.lt
    have hs2 := hf.size
    have hs3 : w2.heap.size < (w2.alloc (.cells #[.slice (some ⟨w1.heap.size + 4, 0, none⟩) 2 2, .slice none 0 0] 69)).heap.size := by simp
    clear hs hf
    go_upto_region 16 with fail
    generalize w2.alloc (.cells #[.slice (some ⟨w1.heap.size + 4, 0, none⟩) 2 2, .slice none 0 0] 69) = w3 at HS3 HD3 HSc hs3 ⊢
    have HDs := HD3
    have hPw := HD3.out.d.lt
    have hlt3 := HD3.out.lt
    clear HD1
    have HIS : PK B M w3.drew P /\ Fr [some P] w3 w3.drew := ⟨HD3.out.d.pk.drew, Fr.drew (Fr.refl _ _)⟩
    refine Rg.wp_region [[], [0], [], [2], [], [], [], [6], [], [8], [7, 9], [10], [4, 5, 11], [12], [1, 3, 13], [14]] [some 72, some 73, some 74, some 75, some 76, some 77, some 78, some 79, some 80, some 81, some 82, some 83, some 84, some 85, some 86, none] 15 (fun j v wz => match j with | 0 => v = .pointer (some ⟨P, 0, none⟩) | 1 => ∃ nm : PM.B, v = .string ⟨nm.toArray⟩ /\ OkN nm | 2 => v = .pointer (some ⟨P, 0, none⟩) | 3 => ∃ (tl : List Nat) (a4 : Option Addr) (l4 c4 : Nat), v = .slice a4 l4 c4 /\ (tl.length <= 3 /\ ∀ t ∈ tl, t <= 3) /\ TagS (fun g => w.heap.size < g) wz (.slice a4 l4 c4) (tl.map CM.tagI) | 4 => v = .pointer (some ⟨P, 0, none⟩) | 5 => v = .agg #[.slice (some ⟨w1.heap.size + 4, 0, none⟩) 2 2, .slice none 0 0] | 6 => v = .pointer (some ⟨w2.heap.size, 0, none⟩) | 7 => v = .slice (some ⟨w1.heap.size + 4, 0, none⟩) 2 2 | 8 => v = .pointer (some ⟨P, 0, none⟩) | 9 => ∃ rr : Nat, v = .int .i64 rr /\ rr < 2 | 10 => ∃ k : Nat, v = .pointer (some ⟨w1.heap.size + 4, k * 3, none⟩) /\ k < 2 | 11 => ∃ k : Nat, v = .agg (tabV w1.heap.size k).toArray /\ k < 2 | 12 => ∃ (s : Sel) (cs : List Value), v = .agg cs.toArray /\ OkS (.select s) /\ SR (fun g => w.heap.size < g) wz s.st cs | 13 => ∃ (s : Sel) (a12 : Option Addr) (l12 c12 : Nat), v = .slice a12 l12 c12 /\ OkS (.select s) /\ SS (fun g => w.heap.size < g) wz [s.st] (.slice a12 l12 c12) | 14 => ∃ (nm : PM.B) (tl : List Nat) (s : Sel) (a4 : Option Addr) (l4 c4 : Nat) (a12 : Option Addr) (l12 c12 : Nat), v = .agg #[.int .i64 3, .string ⟨#[]⟩, .string ⟨nm.toArray⟩, .slice none 0 0, .slice a4 l4 c4, .slice none 0 0, .slice none 0 0, .string ⟨#[]⟩, .slice none 0 0, .slice none 0 0, .slice none 0 0, .bool false, .slice a12 l12 c12] /\ OkN nm /\ (tl.length <= 3 /\ ∀ t ∈ tl, t <= 3) /\ OkS (.select s) /\ TagS (fun g => w.heap.size < g) wz (.slice a4 l4 c4) (tl.map CM.tagI) /\ SS (fun g => w.heap.size < g) wz [s.st] (.slice a12 l12 c12) | _ => True) (fun wz => PK B M wz P /\ Fr [some P] w3 wz) (fun wz wz' => Fr [some P] wz wz') (by kernel_rfl) (by kernel_rfl) (by kernel_rfl) (by kernel_rfl) HIS ?_ ?_
    ·intro j hj v wz wz' hR
     match j, hj with
     |0, _ => exact fun h => h
     |1, _ => exact fun h => h
     |2, _ => exact fun h => h
     |3, _ =>
      rintro ⟨tl, a, l, c, e, h1, h⟩
      exact ⟨tl, a, l, c, e, h1, h.keep hR (fun g hg => by simp; omega)⟩
     |4, _ => exact fun h => h
     |5, _ => exact fun h => h
     |6, _ => exact fun h => h
     |7, _ => exact fun h => h
     |8, _ => exact fun h => h
     |9, _ => exact fun h => h
     |10, _ => exact fun h => h
     |11, _ => exact fun h => h
     |12, _ =>
      rintro ⟨s, cs, e, h1, h⟩
      exact ⟨s, cs, e, h1, h.keep hR (fun g hg => by simp; omega)⟩
     |13, _ =>
      rintro ⟨s, a, l, c, e, h1, h⟩
      exact ⟨s, a, l, c, e, h1, h.keep hR (fun g hg => by simp; omega)⟩
     |14, _ =>
      rintro ⟨nm, tl, s, a, l, c, b, m, d, e, h1, h2, h3, h4, h5⟩
      exact ⟨nm, tl, s, a, l, c, b, m, d, e, h1, h2, h3, h4.keep hR (fun g hg => by simp; omega), h5.keep hR (fun g hg => by simp; omega)⟩
     |j + 15, hj => exact absurd hj (by omega)
    refine Rg.Each.cons (fun vals wr hI hφ => ?_) ?_
    ·change Rg.Does _ _ _ _ (fun v wz => (PK B M wz P /\ Fr [some P] w3 wz) /\ (Fr [some P] wr wz) /\ (v = .pointer (some ⟨P, 0, none⟩)))
     clear hφ
     simp only [Rg.putsD, List.getD_cons_succ, List.getD_cons_zero]
     exact Rg.Does.val (v := .pointer (some ⟨P, 0, none⟩)) (by first | rfl | kernel_rfl) ⟨hI, Fr.refl _ _, rfl⟩
    refine Rg.Each.cons (fun vals wr hI hφ => ?_) ?_
    ·change Rg.Does _ _ _ _ (fun v wz => (PK B M wz P /\ Fr [some P] w3 wz) /\ (Fr [some P] wr wz) /\ (∃ nm : PM.B, v = .string ⟨nm.toArray⟩ /\ OkN nm))
     have h0 : _ = _ := hφ 0 (by decide)
     clear hφ
     simp only [Rg.putsD, List.getD_cons_succ, List.getD_cons_zero]
     rw [h0]
     refine Rg.Does.call (by kernel_rfl) (view_any P wr hI.1) ?_
     rintro e wx ⟨nm, rfl, hnm, hk, hf⟩
     exact ⟨_, rfl, ⟨hk, hI.2.trans hf⟩, hf, nm, rfl, hnm⟩
    refine Rg.Each.cons (fun vals wr hI hφ => ?_) ?_
    ·change Rg.Does _ _ _ _ (fun v wz => (PK B M wz P /\ Fr [some P] w3 wz) /\ (Fr [some P] wr wz) /\ (v = .pointer (some ⟨P, 0, none⟩)))
     clear hφ
     simp only [Rg.putsD, List.getD_cons_succ, List.getD_cons_zero]
     exact Rg.Does.val (v := .pointer (some ⟨P, 0, none⟩)) (by first | rfl | kernel_rfl) ⟨hI, Fr.refl _ _, rfl⟩
    refine Rg.Each.cons (fun vals wr hI hφ => ?_) ?_
    ·change Rg.Does _ _ _ _ (fun v wz => (PK B M wz P /\ Fr [some P] w3 wz) /\ (Fr [some P] wr wz) /\ (∃ (tl : List Nat) (a4 : Option Addr) (l4 c4 : Nat), v = .slice a4 l4 c4 /\ (tl.length <= 3 /\ ∀ t ∈ tl, t <= 3) /\ TagS (fun g => w.heap.size < g) wz (.slice a4 l4 c4) (tl.map CM.tagI)))
     have h2 : _ = _ := hφ 2 (by decide)
     clear hφ
     simp only [Rg.putsD, List.getD_cons_succ, List.getD_cons_zero]
     rw [h2]
     have hs0 := hI.2.size
     refine Rg.Does.call (by kernel_rfl) (tags_gen P wr hI.1) ?_
     rintro e wx ⟨tl, v, rfl, htl, ht3, hg, hk, hf⟩
     obtain ⟨a4, c4, rfl⟩ := hg.form
     exact ⟨_, rfl, ⟨hk, hI.2.trans hf⟩, hf, tl, a4, _, c4, rfl, ⟨by omega, ht3⟩, hg.flat.mono (fun g hg => by omega)⟩
    refine Rg.Each.cons (fun vals wr hI hφ => ?_) ?_
    ·change Rg.Does _ _ _ _ (fun v wz => (PK B M wz P /\ Fr [some P] w3 wz) /\ (Fr [some P] wr wz) /\ (v = .pointer (some ⟨P, 0, none⟩)))
     clear hφ
     simp only [Rg.putsD, List.getD_cons_succ, List.getD_cons_zero]
     exact Rg.Does.val (v := .pointer (some ⟨P, 0, none⟩)) (by first | rfl | kernel_rfl) ⟨hI, Fr.refl _ _, rfl⟩
    refine Rg.Each.cons (fun vals wr hI hφ => ?_) ?_
    ·change Rg.Does _ _ _ _ (fun v wz => (PK B M wz P /\ Fr [some P] w3 wz) /\ (Fr [some P] wr wz) /\ (v = .agg #[.slice (some ⟨w1.heap.size + 4, 0, none⟩) 2 2, .slice none 0 0]))
     clear hφ
     simp only [Rg.putsD, List.getD_cons_succ, List.getD_cons_zero]
     have hsc := HSc.out.keep hI.2 (by simp; omega)
     have c0 := hsc.cell 0
     have c1 := hsc.cell 1
     simp only [List.getElem?_cons_zero, List.getElem?_cons_succ] at c0 c1
     exact Rg.Does.val (v := .agg #[.slice (some ⟨w1.heap.size + 4, 0, none⟩) 2 2, .slice none 0 0]) (by simp [go_sem, execOp, Act.put, Act.eval, c0, c1]) ⟨hI, Fr.refl _ _, rfl⟩
    refine Rg.Each.cons (fun vals wr hI hφ => ?_) ?_
    ·change Rg.Does _ _ _ _ (fun v wz => (PK B M wz P /\ Fr [some P] w3 wz) /\ (Fr [some P] wr wz) /\ (v = .pointer (some ⟨w2.heap.size, 0, none⟩)))
     clear hφ
     simp only [Rg.putsD, List.getD_cons_succ, List.getD_cons_zero]
     exact Rg.Does.val (v := .pointer (some ⟨w2.heap.size, 0, none⟩)) (by first | rfl | kernel_rfl | simp [go_sem, execOp, Act.eval]) ⟨hI, Fr.refl _ _, rfl⟩
    refine Rg.Each.cons (fun vals wr hI hφ => ?_) ?_
    ·change Rg.Does _ _ _ _ (fun v wz => (PK B M wz P /\ Fr [some P] w3 wz) /\ (Fr [some P] wr wz) /\ (v = .slice (some ⟨w1.heap.size + 4, 0, none⟩) 2 2))
     have h6 : _ = _ := hφ 6 (by decide)
     clear hφ
     simp only [Rg.putsD, List.getD_cons_succ, List.getD_cons_zero]
     have hsc := HSc.out.keep hI.2 (by simp; omega)
     have c0 := hsc.cell 0
     simp only [List.getElem?_cons_zero, List.getElem?_cons_succ] at c0
     rw [h6]
     exact Rg.Does.val (v := .slice (some ⟨w1.heap.size + 4, 0, none⟩) 2 2) (by simp [go_sem, execOp, Act.put, Act.eval, c0]) ⟨hI, Fr.refl _ _, rfl⟩
    refine Rg.Each.cons (fun vals wr hI hφ => ?_) ?_
    ·change Rg.Does _ _ _ _ (fun v wz => (PK B M wz P /\ Fr [some P] w3 wz) /\ (Fr [some P] wr wz) /\ (v = .pointer (some ⟨P, 0, none⟩)))
     clear hφ
     simp only [Rg.putsD, List.getD_cons_succ, List.getD_cons_zero]
     exact Rg.Does.val (v := .pointer (some ⟨P, 0, none⟩)) (by first | rfl | kernel_rfl) ⟨hI, Fr.refl _ _, rfl⟩
    refine Rg.Each.cons (fun vals wr hI hφ => ?_) ?_
    ·change Rg.Does _ _ _ _ (fun v wz => (PK B M wz P /\ Fr [some P] w3 wz) /\ (Fr [some P] wr wz) /\ (∃ rr : Nat, v = .int .i64 rr /\ rr < 2))
     have h8 : _ = _ := hφ 8 (by decide)
     clear hφ
     simp only [Rg.putsD, List.getD_cons_succ, List.getD_cons_zero]
     rw [h8]
     refine Rg.Does.call (by kernel_rfl) (num_any P 2 (by decide) (by decide) wr hI.1) ?_
     rintro e wx ⟨rr, rfl, hrr, hk, hf⟩
     exact ⟨_, rfl, ⟨hk, hI.2.trans hf⟩, hf, rr, rfl, by omega⟩
    refine Rg.Each.cons (fun vals wr hI hφ => ?_) ?_
    ·change Rg.Does _ _ _ _ (fun v wz => (PK B M wz P /\ Fr [some P] w3 wz) /\ (Fr [some P] wr wz) /\ (∃ k : Nat, v = .pointer (some ⟨w1.heap.size + 4, k * 3, none⟩) /\ k < 2))
     have h7 : _ = _ := hφ 7 (by decide)
     have h9 := hφ 9 (by decide)
     clear hφ
     simp only [Rg.putsD, List.getD_cons_succ, List.getD_cons_zero]
     obtain ⟨k, ek, hk⟩ := h9
     rw [h7, ek]
     have hk0 : (0 : Int) <= k := by omega
     exact Rg.Does.val (v := .pointer (some ⟨w1.heap.size + 4, k * 3, none⟩)) (by simp [go_sem, execOp, Act.put, Act.eval]; omega) ⟨hI, Fr.refl _ _, k, rfl, hk⟩
    refine Rg.Each.cons (fun vals wr hI hφ => ?_) ?_
    ·change Rg.Does _ _ _ _ (fun v wz => (PK B M wz P /\ Fr [some P] w3 wz) /\ (Fr [some P] wr wz) /\ (∃ k : Nat, v = .agg (tabV w1.heap.size k).toArray /\ k < 2))
     have h10 := hφ 10 (by decide)
     clear hφ
     simp only [Rg.putsD, List.getD_cons_succ, List.getD_cons_zero]
     obtain ⟨k, ek, hk⟩ := h10
     rw [ek]
     obtain ⟨x, a1, a2, l1, c1, l2, c2, hx, t0, t1, t2⟩ := tab_at (HS3.out.keep hI.2 (fun g hg => by simp at hg; omega)) hk
     exact Rg.Does.val (v := .agg (tabV w1.heap.size k).toArray) (by rw [hx]; simp [go_sem, execOp, Act.put, Act.eval, t0, t1, t2]) ⟨hI, Fr.refl _ _, k, rfl, hk⟩
    refine Rg.Each.cons (fun vals wr hI hφ => ?_) ?_
    ·change Rg.Does _ _ _ _ (fun v wz => (PK B M wz P /\ Fr [some P] w3 wz) /\ (Fr [some P] wr wz) /\ (∃ (s : Sel) (cs : List Value), v = .agg cs.toArray /\ OkS (.select s) /\ SR (fun g => w.heap.size < g) wz s.st cs))
     have h4 : _ = _ := hφ 4 (by decide)
     have h5 : _ = _ := hφ 5 (by decide)
     have h11 := hφ 11 (by decide)
     clear hφ
     simp only [Rg.putsD, List.getD_cons_succ, List.getD_cons_zero]
     obtain ⟨k, ek, hk⟩ := h11
     rw [h4, h5, ek]
     have hs0 := hI.2.size
     refine Rg.Does.call (by kernel_rfl) (selected_any hk P (by omega) wr hI.1 (HS3.out.keep hI.2 (fun g hg => by simp at hg; omega))) ?_
     rintro e wx ⟨⟨s, hok, cs, rfl, hsr⟩, hk', hf⟩
     exact ⟨_, rfl, ⟨hk', hI.2.trans hf⟩, hf, s, cs, rfl, hok, hsr.mono (fun g hg => by omega)⟩
    refine Rg.Each.cons (fun vals wr hI hφ => ?_) ?_
    ·change Rg.Does _ _ _ _ (fun v wz => (PK B M wz P /\ Fr [some P] w3 wz) /\ (Fr [some P] wr wz) /\ (∃ (s : Sel) (a12 : Option Addr) (l12 c12 : Nat), v = .slice a12 l12 c12 /\ OkS (.select s) /\ SS (fun g => w.heap.size < g) wz [s.st] (.slice a12 l12 c12)))
     have h12 := hφ 12 (by decide)
     clear hφ
     simp only [Rg.putsD, List.getD_cons_succ, List.getD_cons_zero]
     obtain ⟨s, cs, ec, hok, hsr⟩ := h12
     have hs0 := hI.2.size
     have hss := ss_one hsr (by omega)
     obtain ⟨c, rfl⟩ := Px.sr_cells hsr
     obtain ⟨kind, table, name, join, a3, a4, a5, a6, a8, a9, a10, a12, l3, l4, l5, l6, l8, l9, l10, l12, c3, c4, c5, c6, c8, c9, c10, c12, desc⟩ := c
     rw [ec]
     simp only [Px.Cells13.list] at hss ⊢
     exact Rg.Does.val (v := .slice (some ⟨wr.heap.size, 0, none⟩) 1 1) (w' := wr.alloc (.cells #[.int .i64 kind, .string ⟨table.toArray⟩, .string ⟨name.toArray⟩, .slice a3 l3 c3, .slice a4 l4 c4, .slice a5 l5 c5, .slice a6 l6 c6, .string ⟨join.toArray⟩, .slice a8 l8 c8, .slice a9 l9 c9, .slice a10 l10 c10, .bool desc, .slice a12 l12 c12] 29)) (by first | simp [go_sem, execOp, Act.put, Act.eval] | kernel_rfl) ⟨⟨hI.1.alloc _, hI.2.alloc _⟩, (Fr.refl _ _).alloc _, s, _, _, _, rfl, hok, hss⟩
    refine Rg.Each.cons (fun vals wr hI hφ => ?_) ?_
    ·change Rg.Does _ _ _ _ (fun v wz => (PK B M wz P /\ Fr [some P] w3 wz) /\ (Fr [some P] wr wz) /\ (∃ (nm : PM.B) (tl : List Nat) (s : Sel) (a4 : Option Addr) (l4 c4 : Nat) (a12 : Option Addr) (l12 c12 : Nat), v = .agg #[.int .i64 3, .string ⟨#[]⟩, .string ⟨nm.toArray⟩, .slice none 0 0, .slice a4 l4 c4, .slice none 0 0, .slice none 0 0, .string ⟨#[]⟩, .slice none 0 0, .slice none 0 0, .slice none 0 0, .bool false, .slice a12 l12 c12] /\ OkN nm /\ (tl.length <= 3 /\ ∀ t ∈ tl, t <= 3) /\ OkS (.select s) /\ TagS (fun g => w.heap.size < g) wz (.slice a4 l4 c4) (tl.map CM.tagI) /\ SS (fun g => w.heap.size < g) wz [s.st] (.slice a12 l12 c12)))
     have h1 := hφ 1 (by decide)
     have h3 := hφ 3 (by decide)
     have h13 := hφ 13 (by decide)
     clear hφ
     simp only [Rg.putsD, List.getD_cons_succ, List.getD_cons_zero]
     obtain ⟨nm, en, hn⟩ := h1
     obtain ⟨tl, a4, l4, c4, et, htl, htg⟩ := h3
     obtain ⟨s, a12, l12, c12, es, hok, hss⟩ := h13
     rw [en, et, es]
     exact Rg.Does.val (v := .agg #[.int .i64 3, .string ⟨#[]⟩, .string ⟨nm.toArray⟩, .slice none 0 0, .slice a4 l4 c4, .slice none 0 0, .slice none 0 0, .string ⟨#[]⟩, .slice none 0 0, .slice none 0 0, .slice none 0 0, .bool false, .slice a12 l12 c12]) (by first | rfl | kernel_rfl) ⟨hI, Fr.refl _ _, nm, tl, s, a4, l4, c4, a12, l12, c12, rfl, hn, htl, hok, htg, hss⟩
    refine Rg.Each.one (fun vals wr hI hφ => ?_)
    have h14 := hφ 14 (by decide)
    clear hφ
    obtain ⟨nm, tl, s, a4, l4, c4, a12, l12, c12, e14, hn, htl, hok, htg, hss⟩ := h14
    rw [show List.range 15 = [0, 1, 2, 3, 4, 5, 6, 7, 8, 9, 10, 11, 12, 13, 14] from rfl]
    simp only [Rg.putsD, List.getD_cons_succ, List.getD_cons_zero]
    rw [e14]
    have HDf := Hd (HDs.out.call hI.1 hI.2)
    obtain ⟨q0, q1, q2, q3, q4, q5, q6, q7, q8, q9, q10, q11, q12, g0, g1, g2, g3, g4, g5, g6, g7, g8, g9, g10, g11, g12⟩ := c13_of HDf.out.r
    have hlb := HDf.out.r.lt
    refine Rg.Does.skip (w' := put13 wr w.heap.size (.int .i64 3) (.string ⟨#[]⟩) (.string ⟨nm.toArray⟩) (.slice none 0 0) (.slice a4 l4 c4) (.slice none 0 0) (.slice none 0 0) (.string ⟨#[]⟩) (.slice none 0 0) (.slice none 0 0) (.slice none 0 0) (.bool false) (.slice a12 l12 c12)) (by unfold put13; simp [go_sem, execOp, Act.put, Act.eval, q0, q1, q2, q3, q4, q5, q6, q7, q8, q9, q10, q11, q12, g0, g1, g2, g3, g4, g5, g6, g7, g8, g9, g10, g11, g12]) ?_
    simp only [Act.put, List.setIfInBounds_toArray, List.set_cons_succ, List.set_cons_zero]
    have hfin := HDf.out.done (q := .view nm tl s) (okS_view hn htl.2 htl.1 hok) (.mk 3 [] nm [] (tl.map CM.tagI) [] [] [] [] [] [] false [s.st] _ _ _ _ _ _ _ _ .nil htg Rep.Es.nil .nil Rep.Es.nil Rep.Es.nil Rep.Es.nil hss)
    have HFIN := Hd hfin
    have HBR := Hd (blkPut13 HDf.out.r (.int .i64 3) (.string ⟨#[]⟩) (.string ⟨nm.toArray⟩) (.slice none 0 0) (.slice a4 l4 c4) (.slice none 0 0) (.slice none 0 0) (.string ⟨#[]⟩) (.slice none 0 0) (.slice none 0 0) (.slice none 0 0) (.bool false) (.slice a12 l12 c12))
    clear hfin HDf hI q0 q1 q2 q3 q4 q5 q6 q7 q8 q9 q10 q11 q12 g0 g1 g2 g3 g4 g5 g6 g7 g8 g9 g10 g11 g12
    generalize put13 wr w.heap.size (.int .i64 3) (.string ⟨#[]⟩) (.string ⟨nm.toArray⟩) (.slice none 0 0) (.slice a4 l4 c4) (.slice none 0 0) (.slice none 0 0) (.string ⟨#[]⟩) (.slice none 0 0) (.slice none 0 0) (.slice none 0 0) (.bool false) (.slice a12 l12 c12) = wz at HFIN HBR ⊢
    go_wp2_with fail
    exact bodyPost_ret (ret_cell13 rfl _ w.heap.size rfl _ _ _ _ _ _ _ _ _ _ _ _ _ _ HBR.out) rfl HFIN.out
   case neg =>
    by_cases hr3 : (r : Int) = 3
    case pos =>
     go_wp2_with fail
     refine (data_any P w1 HD1.out.d.pk).mono ?_
     rintro e w2 ⟨⟨q, hok, hdq, hst⟩, hk, hf⟩
     obtain ⟨kind, table, name, join, a3, a4, a5, a6, a8, a9, a10, a12, l3, l4, l5, l6, l8, l9, l10, l12, c3, c4, c5, c6, c8, c9, c10, c12, desc, rfl, hsr⟩ := Px.st_cells hst
     have HD3 := Hd ((HD1.out.call (hk.weak (Nat.sub_le _ _)) hf).alloc (.cells #[.int .i64 kind, .string ⟨table.toArray⟩, .string ⟨name.toArray⟩, .slice a3 l3 c3, .slice a4 l4 c4, .slice a5 l5 c5, .slice a6 l6 c6, .string ⟨join.toArray⟩, .slice a8 l8 c8, .slice a9 l9 c9, .slice a10 l10 c10, .bool desc, .slice a12 l12 c12] 29))
     have HSt3 := Hd (Blk.new w2 29 [.int .i64 kind, .string ⟨table.toArray⟩, .string ⟨name.toArray⟩, .slice a3 l3 c3, .slice a4 l4 c4, .slice a5 l5 c5, .slice a6 l6 c6, .string ⟨join.toArray⟩, .slice a8 l8 c8, .slice a9 l9 c9, .slice a10 l10 c10, .bool desc, .slice a12 l12 c12])
     have HSR3 := Hd ((SR_live hsr).mono (A' := fun g => w.heap.size < g /\ g ≠ w2.heap.size) (fun g hg => ⟨by omega, by omega⟩))
     have HSR3 := Hd (HSR3.out.keep ((Fr.refl [] w2).alloc (.cells #[.int .i64 kind, .string ⟨table.toArray⟩, .string ⟨name.toArray⟩, .slice a3 l3 c3, .slice a4 l4 c4, .slice a5 l5 c5, .slice a6 l6 c6, .string ⟨join.toArray⟩, .slice a8 l8 c8, .slice a9 l9 c9, .slice a10 l10 c10, .bool desc, .slice a12 l12 c12] 29)) (by simp))
     have hs2 := hf.size
     have hs3 : w2.heap.size < (w2.alloc (.cells #[.int .i64 kind, .string ⟨table.toArray⟩, .string ⟨name.toArray⟩, .slice a3 l3 c3, .slice a4 l4 c4, .slice a5 l5 c5, .slice a6 l6 c6, .string ⟨join.toArray⟩, .slice a8 l8 c8, .slice a9 l9 c9, .slice a10 l10 c10, .bool desc, .slice a12 l12 c12] 29)).heap.size := by simp
     have HOK := Hd hok
     have HIQ := Hd hdq
     clear hst hsr hok hdq hk hf
     go_wp2_with fail
     generalize w2.alloc (.cells #[.int .i64 kind, .string ⟨table.toArray⟩, .string ⟨name.toArray⟩, .slice a3 l3 c3, .slice a4 l4 c4, .slice a5 l5 c5, .slice a6 l6 c6, .string ⟨join.toArray⟩, .slice a8 l8 c8, .slice a9 l9 c9, .slice a10 l10 c10, .bool desc, .slice a12 l12 c12] 29) = w3 at HD3 HSt3 HSR3 hs3 ⊢
     go_loopw [] (fun wr => ∃ (q : Qs) (kind : Int) (table name join : PM.B) (a3 a4 a5 a6 a8 a9 a10 a12 : Option Addr) (l3 l4 l5 l6 l8 l9 l10 l12 c3 c4 c5 c6 c8 c9 c10 c12 : Nat) (desc : Bool), Hid (OkS q) /\ Hid (IsD q) /\ Hid (Blk wr w2.heap.size 29 [.int .i64 kind, .string ⟨table.toArray⟩, .string ⟨name.toArray⟩, .slice a3 l3 c3, .slice a4 l4 c4, .slice a5 l5 c5, .slice a6 l6 c6, .string ⟨join.toArray⟩, .slice a8 l8 c8, .slice a9 l9 c9, .slice a10 l10 c10, .bool desc, .slice a12 l12 c12]) /\ Hid (SR (fun g => w.heap.size < g /\ g ≠ w2.heap.size) wr q.st [.int .i64 kind, .string ⟨table.toArray⟩, .string ⟨name.toArray⟩, .slice a3 l3 c3, .slice a4 l4 c4, .slice a5 l5 c5, .slice a6 l6 c6, .string ⟨join.toArray⟩, .slice a8 l8 c8, .slice a9 l9 c9, .slice a10 l10 c10, .bool desc, .slice a12 l12 c12]) /\ Hid (Ds B M P w wr) /\ w2.heap.size < wr.heap.size) (fun wr => meaC P w2.heap.size wr)
     case atStart => exact ⟨q, kind, table, name, join, a3, a4, a5, a6, a8, a9, a10, a12, l3, l4, l5, l6, l8, l9, l10, l12, c3, c4, c5, c6, c8, c9, c10, c12, desc, HOK, HIQ, HSt3, HSR3, HD3, hs3⟩
     case round =>
      clear HOK HIQ HSt3 HSR3 HD3
      obtain ⟨q, kind, table, name, join, a3, a4, a5, a6, a8, a9, a10, a12, l3, l4, l5, l6, l8, l9, l10, l12, c3, c4, c5, c6, c8, c9, c10, c12, desc, HOK, HIQ, HSt, HSR, HDr, hsr⟩ := hrel
      obtain ⟨k0, k1, k2, k3, k4, k5, k6, k7, k8, k9, k10, k11, k12, f0, f1, f2, f3, f4, f5, f6, f7, f8, f9, f10, f11, f12⟩ := c13_of HSt.out
      have hlS := HSt.out.lt
      have hPw := HDr.out.d.lt
      by_cases h6 : kind = 6
      ·subst h6
       have HM := Hd (meaC_6 (P := P) k0)
       go_wp2_with fail
       refine (over_any P wr HDr.out.d.pk.self).mono ?_
       rintro e w4 ⟨bo, rfl, hbo, hk, hf⟩
       have HD4 := Hd (HDr.out.call0 hf)
       have HSt4 := Hd (HSt.out.keep hf (by simp))
       have hs4 := hf.size
       have HK4 := Hd hk
       have HBO := Hd hbo
       clear hk hf hbo k0 k1 k2 k3 k4 k5 k6 k7 k8 k9 k10 k11 k12 f0 f1 f2 f3 f4 f5 f6 f7 f8 f9 f10 f11 f12
       obtain ⟨k0, k1, k2, k3, k4, k5, k6, k7, k8, k9, k10, k11, k12, f0, f1, f2, f3, f4, f5, f6, f7, f8, f9, f10, f11, f12⟩ := c13_of HSt4.out
       have hl4 := HSt4.out.lt
       cases bo
       ·go_wp2_with fail
        refine (data_any (M := left wr P) P w4 HK4.out).mono ?_
        rintro e w5 ⟨⟨q', hok, hdq, hst⟩, hk, hf⟩
        obtain ⟨kind', table', name', join', a3', a4', a5', a6', a8', a9', a10', a12', l3', l4', l5', l6', l8', l9', l10', l12', c3', c4', c5', c6', c8', c9', c10', c12', desc', rfl, hsr5⟩ := Px.st_cells hst
        have HSR5 := Hd (hsr5.mono (A' := fun g => w.heap.size < g /\ g ≠ w2.heap.size) (fun g hg => ⟨by omega, by omega⟩))
        have HOK5 := Hd hok
        have HIQ5 := Hd hdq
        have HSt5 := Hd (HSt4.out.keep hf (by simp; omega))
        have hs5 := hf.size
        have HK5 := Hd hk
        have HD5 := Hd (HD4.out.call (hk.weak (Nat.le_trans (Nat.sub_le _ _) HDr.out.d.pk.left_le)) hf)
        clear hst hsr5 hok hdq hk hf k0 k1 k2 k3 k4 k5 k6 k7 k8 k9 k10 k11 k12 f0 f1 f2 f3 f4 f5 f6 f7 f8 f9 f10 f11 f12 hl4
        obtain ⟨k0, k1, k2, k3, k4, k5, k6, k7, k8, k9, k10, k11, k12, f0, f1, f2, f3, f4, f5, f6, f7, f8, f9, f10, f11, f12⟩ := c13_of HSt5.out
        have hl5 := HSt5.out.lt
        have hff := frPut13 (T := w2.heap.size) (Fr.refl [some w2.heap.size] w5) (.inl (by simp)) (.int .i64 kind') (.string ⟨table'.toArray⟩) (.string ⟨name'.toArray⟩) (.slice a3' l3' c3') (.slice a4' l4' c4') (.slice a5' l5' c5') (.slice a6' l6' c6') (.string ⟨join'.toArray⟩) (.slice a8' l8' c8') (.slice a9' l9' c9') (.slice a10' l10' c10') (.bool desc') (.slice a12' l12' c12')
        have HD6 := Hd (HD5.out.own hff (fun g hg => by cases hg; omega))
        have HSt6 := Hd (blkPut13 HSt5.out (.int .i64 kind') (.string ⟨table'.toArray⟩) (.string ⟨name'.toArray⟩) (.slice a3' l3' c3') (.slice a4' l4' c4') (.slice a5' l5' c5') (.slice a6' l6' c6') (.string ⟨join'.toArray⟩) (.slice a8' l8' c8') (.slice a9' l9' c9') (.slice a10' l10' c10') (.bool desc') (.slice a12' l12' c12'))
        have HSR6 := Hd (HSR5.out.keep hff (fun g hg => by simp; exact hg.2))
        have HK6 := Hd (HK5.out.keep hff (fun g hg => by have := HDr.out.d.le; simp at hg; omega))
        have hs6 := hff.size
        have HPS := Hd (HBO.out (by trivial))
        have HLZ := Hd (show w2.heap.size < (put13 w5 w2.heap.size (.int .i64 kind') (.string ⟨table'.toArray⟩) (.string ⟨name'.toArray⟩) (.slice a3' l3' c3') (.slice a4' l4' c4') (.slice a5' l5' c5') (.slice a6' l6' c6') (.string ⟨join'.toArray⟩) (.slice a8' l8' c8') (.slice a9' l9' c9') (.slice a10' l10' c10') (.bool desc') (.slice a12' l12' c12')).heap.size by omega)
        clear hff
        go_wp2_with fail
        go_roundw
        case rel => exact ⟨q', kind', table', name', join', a3', a4', a5', a6', a8', a9', a10', a12', l3', l4', l5', l6', l8', l9', l10', l12', c3', c4', c5', c6', c8', c9', c10', c12', desc', HOK5, HIQ5, HSt6, HSR6, HD6, HLZ.out⟩
        case measure =>
         rw [HM.out]
         have h1 := HK6.out.left_le
         have h2 := HPS.out
         have h3 := meaC_le P w2.heap.size (put13 w5 w2.heap.size (.int .i64 kind') (.string ⟨table'.toArray⟩) (.string ⟨name'.toArray⟩) (.slice a3' l3' c3') (.slice a4' l4' c4') (.slice a5' l5' c5') (.slice a6' l6' c6') (.string ⟨join'.toArray⟩) (.slice a8' l8' c8') (.slice a9' l9' c9') (.slice a10' l10' c10') (.bool desc') (.slice a12' l12' c12'))
         refine Nat.lt_of_le_of_lt h3 ?_
         omega
       ·have hnn : True := trivial
        have hff := frPut13 (T := w2.heap.size) (Fr.refl [some w2.heap.size] w4) (.inl (by simp)) (.int .i64 8) (.string ⟨#[117]⟩) (.string ⟨#[]⟩) (.slice none 0 0) (.slice none 0 0) (.slice none 0 0) (.slice none 0 0) (.string ⟨#[]⟩) (.slice none 0 0) (.slice none 0 0) (.slice none 0 0) (.bool false) (.slice none 0 0)
        have HD6 := Hd (HD4.out.own hff (fun g hg => by cases hg; omega))
        have HSt6 := Hd (blkPut13 HSt4.out (.int .i64 8) (.string ⟨#[117]⟩) (.string ⟨#[]⟩) (.slice none 0 0) (.slice none 0 0) (.slice none 0 0) (.slice none 0 0) (.string ⟨#[]⟩) (.slice none 0 0) (.slice none 0 0) (.slice none 0 0) (.bool false) (.slice none 0 0))
        have HK6 := Hd (HK4.out.keep hff (fun g hg => by have := HDr.out.d.le; simp at hg; omega))
        have hs6 := hff.size
        have HLZ := Hd (show w2.heap.size < (put13 w4 w2.heap.size (.int .i64 8) (.string ⟨#[117]⟩) (.string ⟨#[]⟩) (.slice none 0 0) (.slice none 0 0) (.slice none 0 0) (.slice none 0 0) (.string ⟨#[]⟩) (.slice none 0 0) (.slice none 0 0) (.slice none 0 0) (.bool false) (.slice none 0 0)).heap.size by omega)
        clear hff
        go_wp2_with fail
        go_roundw
        case rel => exact ⟨.write (.delete [117] none), 8, [117], [], [], none, none, none, none, none, none, none, none, 0, 0, 0, 0, 0, 0, 0, 0, 0, 0, 0, 0, 0, 0, 0, 0, false, Hd (okS_del (tname_ok 1) (fun p hp => by cases hp)), Hd (.inr ⟨_, rfl⟩), HSt6, Hd (.mk 8 [117] [] [] [] [] [] [] [] [] [] false [] _ _ _ _ _ _ _ _ .nil .nil Rep.Es.nil .nil Rep.Es.nil Rep.Es.nil Rep.Es.nil SS.nil), HD6, HLZ.out⟩
        case measure =>
         rw [HM.out]
         have h1 := HK6.out.left_le
         have h3 := meaC_8 (P := P) (HSt6.out.cell 0)
         refine Nat.lt_of_le_of_lt (Nat.le_of_eq h3) ?_
         omega
      ·obtain ⟨x, rfl⟩ := wr_of HIQ.out HSR.out h6
       go_upto_region 23 with fail
       have HDs := HDr
       clear k0 k1 k2 k3 k4 k5 k6 k7 k8 k9 k10 k11 k12 f0 f1 f2 f3 f4 f5 f6 f7 f8 f9 f10 f11 f12
       have HIS : PK B M wr.drew P /\ Fr [some P] wr wr.drew := ⟨HDr.out.d.pk.drew, Fr.drew (Fr.refl _ _)⟩
       refine Rg.wp_region [[], [0], [], [2], [], [4], [1, 3, 5], [6]] [some 99, some 100, some 101, some 102, some 103, some 104, some 105, none] 7 (fun j v wz => match j with | 0 => v = .pointer (some ⟨P, 0, none⟩) | 1 => ∃ nm : PM.B, v = .string ⟨nm.toArray⟩ /\ OkN nm | 2 => v = .pointer (some ⟨P, 0, none⟩) | 3 => ∃ (tl : List Nat) (ta : Option Addr) (tn tc : Nat), v = .slice ta tn tc /\ (tl.length <= 3 /\ ∀ t ∈ tl, t <= 3) /\ TagS (fun g => w.heap.size < g) wz (.slice ta tn tc) (tl.map CM.tagI) | 4 => v = .agg #[.int .i64 kind, .string ⟨table.toArray⟩, .string ⟨name.toArray⟩, .slice a3 l3 c3, .slice a4 l4 c4, .slice a5 l5 c5, .slice a6 l6 c6, .string ⟨join.toArray⟩, .slice a8 l8 c8, .slice a9 l9 c9, .slice a10 l10 c10, .bool desc, .slice a12 l12 c12] | 5 => ∃ (ia : Option Addr) (im ic : Nat), v = .slice ia im ic /\ SS (fun g => w.heap.size < g) wz [x.st] (.slice ia im ic) | 6 => ∃ (nm : PM.B) (tl : List Nat) (ta : Option Addr) (tn tc : Nat) (ia : Option Addr) (im ic : Nat), v = .agg #[.int .i64 4, .string ⟨#[]⟩, .string ⟨nm.toArray⟩, .slice none 0 0, .slice ta tn tc, .slice none 0 0, .slice none 0 0, .string ⟨#[]⟩, .slice none 0 0, .slice none 0 0, .slice none 0 0, .bool false, .slice ia im ic] /\ OkN nm /\ (tl.length <= 3 /\ ∀ t ∈ tl, t <= 3) /\ TagS (fun g => w.heap.size < g) wz (.slice ta tn tc) (tl.map CM.tagI) /\ SS (fun g => w.heap.size < g) wz [x.st] (.slice ia im ic) | _ => True) (fun wz => PK B M wz P /\ Fr [some P] wr wz) (fun wz wz' => Fr [some P] wz wz') (by kernel_rfl) (by kernel_rfl) (by kernel_rfl) (by kernel_rfl) HIS ?_ ?_
       ·intro j hj v wz wz' hR
        match j, hj with
        |0, _ => exact fun h => h
        |1, _ => exact fun h => h
        |2, _ => exact fun h => h
        |3, _ =>
         rintro ⟨tl, ta, l, c, e, h1, h⟩
         exact ⟨tl, ta, l, c, e, h1, h.keep hR (fun g hg => by simp; omega)⟩
        |4, _ => exact fun h => h
        |5, _ =>
         rintro ⟨a, l, c, e, h⟩
         exact ⟨a, l, c, e, h.keep hR (fun g hg => by simp; omega)⟩
        |6, _ =>
         rintro ⟨nm, tl, a, l, c, b, m, d, e, h1, h2, h4, h5⟩
         exact ⟨nm, tl, a, l, c, b, m, d, e, h1, h2, h4.keep hR (fun g hg => by simp; omega), h5.keep hR (fun g hg => by simp; omega)⟩
        |j + 7, hj => exact absurd hj (by omega)
       refine Rg.Each.cons (fun vals wq hI hφ => ?_) ?_
       ·change Rg.Does _ _ _ _ (fun v wz => (PK B M wz P /\ Fr [some P] wr wz) /\ (Fr [some P] wq wz) /\ (v = .pointer (some ⟨P, 0, none⟩)))
        clear hφ
        simp only [Rg.putsD, List.getD_cons_succ, List.getD_cons_zero]
        exact Rg.Does.val (v := .pointer (some ⟨P, 0, none⟩)) (by first | rfl | kernel_rfl) ⟨hI, Fr.refl _ _, rfl⟩
       refine Rg.Each.cons (fun vals wq hI hφ => ?_) ?_
       ·change Rg.Does _ _ _ _ (fun v wz => (PK B M wz P /\ Fr [some P] wr wz) /\ (Fr [some P] wq wz) /\ (∃ nm : PM.B, v = .string ⟨nm.toArray⟩ /\ OkN nm))
        have h0 : _ = _ := hφ 0 (by decide)
        clear hφ
        simp only [Rg.putsD, List.getD_cons_succ, List.getD_cons_zero]
        rw [h0]
        refine Rg.Does.call (by kernel_rfl) (view_any P wq hI.1) ?_
        rintro e wx ⟨nm, rfl, hnm, hk, hf⟩
        exact ⟨_, rfl, ⟨hk, hI.2.trans hf⟩, hf, nm, rfl, hnm⟩
       refine Rg.Each.cons (fun vals wq hI hφ => ?_) ?_
       ·change Rg.Does _ _ _ _ (fun v wz => (PK B M wz P /\ Fr [some P] wr wz) /\ (Fr [some P] wq wz) /\ (v = .pointer (some ⟨P, 0, none⟩)))
        clear hφ
        simp only [Rg.putsD, List.getD_cons_succ, List.getD_cons_zero]
        exact Rg.Does.val (v := .pointer (some ⟨P, 0, none⟩)) (by first | rfl | kernel_rfl) ⟨hI, Fr.refl _ _, rfl⟩
       refine Rg.Each.cons (fun vals wq hI hφ => ?_) ?_
       ·change Rg.Does _ _ _ _ (fun v wz => (PK B M wz P /\ Fr [some P] wr wz) /\ (Fr [some P] wq wz) /\ (∃ (tl : List Nat) (ta : Option Addr) (tn tc : Nat), v = .slice ta tn tc /\ (tl.length <= 3 /\ ∀ t ∈ tl, t <= 3) /\ TagS (fun g => w.heap.size < g) wz (.slice ta tn tc) (tl.map CM.tagI)))
        have h2 : _ = _ := hφ 2 (by decide)
        clear hφ
        simp only [Rg.putsD, List.getD_cons_succ, List.getD_cons_zero]
        rw [h2]
        have hs0 := hI.2.size
        refine Rg.Does.call (by kernel_rfl) (tags_gen P wq hI.1) ?_
        rintro e wx ⟨tl, v, rfl, htl, ht3, hg, hk, hf⟩
        obtain ⟨ta, tc, rfl⟩ := hg.form
        exact ⟨_, rfl, ⟨hk, hI.2.trans hf⟩, hf, tl, ta, _, tc, rfl, ⟨by omega, ht3⟩, hg.flat.mono (fun g hg => by omega)⟩
       refine Rg.Each.cons (fun vals wq hI hφ => ?_) ?_
       ·change Rg.Does _ _ _ _ (fun v wz => (PK B M wz P /\ Fr [some P] wr wz) /\ (Fr [some P] wq wz) /\ (v = .agg #[.int .i64 kind, .string ⟨table.toArray⟩, .string ⟨name.toArray⟩, .slice a3 l3 c3, .slice a4 l4 c4, .slice a5 l5 c5, .slice a6 l6 c6, .string ⟨join.toArray⟩, .slice a8 l8 c8, .slice a9 l9 c9, .slice a10 l10 c10, .bool desc, .slice a12 l12 c12]))
        clear hφ
        simp only [Rg.putsD, List.getD_cons_succ, List.getD_cons_zero]
        have hst := HSt.out.keep hI.2 (by simp; omega)
        obtain ⟨k0, k1, k2, k3, k4, k5, k6, k7, k8, k9, k10, k11, k12, f0, f1, f2, f3, f4, f5, f6, f7, f8, f9, f10, f11, f12⟩ := c13_of hst
        exact Rg.Does.val (v := .agg #[.int .i64 kind, .string ⟨table.toArray⟩, .string ⟨name.toArray⟩, .slice a3 l3 c3, .slice a4 l4 c4, .slice a5 l5 c5, .slice a6 l6 c6, .string ⟨join.toArray⟩, .slice a8 l8 c8, .slice a9 l9 c9, .slice a10 l10 c10, .bool desc, .slice a12 l12 c12]) (by simp [go_sem, execOp, Act.put, Act.eval, k0, k1, k2, k3, k4, k5, k6, k7, k8, k9, k10, k11, k12, f0, f1, f2, f3, f4, f5, f6, f7, f8, f9, f10, f11, f12]) ⟨hI, Fr.refl _ _, rfl⟩
       refine Rg.Each.cons (fun vals wq hI hφ => ?_) ?_
       ·change Rg.Does _ _ _ _ (fun v wz => (PK B M wz P /\ Fr [some P] wr wz) /\ (Fr [some P] wq wz) /\ (∃ (ia : Option Addr) (im ic : Nat), v = .slice ia im ic /\ SS (fun g => w.heap.size < g) wz [x.st] (.slice ia im ic)))
        have h4 : _ = _ := hφ 4 (by decide)
        clear hφ
        simp only [Rg.putsD, List.getD_cons_succ, List.getD_cons_zero]
        have hs0 := hI.2.size
        have hsr2 := (HSR.out.keep hI.2 (fun g hg => by simp; omega)).mono (A' := fun g => w.heap.size < g) (fun g hg => hg.1)
        have hss := ss_one hsr2 (by omega)
        rw [h4]
        exact Rg.Does.val (v := .slice (some ⟨wq.heap.size, 0, none⟩) 1 1) (w' := wq.alloc (.cells #[.int .i64 kind, .string ⟨table.toArray⟩, .string ⟨name.toArray⟩, .slice a3 l3 c3, .slice a4 l4 c4, .slice a5 l5 c5, .slice a6 l6 c6, .string ⟨join.toArray⟩, .slice a8 l8 c8, .slice a9 l9 c9, .slice a10 l10 c10, .bool desc, .slice a12 l12 c12] 29)) (by first | simp [go_sem, execOp, Act.put, Act.eval] | kernel_rfl) ⟨⟨hI.1.alloc _, hI.2.alloc _⟩, (Fr.refl _ _).alloc _, _, _, _, rfl, hss⟩
       refine Rg.Each.cons (fun vals wq hI hφ => ?_) ?_
       ·change Rg.Does _ _ _ _ (fun v wz => (PK B M wz P /\ Fr [some P] wr wz) /\ (Fr [some P] wq wz) /\ (∃ (nm : PM.B) (tl : List Nat) (ta : Option Addr) (tn tc : Nat) (ia : Option Addr) (im ic : Nat), v = .agg #[.int .i64 4, .string ⟨#[]⟩, .string ⟨nm.toArray⟩, .slice none 0 0, .slice ta tn tc, .slice none 0 0, .slice none 0 0, .string ⟨#[]⟩, .slice none 0 0, .slice none 0 0, .slice none 0 0, .bool false, .slice ia im ic] /\ OkN nm /\ (tl.length <= 3 /\ ∀ t ∈ tl, t <= 3) /\ TagS (fun g => w.heap.size < g) wz (.slice ta tn tc) (tl.map CM.tagI) /\ SS (fun g => w.heap.size < g) wz [x.st] (.slice ia im ic)))
        have h1 := hφ 1 (by decide)
        have h3 := hφ 3 (by decide)
        have h5 := hφ 5 (by decide)
        clear hφ
        simp only [Rg.putsD, List.getD_cons_succ, List.getD_cons_zero]
        obtain ⟨nm, en, hn⟩ := h1
        obtain ⟨tl, ta, tn, tc, et, htl, htg⟩ := h3
        obtain ⟨ia, im, ic, es, hss⟩ := h5
        rw [en, et, es]
        exact Rg.Does.val (v := .agg #[.int .i64 4, .string ⟨#[]⟩, .string ⟨nm.toArray⟩, .slice none 0 0, .slice ta tn tc, .slice none 0 0, .slice none 0 0, .string ⟨#[]⟩, .slice none 0 0, .slice none 0 0, .slice none 0 0, .bool false, .slice ia im ic]) (by first | rfl | kernel_rfl) ⟨hI, Fr.refl _ _, nm, tl, ta, tn, tc, ia, im, ic, rfl, hn, htl, htg, hss⟩
       refine Rg.Each.one (fun vals wq hI hφ => ?_)
       have h6 := hφ 6 (by decide)
       clear hφ
       obtain ⟨nm, tl, ta, tn, tc, ia, im, ic, e6, hn, htl, htg, hss⟩ := h6
       rw [show List.range 7 = [0, 1, 2, 3, 4, 5, 6] from rfl]
       simp only [Rg.putsD, List.getD_cons_succ, List.getD_cons_zero]
       rw [e6]
       have HDf := Hd (HDs.out.call hI.1 hI.2)
       obtain ⟨q0, q1, q2, q3, q4, q5, q6, q7, q8, q9, q10, q11, q12, g0, g1, g2, g3, g4, g5, g6, g7, g8, g9, g10, g11, g12⟩ := c13_of HDf.out.r
       have hlb := HDf.out.r.lt
       refine Rg.Does.skip (w' := put13 wq w.heap.size (.int .i64 4) (.string ⟨#[]⟩) (.string ⟨nm.toArray⟩) (.slice none 0 0) (.slice ta tn tc) (.slice none 0 0) (.slice none 0 0) (.string ⟨#[]⟩) (.slice none 0 0) (.slice none 0 0) (.slice none 0 0) (.bool false) (.slice ia im ic)) (by unfold put13; simp [go_sem, execOp, Act.put, Act.eval, q0, q1, q2, q3, q4, q5, q6, q7, q8, q9, q10, q11, q12, g0, g1, g2, g3, g4, g5, g6, g7, g8, g9, g10, g11, g12]) ?_
       simp only [Act.put, List.setIfInBounds_toArray, List.set_cons_succ, List.set_cons_zero]
       have hfin := HDf.out.done (q := .closure nm tl x) (okS_clo hn htl.2 htl.1 HOK.out) (.mk 4 [] nm [] (tl.map CM.tagI) [] [] [] [] [] [] false [x.st] _ _ _ _ _ _ _ _ .nil htg Rep.Es.nil .nil Rep.Es.nil Rep.Es.nil Rep.Es.nil hss)
       have HFIN := Hd hfin
       have HBR := Hd (blkPut13 HDf.out.r (.int .i64 4) (.string ⟨#[]⟩) (.string ⟨nm.toArray⟩) (.slice none 0 0) (.slice ta tn tc) (.slice none 0 0) (.slice none 0 0) (.string ⟨#[]⟩) (.slice none 0 0) (.slice none 0 0) (.slice none 0 0) (.bool false) (.slice ia im ic))
       clear hfin HDf hI q0 q1 q2 q3 q4 q5 q6 q7 q8 q9 q10 q11 q12 g0 g1 g2 g3 g4 g5 g6 g7 g8 g9 g10 g11 g12
       generalize put13 wq w.heap.size (.int .i64 4) (.string ⟨#[]⟩) (.string ⟨nm.toArray⟩) (.slice none 0 0) (.slice ta tn tc) (.slice none 0 0) (.slice none 0 0) (.string ⟨#[]⟩) (.slice none 0 0) (.slice none 0 0) (.slice none 0 0) (.bool false) (.slice ia im ic) = wz at HFIN HBR ⊢
       go_wp2_with fail
       exact bodyPost_ret (ret_cell13 rfl _ w.heap.size rfl _ _ _ _ _ _ _ _ _ _ _ _ _ _ HBR.out) rfl HFIN.out
    case neg =>
     by_cases hr4 : (r : Int) = 4
     case pos =>
      obtain ⟨q0, q1, q2, q3, q4, q5, q6, q7, q8, q9, q10, q11, q12, g0, g1, g2, g3, g4, g5, g6, g7, g8, g9, g10, g11, g12⟩ := c13_of HD1.out.r
      have hlR := HD1.out.r.lt
      go_wp2_with fail
      refine (num_any P 3 (by decide) (by decide) w1 HD1.out.d.pk).mono ?_
      rintro e w2 ⟨r3, rfl, hr3, hk, hf⟩
      have HD2 := Hd (HD1.out.call hk hf)
      clear hk hf q0 q1 q2 q3 q4 q5 q6 q7 q8 q9 q10 q11 q12 g0 g1 g2 g3 g4 g5 g6 g7 g8 g9 g10 g11 g12 hlR
      obtain ⟨q0, q1, q2, q3, q4, q5, q6, q7, q8, q9, q10, q11, q12, g0, g1, g2, g3, g4, g5, g6, g7, g8, g9, g10, g11, g12⟩ := c13_of HD2.out.r
      have hlR := HD2.out.r.lt
      go_wp2_with fail
      refine bodyPost_ret (ret_cell13 rfl _ w.heap.size rfl _ _ _ _ _ _ _ _ _ _ _ _ _ _ (blkPut13 HD2.out.r _ _ _ _ _ _ _ _ _ _ _ _ _)) rfl ?_
      exact HD2.out.done (q := .plain r3) (okS_plain (by omega)) (.mk (9 + r3) [] [] [] [] [] [] [] [] [] [] false [] _ _ _ _ _ _ _ _ .nil .nil Rep.Es.nil .nil Rep.Es.nil Rep.Es.nil Rep.Es.nil SS.nil)
     case neg =>
      by_cases hr5 : (r : Int) = 5
      case pos =>
       go_wp2_with fail
       refine (num_any P 3 (by decide) (by decide) w1 HD1.out.d.pk).mono ?_
       rintro e w2 ⟨r3, rfl, hr3, hk, hf⟩
       have HD2 := Hd (HD1.out.call hk hf)
       have hs2 := hf.size
       clear hk hf
       go_wp2_with fail
       refine (tags_gen P _ (HD2.out.alloc (.cells #[.int .u16 (1 + (r3 : Int))] 58)).d.pk).mono ?_
       rintro e w3 ⟨tl, v, rfl, htl, ht3, hg, hk, hf⟩
       have HD3 := Hd ((HD2.out.alloc (.cells #[.int .u16 (1 + (r3 : Int))] 58)).call hk hf)
       have HB3 := Hd ((Blk.new w2 58 [.int .u16 (1 + (r3 : Int))]).keep hf (by have := HD2.out.d.lt; simp; omega))
       have hs3 := hf.size
       simp only [World.size_alloc] at hs3
       have HG := Hd hg.flat
       have HT := Hd (And.intro htl ht3)
       clear hk hf hg htl ht3
       have HX : Hid (FlatS 58 Px.u16C 1 (fun g => w.heap.size < g) w3 (.slice (some ⟨w2.heap.size, 0, none⟩) 1 1) [1 + (r3 : Int)]) := Hd ⟨⟨rfl, .inr ⟨w2.heap.size, 0, 1, _, rfl, HB3.out, Nat.le_refl _, by simp [maxLen], by simp, rfl⟩⟩, fun g hg => by simp only [Value.ownBlock, Option.some.injEq] at hg; have := HD2.out.lt; omega⟩
       have hRow := HG.out.1
       rw [List.length_map] at hRow
       have hvl : ∀ g, v.ownBlock = some g -> w2.heap.size < g := fun g hg => by have := HG.out.2 g hg; simp only [World.size_alloc] at this; omega
       rcases hRow.2 with ⟨rfl, hl0⟩ | ⟨g, off, cap, cur, rfl, hblk, _⟩
       ·obtain rfl : tl = [] := List.eq_nil_of_length_eq_zero hl0
        clear hRow hvl
        have hap : ∀ (W : World) (ty : TypeId), (Builtin.append_ #[24, 24] ty #[.slice (some ⟨w2.heap.size, 0, none⟩) 1 1, .slice none 0 0]).run Tryz.prog W = .ok (.slice (some ⟨w2.heap.size, 0, none⟩) 1 1) W := fun W ty => by kernel_rfl
        obtain ⟨q0, q1, q2, q3, q4, q5, q6, q7, q8, q9, q10, q11, q12, g0, g1, g2, g3, g4, g5, g6, g7, g8, g9, g10, g11, g12⟩ := c13_of HD3.out.r
        have hlR := HD3.out.r.lt
        go_wp2_with fail
        refine bodyPost_ret (ret_cell13 rfl _ w.heap.size rfl _ _ _ _ _ _ _ _ _ _ _ _ _ _ (blkPut13 HD3.out.r _ _ _ _ _ _ _ _ _ _ _ _ _)) rfl ?_
        exact HD3.out.done (q := .raise (1 + r3) []) (okS_raise (by omega) (by simp) (by simp)) (.mk 12 [] [] [] (([1 + r3] : List Nat).map CM.tagI) [] [] [] [] [] [] false [] _ _ _ _ _ _ _ _ .nil HX.out Rep.Es.nil .nil Rep.Es.nil Rep.Es.nil Rep.Es.nil SS.nil)
       ·have hby : (1 + tl.length) * 2 <= 140737488355328 := by have := HT.out.1; omega
        have hmx : 1 + tl.length <= maxLen := by have := HT.out.1; unfold maxLen; omega
        obtain ⟨i0, hi, hz0, hz1, hz2⟩ := info_parts' info_u16
        have HROW := Hd hRow
        clear hRow hvl hblk
        go_wp2_with (at_builtin; refine wpList_append_row rfl _ _ 24 rfl 58 i0 (.int .u16 0) 1 2 Tryz.underlying24 hi hz0 hz1 hz2 rfl (by decide) (.slice (some ⟨w2.heap.size, 0, none⟩) 1 1) 1 [.int .u16 (1 + (r3 : Int))] rfl HX.out.1 ⟨g, off, none⟩ tl.length cap ((tl.map CM.tagI).flatMap Px.u16C) rfl ?c1 (row_news HROW.out) ?c2 hmx hby ?_)
        case c1 => rw [HROW.out.1]
        case c2 =>
         intro u hu
         obtain ⟨t, _, ht⟩ := List.mem_flatMap.1 hu
         simp only [Px.u16C, List.mem_singleton] at ht
         subst ht
         rfl
        intro v' w4 hr4 hf4 hb4
        obtain ⟨va, vl, vc, rfl⟩ := row_slice hr4
        have HD4 := Hd (HD3.out.own hf4 (fun g hg => by simp only [Value.ownBlock, Option.some.injEq] at hg; have := HD2.out.lt; omega))
        have HX4 : Hid (FlatS 58 Px.u16C 1 (fun g => w.heap.size < g) w4 (.slice va vl vc) (((1 + r3) :: tl).map CM.tagI)) := Hd ⟨by
         have e1 : (((1 + r3) :: tl).map CM.tagI).length = 1 + tl.length := by simp; omega
         have e2 : (((1 + r3) :: tl).map CM.tagI).flatMap Px.u16C = [.int .u16 (1 + (r3 : Int))] ++ (tl.map CM.tagI).flatMap Px.u16C := by simp [CM.tagI, Px.u16C]
         rw [e1, e2]
         exact hr4, fun g hg => by
         rcases hb4 with o | ⟨k, k1, k2⟩
         ·rw [o] at hg
          simp only [Value.ownBlock, Option.some.injEq] at hg
          have := HD2.out.lt
          omega
         ·rw [k2] at hg
          cases hg
          have := HD3.out.lt
          omega⟩
        clear hr4 hf4 hb4 hmx hby
        obtain ⟨q0, q1, q2, q3, q4, q5, q6, q7, q8, q9, q10, q11, q12, g0, g1, g2, g3, g4, g5, g6, g7, g8, g9, g10, g11, g12⟩ := c13_of HD4.out.r
        have hlR := HD4.out.r.lt
        go_wp2_with fail
        refine bodyPost_ret (ret_cell13 rfl _ w.heap.size rfl _ _ _ _ _ _ _ _ _ _ _ _ _ _ (blkPut13 HD4.out.r _ _ _ _ _ _ _ _ _ _ _ _ _)) rfl ?_
        exact HD4.out.done (q := .raise (1 + r3) tl) (okS_raise (by omega) HT.out.2 (by have := HT.out.1; omega)) (.mk 12 [] [] [] (((1 + r3) :: tl : List Nat).map CM.tagI) [] [] [] [] [] [] false [] _ _ _ _ _ _ _ _ .nil HX4.out Rep.Es.nil .nil Rep.Es.nil Rep.Es.nil Rep.Es.nil SS.nil)
      case neg =>
       by_cases hr6 : (r : Int) = 6
       case pos =>
        obtain ⟨q0, q1, q2, q3, q4, q5, q6, q7, q8, q9, q10, q11, q12, g0, g1, g2, g3, g4, g5, g6, g7, g8, g9, g10, g11, g12⟩ := c13_of HD1.out.r
        have hlR := HD1.out.r.lt
        go_wp2_with fail
        refine (view_any P w1 HD1.out.d.pk).mono ?_
        rintro e w2 ⟨nm, rfl, hnm, hk, hf⟩
        have HD2 := Hd (HD1.out.call hk hf)
        have HN := Hd hnm
        clear hnm hk hf q0 q1 q2 q3 q4 q5 q6 q7 q8 q9 q10 q11 q12 g0 g1 g2 g3 g4 g5 g6 g7 g8 g9 g10 g11 g12 hlR
        obtain ⟨q0, q1, q2, q3, q4, q5, q6, q7, q8, q9, q10, q11, q12, g0, g1, g2, g3, g4, g5, g6, g7, g8, g9, g10, g11, g12⟩ := c13_of HD2.out.r
        have hlR := HD2.out.r.lt
        go_wp2_with fail
        refine bodyPost_ret (ret_cell13 rfl _ w.heap.size rfl _ _ _ _ _ _ _ _ _ _ _ _ _ _ (blkPut13 HD2.out.r _ _ _ _ _ _ _ _ _ _ _ _ _)) rfl ?_
        exact HD2.out.done (q := .call nm) (okS_call HN.out) (.mk 13 [] nm [] [] [] [] [] [] [] [] false [] _ _ _ _ _ _ _ _ .nil .nil Rep.Es.nil .nil Rep.Es.nil Rep.Es.nil Rep.Es.nil SS.nil)
       case neg =>
        obtain ⟨q0, q1, q2, q3, q4, q5, q6, q7, q8, q9, q10, q11, q12, g0, g1, g2, g3, g4, g5, g6, g7, g8, g9, g10, g11, g12⟩ := c13_of HD1.out.r
        have hlR := HD1.out.r.lt
        go_wp2_with fail
        refine (data_any P w1 HD1.out.d.pk).mono ?_
        rintro e w2 ⟨⟨q, hok, hdq, hst⟩, hk, hf⟩
        obtain ⟨kind, table, name, join, a3, a4, a5, a6, a8, a9, a10, a12, l3, l4, l5, l6, l8, l9, l10, l12, c3, c4, c5, c6, c8, c9, c10, c12, desc, rfl, hsr⟩ := Px.st_cells hst
        have HD2 := Hd (HD1.out.call (hk.weak (Nat.sub_le _ _)) hf)
        have HSR := Hd (hsr.mono (A' := fun g => w.heap.size < g) (fun g hg => by omega))
        have HOK := Hd hok
        clear hst hsr hok hdq hk hf q0 q1 q2 q3 q4 q5 q6 q7 q8 q9 q10 q11 q12 g0 g1 g2 g3 g4 g5 g6 g7 g8 g9 g10 g11 g12 hlR
        obtain ⟨q0, q1, q2, q3, q4, q5, q6, q7, q8, q9, q10, q11, q12, g0, g1, g2, g3, g4, g5, g6, g7, g8, g9, g10, g11, g12⟩ := c13_of HD2.out.r
        have hlR := HD2.out.r.lt
        go_wp2_with fail
        refine bodyPost_ret (ret_cell13 rfl _ w.heap.size rfl _ _ _ _ _ _ _ _ _ _ _ _ _ _ (blkPut13 HD2.out.r _ _ _ _ _ _ _ _ _ _ _ _ _)) rfl ?_
        exact HD2.out.done HOK.out HSR.out
end Gn
end Go.Proofs.YtmdnhinpaflamaaGreatDoor
