/- How the document shows statements: Show. -/
import Derived.Test.YtmdnhinpaflamaaGreatDoorShD
import Derived.Deep.CutRange
set_option maxRecDepth 4000000
set_option maxHeartbeats 8000000
namespace Go.Proofs.YtmdnhinpaflamaaGreatDoor
open Go.RowKit
set_option linter.unusedVariables false
set_option linter.unusedSimpArgs false
namespace Sh
open PM (Ex B)
open CM (Pr Qs Wr Sel Im Co Cl)
open Gn (sh)
open Px (SR SS ItS TagS ColS)
def ShowQ (q : Qs) : Prop := ∀ D, q.ok D = true -> (qsT q).length <= 60000 -> ∀ (A : Nat -> Prop) (w : World) (cs : List Value), SR A w q.st cs ->
 Calls Tryz.prog 14 #[.agg cs.toArray] w fun e w' => e = .returned (.string (bt (qsT q))) /\ Fr [] w w'
theorem st_one {A : Nat -> Prop} {w : World} {x : PM.St} {a : Option Addr} {n c : Nat} (h : SS A w [x] (.slice a n c)) : ∃ (g off : Nat) (ys : List Value), a = some ⟨g, off, none⟩ /\ n = 1 /\ 1 <= c /\ g < w.heap.size /\ SR A w x ys /\ (∀ i u, ys[i]? = some u -> w.cell? ⟨g, off + i, none⟩ = some u) := by
 obtain ⟨h1, h2, h3⟩ := ss_at h
 obtain ⟨g, off, ys, e1, e2, e3, e4, e5, e6⟩ := h3 0 (by simp)
 exact ⟨g, off, ys, e1, h1, e2, e4, e5, fun i u hi => by have := e6 i u hi; simpa using this⟩
theorem show_index (t m : B) : ShowQ (.index t m) := by
 intro D hok hlen A w cs h
 obtain ⟨a3, a4, a5, a6, a8, a9, a10, a12, l3, l4, l5, l6, l8, l9, l10, l12, c3, c4, c5, c6, c8, c9, c10, c12, rfl, -⟩ := sr_all h
 simp only [Qs.ok, Bool.and_eq_true] at hok
 have h1 := okName_len hok.1
 have h2 := okName_len hok.2
 obtain ⟨x, hx⟩ : ∃ x, bt t = x := ⟨_, rfl⟩
 obtain ⟨y, hy⟩ : ∃ y, bt m = y := ⟨_, rfl⟩
 have hxz := bs hx h1
 have hyz := bs hy h2
 have HS : Hid (⟨#[99, 114, 101, 97, 116, 101, 32, 105, 110, 100, 101, 120, 32, 111, 110, 32]⟩ ++ x ++ ⟨#[40]⟩ ++ y ++ ⟨#[41]⟩ = bt (qsT (.index t m))) := Hd (by rw [<- hx, <- hy, show ⟨#[99, 114, 101, 97, 116, 101, 32, 105, 110, 100, 101, 120, 32, 111, 110, 32]⟩ = bt [99, 114, 101, 97, 116, 101, 32, 105, 110, 100, 101, 120, 32, 111, 110, 32] from rfl, show ⟨#[40]⟩ = bt [40] from rfl, show ⟨#[41]⟩ = bt [41] from rfl]; simp only [bt_cat, qsT])
 change Calls _ _ #[.agg (List.toArray [.int .i64 2, .string (bt t), .string (bt m), _, _, _, _, _, _, _, _, _, _])] _ _
 rw [hx, hy]
 clear h hok hlen hx hy h1 h2
 go_enter Tryz.func14, Tryz.ntmps14
 go_wp2_with fail
 go_ret
 exact ⟨congrArg (fun z => Ending.returned (.string z)) HS.out, (Fr.refl [] w).alloc _⟩
theorem show_call (m : B) : ShowQ (.call m) := by
 intro D hok hlen A w cs h
 obtain ⟨a3, a4, a5, a6, a8, a9, a10, a12, l3, l4, l5, l6, l8, l9, l10, l12, c3, c4, c5, c6, c8, c9, c10, c12, rfl, q3, q4, q5, q6, q8, q9, q10, q12⟩ := sr_all h
 have h2 := okName_len hok
 obtain ⟨y, hy⟩ : ∃ y, bt m = y := ⟨_, rfl⟩
 have hyz := bs hy h2
 have HS : Hid (⟨#[99, 97, 108, 108, 32]⟩ ++ y = bt (qsT (.call m))) := Hd (by rw [<- hy, show ⟨#[99, 97, 108, 108, 32]⟩ = bt [99, 97, 108, 108, 32] from rfl]; simp only [bt_cat, qsT])
 change Calls _ _ #[.agg (List.toArray [.int .i64 13, .string ⟨#[]⟩, .string (bt m), _, _, _, _, _, _, _, _, _, _])] _ _
 rw [hy]
 clear h hok hlen hy h2 q3 q4 q5 q6 q8 q9 q10 q12
 go_enter Tryz.func14, Tryz.ntmps14
 go_wp2_with fail
 go_ret
 exact ⟨congrArg (fun z => Ending.returned (.string z)) HS.out, (Fr.refl [] w).alloc _⟩
theorem show_plain (k : Nat) : ShowQ (.plain k) := by
 intro D hok hlen A w cs h
 have hk : k < 3 := of_decide_eq_true hok
 rcases (by omega : k = 0 \/ k = 1 \/ k = 2) with rfl | rfl | rfl
 ·have h : SR A w (.mk 9 [] [] [] [] [] [] [] [] [] [] false []) cs := h
  obtain ⟨a3, a4, a5, a6, a8, a9, a10, a12, l3, l4, l5, l6, l8, l9, l10, l12, c3, c4, c5, c6, c8, c9, c10, c12, rfl, q3, q4, q5, q6, q8, q9, q10, q12⟩ := sr_all h
  clear h hok hlen q3 q4 q5 q6 q8 q9 q10 q12
  go_enter Tryz.func14, Tryz.ntmps14
  go_wp2_with fail
  go_ret
  exact ⟨rfl, (Fr.refl [] w).alloc _⟩
 ·have h : SR A w (.mk 10 [] [] [] [] [] [] [] [] [] [] false []) cs := h
  obtain ⟨a3, a4, a5, a6, a8, a9, a10, a12, l3, l4, l5, l6, l8, l9, l10, l12, c3, c4, c5, c6, c8, c9, c10, c12, rfl, q3, q4, q5, q6, q8, q9, q10, q12⟩ := sr_all h
  clear h hok hlen q3 q4 q5 q6 q8 q9 q10 q12
  go_enter Tryz.func14, Tryz.ntmps14
  go_wp2_with fail
  go_ret
  exact ⟨rfl, (Fr.refl [] w).alloc _⟩
 ·have h : SR A w (.mk 11 [] [] [] [] [] [] [] [] [] [] false []) cs := h
  obtain ⟨a3, a4, a5, a6, a8, a9, a10, a12, l3, l4, l5, l6, l8, l9, l10, l12, c3, c4, c5, c6, c8, c9, c10, c12, rfl, q3, q4, q5, q6, q8, q9, q10, q12⟩ := sr_all h
  clear h hok hlen q3 q4 q5 q6 q8 q9 q10 q12
  go_enter Tryz.func14, Tryz.ntmps14
  go_wp2_with fail
  go_ret
  exact ⟨rfl, (Fr.refl [] w).alloc _⟩
theorem show_raise (t : Nat) (r : List Nat) : ShowQ (.raise t r) := by
 intro D hok hlen A w cs h
 obtain ⟨a3, a4, a5, a6, a8, a9, a10, a12, l3, l4, l5, l6, l8, l9, l10, l12, c3, c4, c5, c6, c8, c9, c10, c12, rfl, q3, q4, q5, q6, q8, q9, q10, q12⟩ := sr_all h
 simp only [Qs.ok, Bool.and_eq_true, CM.okTag, decide_eq_true_eq, List.all_eq_true] at hok
 have hl : (tagsT (t :: r)).length <= 60000 := by simp only [qsT, List.length_append] at hlen; omega
 have HT := Hd (fun o => tags_any (t :: r) (fun u hu => by rcases List.mem_cons.1 hu with rfl | hu; exact hok.1; exact hok.2 u hu) hl A (w.alloc o) _ (Px.FlatS.keep ((Fr.refl [] w).alloc o) (by simp) q4))
 have HS : Hid (⟨#[114, 97, 105, 115, 101]⟩ ++ bt (tagsT (t :: r)) = bt (qsT (.raise t r))) := Hd (by rw [show ⟨#[114, 97, 105, 115, 101]⟩ = bt [114, 97, 105, 115, 101] from rfl, bt_cat]; rfl)
 have hds : ((bt (tagsT (t :: r))).size : Int) <= 60000 := by rw [bt_size]; omega
 generalize bt (tagsT (t :: r)) = d at HT HS hds
 clear h hok hlen hl q3 q4 q5 q6 q8 q9 q10 q12
 go_enter Tryz.func14, Tryz.ntmps14
 go_wp2_with fail
 refine (HT.out _).mono ?_
 rintro e w5 ⟨rfl, hf5⟩
 have HF5 := Hd (((Fr.refl [] w).alloc _).trans hf5)
 clear hf5
 go_wp2_with fail
 go_ret
 exact ⟨congrArg (fun z => Ending.returned (.string z)) HS.out, HF5.out⟩
theorem show_select (s : Sel) : ShowQ (.select s) := by
 intro D hok hlen A w cs h
 have HT := Hd (fun o => selected_any s D hok hlen A (w.alloc o) cs (SR.keep ((Fr.refl [] w).alloc o) (by simp) h))
 obtain ⟨its, tb, jo, wo, oo⟩ := s
 obtain ⟨a3, a4, a5, a6, a8, a9, a10, a12, l3, l4, l5, l6, l8, l9, l10, l12, c3, c4, c5, c6, c8, c9, c10, c12, rfl, q3, q4, q5, q6, q8, q9, q10, q12⟩ := sr_all h
 obtain ⟨z1, hz1⟩ : ∃ z, (⟨tb.toArray⟩ : ByteArray) = z := ⟨_, rfl⟩
 obtain ⟨z2, hz2⟩ : ∃ z, (⟨(CM.joinN jo).toArray⟩ : ByteArray) = z := ⟨_, rfl⟩
 obtain ⟨z3, hz3⟩ : ∃ z, CM.orderD oo = z := ⟨_, rfl⟩
 change Calls _ _ #[.agg (List.toArray [.int .i64 6, .string ⟨tb.toArray⟩, .string ⟨#[]⟩, _, _, _, _, .string ⟨(CM.joinN jo).toArray⟩, _, _, _, .bool (CM.orderD oo), _])] _ _
 rw [hz1, hz2, hz3]
 change Hid (∀ o, Calls _ _ #[.agg (List.toArray [.int .i64 6, .string ⟨tb.toArray⟩, .string ⟨#[]⟩, _, _, _, _, .string ⟨(CM.joinN jo).toArray⟩, _, _, _, .bool (CM.orderD oo), _])] _ _) at HT
 rw [hz1, hz2, hz3] at HT
 change Hid (∀ o, Calls _ _ _ _ fun e w' => e = .returned (.string (bt (qsT (.select ⟨its, tb, jo, wo, oo⟩)))) /\ _) at HT
 generalize bt (qsT (.select ⟨its, tb, jo, wo, oo⟩)) = d at HT ⊢
 clear h hok hlen hz1 hz2 hz3 q3 q4 q5 q6 q8 q9 q10 q12
 go_enter Tryz.func14, Tryz.ntmps14
 go_wp2_with fail
 refine (HT.out _).mono ?_
 rintro e w5 ⟨rfl, hf5⟩
 have HF5 := Hd (((Fr.refl [] w).alloc _).trans hf5)
 clear hf5
 go_wp2_with fail
 go_ret
 exact ⟨rfl, HF5.out⟩
theorem show_insert (t : B) (x : Pr) (r : List Pr) : ShowQ (.write (.insert t x r)) := by
  intro D hok hlen A w cs h
  obtain ⟨a3, a4, a5, a6, a8, a9, a10, a12, l3, l4, l5, l6, l8, l9, l10, l12, c3, c4, c5, c6, c8, c9, c10, c12, rfl, q3, q4, q5, q6, q8, q9, q10, q12⟩ := sr_all h
  simp only [Qs.ok, Wr.ok, Bool.and_eq_true] at hok
  have hl : (exprsT (x :: r)).length <= 60000 := by simp only [qsT, wrT, List.length_append] at hlen; omega
  have hpk : ∀ p ∈ x :: r, p.ok = true := fun p hp => by rcases List.mem_cons.1 hp with rfl | hp; exact CM.okPr_ok hok.1.2; exact CM.okPr_ok (List.all_eq_true.1 hok.2 p hp)
  have HEw : Hid (∀ W, Fr [] w W -> Calls Tryz.prog 33 #[.slice a5 l5 c5] W fun e w'' => e = .returned (.string (bt (exprsT (x :: r)))) /\ Fr [] W w'') := Hd (fun W hf => exprs_any (x :: r) hpk hl A W _ (Rep.Es.keep hf (by simp) q5))
  have hltb := okName_len hok.1.1
  obtain ⟨tb, htb⟩ : ∃ z, bt t = z := ⟨_, rfl⟩
  have htbz := bs htb hltb
  have HS : Hid (⟨#[105, 110, 115, 101, 114, 116, 32, 105, 110, 116, 111, 32]⟩ ++ tb ++ ⟨#[32, 118, 97, 108, 117, 101, 115, 40]⟩ ++ bt (exprsT (x :: r)) ++ ⟨#[41]⟩ = bt (qsT (.write (.insert t x r)))) := Hd (by rw [<- htb, show ⟨#[105, 110, 115, 101, 114, 116, 32, 105, 110, 116, 111, 32]⟩ = bt [105, 110, 115, 101, 114, 116, 32, 105, 110, 116, 111, 32] from rfl, show ⟨#[32, 118, 97, 108, 117, 101, 115, 40]⟩ = bt [32, 118, 97, 108, 117, 101, 115, 40] from rfl, show ⟨#[41]⟩ = bt [41] from rfl]; simp only [bt_cat, qsT, wrT])
  have hds : ((bt (exprsT (x :: r))).size : Int) <= 60000 := by rw [bt_size]; omega
  generalize bt (exprsT (x :: r)) = d at HEw HS hds
  change Calls _ _ #[.agg (List.toArray [.int .i64 5, .string (bt t), .string ⟨#[]⟩, _, _, _, _, _, _, _, _, _, _])] _ _
  rw [htb]
  have HB := Hd (Blk.new w 29 [.int .i64 5, .string tb, .string ⟨#[]⟩, .slice a3 l3 c3, .slice a4 l4 c4, .slice a5 l5 c5, .slice a6 l6 c6, .string ⟨#[]⟩, .slice a8 l8 c8, .slice a9 l9 c9, .slice a10 l10 c10, .bool false, .slice a12 l12 c12])
  have HF0 : Hid (Fr [] w (w.alloc (.cells #[.int .i64 5, .string tb, .string ⟨#[]⟩, .slice a3 l3 c3, .slice a4 l4 c4, .slice a5 l5 c5, .slice a6 l6 c6, .string ⟨#[]⟩, .slice a8 l8 c8, .slice a9 l9 c9, .slice a10 l10 c10, .bool false, .slice a12 l12 c12] 29))) := Hd ((Fr.refl [] w).alloc _)
  clear h hok hlen hl hpk htb hltb q3 q4 q5 q6 q8 q9 q10 q12
  have ss0 : ¬ 9223372036854775807 < 12 + tb.size := by omega
  have ss1 : ¬ 9223372036854775807 < 12 + tb.size + 8 := by omega
  have ss2 : ¬ 9223372036854775807 < 12 + tb.size + 8 + d.size := by omega
  have ss3 : ¬ 9223372036854775807 < 12 + tb.size + 8 + d.size + 1 := by omega
  go_enter Tryz.func14, Tryz.ntmps14
  go_upto_region 20 with fail
  generalize w.alloc (.cells #[.int .i64 5, .string tb, .string ⟨#[]⟩, .slice a3 l3 c3, .slice a4 l4 c4, .slice a5 l5 c5, .slice a6 l6 c6, .string ⟨#[]⟩, .slice a8 l8 c8, .slice a9 l9 c9, .slice a10 l10 c10, .bool false, .slice a12 l12 c12] 29) = w0 at HB HF0 ⊢
  have HE : Hid (∀ W, Fr [] w0 W -> Calls Tryz.prog 33 #[.slice a5 l5 c5] W fun e w'' => e = .returned (.string d) /\ Fr [] W w'') := Hd (fun W hf => HEw.out W (HF0.out.trans hf))
  have HE0 := HE
  have HKEY : Hid (∀ W, Fr [] w0 W -> W.cell? ⟨w.heap.size, 1, none⟩ = some (.string tb) /\ W.cell? ⟨w.heap.size, 5, none⟩ = some (.slice a5 l5 c5)) := Hd fun W hW => ⟨(HB.out.keep hW (by simp)).cell 1, (HB.out.keep hW (by simp)).cell 5⟩
  have HFa : Hid (Fr [] w0 w0) := Hd (Fr.refl [] w0)
  go_region_held3 (fun W => W.cell? ⟨w.heap.size, 1, none⟩ = some (.string tb) /\ W.cell? ⟨w.heap.size, 5, none⟩ = some (.slice a5 l5 c5))
    ((refine HKEY.out _ ?_; repeat (first | with_reducible exact HFa.out | with_reducible refine Fr.drew ?_ | with_reducible refine Fr.alloc ?_ _)))
    (first
      | (go_at_call 33
         with_reducible refine Calls.mono (HE.out _ ?hf0) ?_
         case hf0 => (repeat (first | with_reducible exact HFa.out | with_reducible refine Fr.drew ?_ | with_reducible refine Fr.alloc ?_ _))
         rintro e wz ⟨rfl, hf⟩
         replace HFa : Hid (Fr [] w0 wz) := Hd (Fr.trans (b := _) (by repeat (first | with_reducible exact HFa.out | with_reducible refine Fr.drew ?_ | with_reducible refine Fr.alloc ?_ _)) hf)
         clear hf))
  all_goals
    go_wp2_with fail
    go_ret
    exact ⟨congrArg (fun z => Ending.returned (.string z)) HS.out, HF0.out.trans (by repeat (first | with_reducible exact HFa.out | with_reducible refine Fr.drew ?_ | with_reducible refine Fr.alloc ?_ _))⟩
theorem show_delete (t : B) (wh : Option Pr) : ShowQ (.write (.delete t wh)) := by
  intro D hok hlen A w cs h
  obtain ⟨a3, a4, a5, a6, a8, a9, a10, a12, l3, l4, l5, l6, l8, l9, l10, l12, c3, c4, c5, c6, c8, c9, c10, c12, rfl, q3, q4, q5, q6, q8, q9, q10, q12⟩ := sr_all h
  simp only [Qs.ok, Wr.ok, Bool.and_eq_true] at hok
  have hl : (whereT wh).length <= 60000 := by simp only [qsT, wrT, List.length_append] at hlen; omega
  have HEw : Hid (∀ W, Fr [] w W -> Calls Tryz.prog 36 #[.slice a9 l9 c9] W fun e w'' => e = .returned (.string (bt (whereT wh))) /\ Fr [] W w'') := Hd (fun W hf => where_any wh (fun p hp => by have := hok.2; rw [hp] at this; exact CM.okPr_ok this) hl A W _ (Rep.Es.keep hf (by simp) q9))
  have hltb := okName_len hok.1
  obtain ⟨tb, htb⟩ : ∃ z, bt t = z := ⟨_, rfl⟩
  have htbz := bs htb hltb
  have HS : Hid (⟨#[100, 101, 108, 101, 116, 101, 32, 102, 114, 111, 109, 32]⟩ ++ tb ++ bt (whereT wh) = bt (qsT (.write (.delete t wh)))) := Hd (by rw [<- htb, show ⟨#[100, 101, 108, 101, 116, 101, 32, 102, 114, 111, 109, 32]⟩ = bt [100, 101, 108, 101, 116, 101, 32, 102, 114, 111, 109, 32] from rfl]; simp only [bt_cat, qsT, wrT])
  have hds : ((bt (whereT wh)).size : Int) <= 60000 := by rw [bt_size]; omega
  generalize bt (whereT wh) = d at HEw HS hds
  change Calls _ _ #[.agg (List.toArray [.int .i64 8, .string (bt t), .string ⟨#[]⟩, _, _, _, _, _, _, _, _, _, _])] _ _
  rw [htb]
  have HB := Hd (Blk.new w 29 [.int .i64 8, .string tb, .string ⟨#[]⟩, .slice a3 l3 c3, .slice a4 l4 c4, .slice a5 l5 c5, .slice a6 l6 c6, .string ⟨#[]⟩, .slice a8 l8 c8, .slice a9 l9 c9, .slice a10 l10 c10, .bool false, .slice a12 l12 c12])
  have HF0 : Hid (Fr [] w (w.alloc (.cells #[.int .i64 8, .string tb, .string ⟨#[]⟩, .slice a3 l3 c3, .slice a4 l4 c4, .slice a5 l5 c5, .slice a6 l6 c6, .string ⟨#[]⟩, .slice a8 l8 c8, .slice a9 l9 c9, .slice a10 l10 c10, .bool false, .slice a12 l12 c12] 29))) := Hd ((Fr.refl [] w).alloc _)
  clear h hok hlen hl htb hltb q3 q4 q5 q6 q8 q9 q10 q12
  have ss0 : ¬ 9223372036854775807 < 12 + tb.size := by omega
  have ss1 : ¬ 9223372036854775807 < 12 + tb.size + d.size := by omega
  go_enter Tryz.func14, Tryz.ntmps14
  go_upto_region 26 with fail
  generalize w.alloc (.cells #[.int .i64 8, .string tb, .string ⟨#[]⟩, .slice a3 l3 c3, .slice a4 l4 c4, .slice a5 l5 c5, .slice a6 l6 c6, .string ⟨#[]⟩, .slice a8 l8 c8, .slice a9 l9 c9, .slice a10 l10 c10, .bool false, .slice a12 l12 c12] 29) = w0 at HB HF0 ⊢
  have HE : Hid (∀ W, Fr [] w0 W -> Calls Tryz.prog 36 #[.slice a9 l9 c9] W fun e w'' => e = .returned (.string d) /\ Fr [] W w'') := Hd (fun W hf => HEw.out W (HF0.out.trans hf))
  have HE0 := HE
  have HKEY : Hid (∀ W, Fr [] w0 W -> W.cell? ⟨w.heap.size, 1, none⟩ = some (.string tb) /\ W.cell? ⟨w.heap.size, 9, none⟩ = some (.slice a9 l9 c9)) := Hd fun W hW => ⟨(HB.out.keep hW (by simp)).cell 1, (HB.out.keep hW (by simp)).cell 9⟩
  have HFa : Hid (Fr [] w0 w0) := Hd (Fr.refl [] w0)
  go_region_held3 (fun W => W.cell? ⟨w.heap.size, 1, none⟩ = some (.string tb) /\ W.cell? ⟨w.heap.size, 9, none⟩ = some (.slice a9 l9 c9))
    ((refine HKEY.out _ ?_; repeat (first | with_reducible exact HFa.out | with_reducible refine Fr.drew ?_ | with_reducible refine Fr.alloc ?_ _)))
    (first
      | (go_at_call 36
         with_reducible refine Calls.mono (HE.out _ ?hf0) ?_
         case hf0 => (repeat (first | with_reducible exact HFa.out | with_reducible refine Fr.drew ?_ | with_reducible refine Fr.alloc ?_ _))
         rintro e wz ⟨rfl, hf⟩
         replace HFa : Hid (Fr [] w0 wz) := Hd (Fr.trans (b := _) (by repeat (first | with_reducible exact HFa.out | with_reducible refine Fr.drew ?_ | with_reducible refine Fr.alloc ?_ _)) hf)
         clear hf))
  all_goals
    go_wp2_with fail
    go_ret
    exact ⟨congrArg (fun z => Ending.returned (.string z)) HS.out, HF0.out.trans (by repeat (first | with_reducible exact HFa.out | with_reducible refine Fr.drew ?_ | with_reducible refine Fr.alloc ?_ _))⟩
theorem show_update (t m : B) (x : Pr) (wh : Option Pr) : ShowQ (.write (.update t m x wh)) := by
  intro D hok hlen A w cs h
  obtain ⟨a3, a4, a5, a6, a8, a9, a10, a12, l3, l4, l5, l6, l8, l9, l10, l12, c3, c4, c5, c6, c8, c9, c10, c12, rfl, q3, q4, q5, q6, q8, q9, q10, q12⟩ := sr_all h
  simp only [Qs.ok, Wr.ok, Bool.and_eq_true] at hok
  have hl : (whereT wh).length <= 60000 /\ (sh x).length <= 60000 := by simp only [qsT, wrT, List.length_append] at hlen; omega
  have HEw : Hid (∀ W, Fr [] w W -> Calls Tryz.prog 36 #[.slice a9 l9 c9] W fun e w'' => e = .returned (.string (bt (whereT wh))) /\ Fr [] W w'') := Hd (fun W hf => where_any wh (fun p hp => by have := hok.2; rw [hp] at this; exact CM.okPr_ok this) hl.1 A W _ (Rep.Es.keep hf (by simp) q9))
  obtain ⟨g, off, ys, rfl, rfl, hc5, hg, hE, hcell⟩ := one_at q5
  obtain ⟨op, kind, int, text, tbl, nme, args, b1, m1, d1, -, rfl, -⟩ := Sm.e_cells hE
  have HC1 := Hd (sev hcell)
  have HGw : Hid (∀ W, Fr [] w W -> Calls Tryz.prog 35 #[.agg #[.int .i64 op, .int .i64 kind, .int .i64 int, .string ⟨text.toArray⟩, .string ⟨tbl.toArray⟩, .string ⟨nme.toArray⟩, .slice b1 m1 d1]] W fun e w'' => e = .returned (.string (bt (sh x))) /\ Fr [] W w'') := Hd (fun W hf => shown_any x (CM.okPr_ok hok.1.2) hl.2 _ _ _ (Rep.E.keep hf (by simp) hE))
  have hltb := okName_len hok.1.1.1
  obtain ⟨tb, htb⟩ : ∃ z, bt t = z := ⟨_, rfl⟩
  have htbz := bs htb hltb
  have hlmb := okName_len hok.1.1.2
  obtain ⟨mb, hmb⟩ : ∃ z, bt m = z := ⟨_, rfl⟩
  have hmbz := bs hmb hlmb
  have HS : Hid (⟨#[117, 112, 100, 97, 116, 101, 32]⟩ ++ tb ++ ⟨#[32, 115, 101, 116, 32]⟩ ++ mb ++ ⟨#[32, 61, 32]⟩ ++ bt (sh x) ++ bt (whereT wh) = bt (qsT (.write (.update t m x wh)))) := Hd (by rw [<- htb, <- hmb, show ⟨#[117, 112, 100, 97, 116, 101, 32]⟩ = bt [117, 112, 100, 97, 116, 101, 32] from rfl, show ⟨#[32, 115, 101, 116, 32]⟩ = bt [32, 115, 101, 116, 32] from rfl, show ⟨#[32, 61, 32]⟩ = bt [32, 61, 32] from rfl]; simp only [bt_cat, qsT, wrT])
  have hds : ((bt (whereT wh)).size : Int) <= 60000 := by rw [bt_size]; omega
  have hus : ((bt (sh x)).size : Int) <= 60000 := by rw [bt_size]; omega
  generalize bt (whereT wh) = d at HEw HS hds
  generalize bt (sh x) = u at HGw HS hus
  change Calls _ _ #[.agg (List.toArray [.int .i64 7, .string (bt t), .string (bt m), _, _, _, _, _, _, _, _, _, _])] _ _
  rw [htb, hmb]
  have HB := Hd (Blk.new w 29 [.int .i64 7, .string tb, .string mb, .slice a3 l3 c3, .slice a4 l4 c4, .slice (some ⟨g, off, none⟩) 1 c5, .slice a6 l6 c6, .string ⟨#[]⟩, .slice a8 l8 c8, .slice a9 l9 c9, .slice a10 l10 c10, .bool false, .slice a12 l12 c12])
  have HF0 : Hid (Fr [] w (w.alloc (.cells #[.int .i64 7, .string tb, .string mb, .slice a3 l3 c3, .slice a4 l4 c4, .slice (some ⟨g, off, none⟩) 1 c5, .slice a6 l6 c6, .string ⟨#[]⟩, .slice a8 l8 c8, .slice a9 l9 c9, .slice a10 l10 c10, .bool false, .slice a12 l12 c12] 29))) := Hd ((Fr.refl [] w).alloc _)
  have hc5i : (1 : Int) <= c5 := by omega
  clear h hok hlen hl htb hltb hmb hlmb hE hcell q3 q4 q5 q6 q8 q9 q10 q12
  have ss0 : ¬ 9223372036854775807 < 7 + tb.size := by omega
  have ss1 : ¬ 9223372036854775807 < 7 + tb.size + 5 := by omega
  have ss2 : ¬ 9223372036854775807 < 7 + tb.size + 5 + mb.size := by omega
  have ss3 : ¬ 9223372036854775807 < 7 + tb.size + 5 + mb.size + 3 := by omega
  have ss4 : ¬ 9223372036854775807 < 7 + tb.size + 5 + mb.size + 3 + u.size := by omega
  have ss5 : ¬ 9223372036854775807 < 7 + tb.size + 5 + mb.size + 3 + u.size + d.size := by omega
  go_enter Tryz.func14, Tryz.ntmps14
  go_upto_region 24 with fail
  generalize w.alloc (.cells #[.int .i64 7, .string tb, .string mb, .slice a3 l3 c3, .slice a4 l4 c4, .slice (some ⟨g, off, none⟩) 1 c5, .slice a6 l6 c6, .string ⟨#[]⟩, .slice a8 l8 c8, .slice a9 l9 c9, .slice a10 l10 c10, .bool false, .slice a12 l12 c12] 29) = w0 at HB HF0 ⊢
  have HE : Hid (∀ W, Fr [] w0 W -> Calls Tryz.prog 36 #[.slice a9 l9 c9] W fun e w'' => e = .returned (.string d) /\ Fr [] W w'') := Hd (fun W hf => HEw.out W (HF0.out.trans hf))
  have HG : Hid (∀ W, Fr [] w0 W -> Calls Tryz.prog 35 #[.agg #[.int .i64 op, .int .i64 kind, .int .i64 int, .string ⟨text.toArray⟩, .string ⟨tbl.toArray⟩, .string ⟨nme.toArray⟩, .slice b1 m1 d1]] W fun e w'' => e = .returned (.string u) /\ Fr [] W w'') := Hd (fun W hf => HGw.out W (HF0.out.trans hf))
  have HE0 := HE
  have HG0 := HG
  have HKEY : Hid (∀ W, Fr [] w0 W -> W.cell? ⟨w.heap.size, 1, none⟩ = some (.string tb) /\ W.cell? ⟨w.heap.size, 2, none⟩ = some (.string mb) /\ W.cell? ⟨w.heap.size, 5, none⟩ = some (.slice (some ⟨g, off, none⟩) 1 c5) /\ W.cell? ⟨w.heap.size, 9, none⟩ = some (.slice a9 l9 c9) /\ W.cell? ⟨g, off, none⟩ = some (.int .i64 op) /\ W.cell? ⟨g, off + 1, none⟩ = some (.int .i64 kind) /\ W.cell? ⟨g, off + 2, none⟩ = some (.int .i64 int) /\ W.cell? ⟨g, off + 3, none⟩ = some (.string ⟨text.toArray⟩) /\ W.cell? ⟨g, off + 4, none⟩ = some (.string ⟨tbl.toArray⟩) /\ W.cell? ⟨g, off + 5, none⟩ = some (.string ⟨nme.toArray⟩) /\ W.cell? ⟨g, off + 6, none⟩ = some (.slice b1 m1 d1)) := Hd fun W hW => ⟨(HB.out.keep hW (by simp)).cell 1, (HB.out.keep hW (by simp)).cell 2, (HB.out.keep hW (by simp)).cell 5, (HB.out.keep hW (by simp)).cell 9, ((HF0.out.trans hW).cell (p := ⟨g, off, none⟩) hg (by simp)).trans HC1.out.1, ((HF0.out.trans hW).cell (p := ⟨g, off + 1, none⟩) hg (by simp)).trans HC1.out.2.1, ((HF0.out.trans hW).cell (p := ⟨g, off + 2, none⟩) hg (by simp)).trans HC1.out.2.2.1, ((HF0.out.trans hW).cell (p := ⟨g, off + 3, none⟩) hg (by simp)).trans HC1.out.2.2.2.1, ((HF0.out.trans hW).cell (p := ⟨g, off + 4, none⟩) hg (by simp)).trans HC1.out.2.2.2.2.1, ((HF0.out.trans hW).cell (p := ⟨g, off + 5, none⟩) hg (by simp)).trans HC1.out.2.2.2.2.2.1, ((HF0.out.trans hW).cell (p := ⟨g, off + 6, none⟩) hg (by simp)).trans HC1.out.2.2.2.2.2.2⟩
  have HFa : Hid (Fr [] w0 w0) := Hd (Fr.refl [] w0)
  go_region_held3 (fun W => W.cell? ⟨w.heap.size, 1, none⟩ = some (.string tb) /\ W.cell? ⟨w.heap.size, 2, none⟩ = some (.string mb) /\ W.cell? ⟨w.heap.size, 5, none⟩ = some (.slice (some ⟨g, off, none⟩) 1 c5) /\ W.cell? ⟨w.heap.size, 9, none⟩ = some (.slice a9 l9 c9) /\ W.cell? ⟨g, off, none⟩ = some (.int .i64 op) /\ W.cell? ⟨g, off + 1, none⟩ = some (.int .i64 kind) /\ W.cell? ⟨g, off + 2, none⟩ = some (.int .i64 int) /\ W.cell? ⟨g, off + 3, none⟩ = some (.string ⟨text.toArray⟩) /\ W.cell? ⟨g, off + 4, none⟩ = some (.string ⟨tbl.toArray⟩) /\ W.cell? ⟨g, off + 5, none⟩ = some (.string ⟨nme.toArray⟩) /\ W.cell? ⟨g, off + 6, none⟩ = some (.slice b1 m1 d1))
    ((refine HKEY.out _ ?_; repeat (first | with_reducible exact HFa.out | with_reducible refine Fr.drew ?_ | with_reducible refine Fr.alloc ?_ _)))
    (first
      | (go_at_call 36
         with_reducible refine Calls.mono (HE.out _ ?hf0) ?_
         case hf0 => (repeat (first | with_reducible exact HFa.out | with_reducible refine Fr.drew ?_ | with_reducible refine Fr.alloc ?_ _))
         rintro e wz ⟨rfl, hf⟩
         replace HFa : Hid (Fr [] w0 wz) := Hd (Fr.trans (b := _) (by repeat (first | with_reducible exact HFa.out | with_reducible refine Fr.drew ?_ | with_reducible refine Fr.alloc ?_ _)) hf)
         clear hf)
      | (go_at_call 35
         with_reducible refine Calls.mono (HG.out _ ?hf0) ?_
         case hf0 => (repeat (first | with_reducible exact HFa.out | with_reducible refine Fr.drew ?_ | with_reducible refine Fr.alloc ?_ _))
         rintro e wz ⟨rfl, hf⟩
         replace HFa : Hid (Fr [] w0 wz) := Hd (Fr.trans (b := _) (by repeat (first | with_reducible exact HFa.out | with_reducible refine Fr.drew ?_ | with_reducible refine Fr.alloc ?_ _)) hf)
         clear hf))
  all_goals
    go_wp2_with fail
    go_ret
    exact ⟨congrArg (fun z => Ending.returned (.string z)) HS.out, HF0.out.trans (by repeat (first | with_reducible exact HFa.out | with_reducible refine Fr.drew ?_ | with_reducible refine Fr.alloc ?_ _))⟩
theorem show_view (m : B) (tags : List Nat) (s : Sel) (ih : ShowQ (.select s)) : ShowQ (.view m tags s) := by
  intro D hok hlen A w cs h
  obtain ⟨a3, a4, a5, a6, a8, a9, a10, a12, l3, l4, l5, l6, l8, l9, l10, l12, c3, c4, c5, c6, c8, c9, c10, c12, rfl, q3, q4, q5, q6, q8, q9, q10, q12⟩ := sr_all h
  simp only [Qs.ok, Bool.and_eq_true] at hok
  have hl : (tagsT tags).length <= 60000 /\ (selT s).length <= 60000 := by simp only [qsT, List.length_append] at hlen; omega
  have HEw : Hid (∀ W, Fr [] w W -> Calls Tryz.prog 32 #[.slice a4 l4 c4] W fun e w'' => e = .returned (.string (bt (tagsT tags))) /\ Fr [] W w'') := Hd (fun W hf => tags_any tags (fun u hu => of_decide_eq_true (List.all_eq_true.1 hok.1.2 u hu)) hl.1 A W _ (Px.FlatS.keep hf (by simp) q4))
  obtain ⟨g, off, ys, rfl, rfl, hc12, hg, hE, hcell⟩ := st_one q12
  obtain ⟨y, hy⟩ := Px.sr_cells hE
  obtain ⟨yk, yt, yn, yj, ya3, ya4, ya5, ya6, ya8, ya9, ya10, ya12, yl3, yl4, yl5, yl6, yl8, yl9, yl10, yl12, yc3, yc4, yc5, yc6, yc8, yc9, yc10, yc12, yd⟩ := y
  simp only [Px.Cells13.list] at hy
  subst hy
  have HC1 : Hid (w.cell? ⟨g, off, none⟩ = some (.int .i64 yk) /\ w.cell? ⟨g, off + 1, none⟩ = some (.string ⟨yt.toArray⟩) /\ w.cell? ⟨g, off + 2, none⟩ = some (.string ⟨yn.toArray⟩) /\ w.cell? ⟨g, off + 3, none⟩ = some (.slice ya3 yl3 yc3) /\ w.cell? ⟨g, off + 4, none⟩ = some (.slice ya4 yl4 yc4) /\ w.cell? ⟨g, off + 5, none⟩ = some (.slice ya5 yl5 yc5) /\ w.cell? ⟨g, off + 6, none⟩ = some (.slice ya6 yl6 yc6) /\ w.cell? ⟨g, off + 7, none⟩ = some (.string ⟨yj.toArray⟩) /\ w.cell? ⟨g, off + 8, none⟩ = some (.slice ya8 yl8 yc8) /\ w.cell? ⟨g, off + 9, none⟩ = some (.slice ya9 yl9 yc9) /\ w.cell? ⟨g, off + 10, none⟩ = some (.slice ya10 yl10 yc10) /\ w.cell? ⟨g, off + 11, none⟩ = some (.bool yd) /\ w.cell? ⟨g, off + 12, none⟩ = some (.slice ya12 yl12 yc12)) := Hd ⟨hcell 0 _ rfl, hcell 1 _ rfl, hcell 2 _ rfl, hcell 3 _ rfl, hcell 4 _ rfl, hcell 5 _ rfl, hcell 6 _ rfl, hcell 7 _ rfl, hcell 8 _ rfl, hcell 9 _ rfl, hcell 10 _ rfl, hcell 11 _ rfl, hcell 12 _ rfl⟩
  have HGw : Hid (∀ W, Fr [] w W -> Calls Tryz.prog 14 #[.agg #[.int .i64 yk, .string ⟨yt.toArray⟩, .string ⟨yn.toArray⟩, .slice ya3 yl3 yc3, .slice ya4 yl4 yc4, .slice ya5 yl5 yc5, .slice ya6 yl6 yc6, .string ⟨yj.toArray⟩, .slice ya8 yl8 yc8, .slice ya9 yl9 yc9, .slice ya10 yl10 yc10, .bool yd, .slice ya12 yl12 yc12]] W fun e w'' => e = .returned (.string (bt (selT s))) /\ Fr [] W w'') := Hd (fun W hf => ih D hok.2 hl.2 A W _ (SR.keep hf (by simp) hE))
  have hlmb := okName_len hok.1.1
  obtain ⟨mb, hmb⟩ : ∃ z, bt m = z := ⟨_, rfl⟩
  have hmbz := bs hmb hlmb
  have HS : Hid (⟨#[99, 114, 101, 97, 116, 101, 32, 118, 105, 101, 119, 32]⟩ ++ mb ++ ⟨#[32, 115, 116, 114, 105, 112]⟩ ++ bt (tagsT tags) ++ ⟨#[32, 97, 115, 32]⟩ ++ bt (selT s) = bt (qsT (.view m tags s))) := Hd (by rw [<- hmb, show ⟨#[99, 114, 101, 97, 116, 101, 32, 118, 105, 101, 119, 32]⟩ = bt [99, 114, 101, 97, 116, 101, 32, 118, 105, 101, 119, 32] from rfl, show ⟨#[32, 115, 116, 114, 105, 112]⟩ = bt [32, 115, 116, 114, 105, 112] from rfl, show ⟨#[32, 97, 115, 32]⟩ = bt [32, 97, 115, 32] from rfl]; simp only [bt_cat, qsT])
  have hds : ((bt (tagsT tags)).size : Int) <= 60000 := by rw [bt_size]; omega
  have hus : ((bt (selT s)).size : Int) <= 60000 := by rw [bt_size]; omega
  generalize bt (tagsT tags) = d at HEw HS hds
  generalize bt (selT s) = u at HGw HS hus
  change Calls _ _ #[.agg (List.toArray [.int .i64 3, .string ⟨#[]⟩, .string (bt m), _, _, _, _, _, _, _, _, _, _])] _ _
  rw [hmb]
  have HB := Hd (Blk.new w 29 [.int .i64 3, .string ⟨#[]⟩, .string mb, .slice a3 l3 c3, .slice a4 l4 c4, .slice a5 l5 c5, .slice a6 l6 c6, .string ⟨#[]⟩, .slice a8 l8 c8, .slice a9 l9 c9, .slice a10 l10 c10, .bool false, .slice (some ⟨g, off, none⟩) 1 c12])
  have HF0 : Hid (Fr [] w (w.alloc (.cells #[.int .i64 3, .string ⟨#[]⟩, .string mb, .slice a3 l3 c3, .slice a4 l4 c4, .slice a5 l5 c5, .slice a6 l6 c6, .string ⟨#[]⟩, .slice a8 l8 c8, .slice a9 l9 c9, .slice a10 l10 c10, .bool false, .slice (some ⟨g, off, none⟩) 1 c12] 29))) := Hd ((Fr.refl [] w).alloc _)
  have hc12i : (1 : Int) <= c12 := by omega
  clear h hok hlen hl hmb hlmb hE hcell q3 q4 q5 q6 q8 q9 q10 q12 ih
  have ss0 : ¬ 9223372036854775807 < 12 + mb.size := by omega
  have ss1 : ¬ 9223372036854775807 < 12 + mb.size + 6 := by omega
  have ss2 : ¬ 9223372036854775807 < 12 + mb.size + 6 + d.size := by omega
  have ss3 : ¬ 9223372036854775807 < 12 + mb.size + 6 + d.size + 4 := by omega
  have ss4 : ¬ 9223372036854775807 < 12 + mb.size + 6 + d.size + 4 + u.size := by omega
  go_enter Tryz.func14, Tryz.ntmps14
  go_upto_region 16 with fail
  generalize w.alloc (.cells #[.int .i64 3, .string ⟨#[]⟩, .string mb, .slice a3 l3 c3, .slice a4 l4 c4, .slice a5 l5 c5, .slice a6 l6 c6, .string ⟨#[]⟩, .slice a8 l8 c8, .slice a9 l9 c9, .slice a10 l10 c10, .bool false, .slice (some ⟨g, off, none⟩) 1 c12] 29) = w0 at HB HF0 ⊢
  have HE : Hid (∀ W, Fr [] w0 W -> Calls Tryz.prog 32 #[.slice a4 l4 c4] W fun e w'' => e = .returned (.string d) /\ Fr [] W w'') := Hd (fun W hf => HEw.out W (HF0.out.trans hf))
  have HG : Hid (∀ W, Fr [] w0 W -> Calls Tryz.prog 14 #[.agg #[.int .i64 yk, .string ⟨yt.toArray⟩, .string ⟨yn.toArray⟩, .slice ya3 yl3 yc3, .slice ya4 yl4 yc4, .slice ya5 yl5 yc5, .slice ya6 yl6 yc6, .string ⟨yj.toArray⟩, .slice ya8 yl8 yc8, .slice ya9 yl9 yc9, .slice ya10 yl10 yc10, .bool yd, .slice ya12 yl12 yc12]] W fun e w'' => e = .returned (.string u) /\ Fr [] W w'') := Hd (fun W hf => HGw.out W (HF0.out.trans hf))
  have HE0 := HE
  have HG0 := HG
  have HKEY : Hid (∀ W, Fr [] w0 W -> W.cell? ⟨w.heap.size, 2, none⟩ = some (.string mb) /\ W.cell? ⟨w.heap.size, 4, none⟩ = some (.slice a4 l4 c4) /\ W.cell? ⟨w.heap.size, 12, none⟩ = some (.slice (some ⟨g, off, none⟩) 1 c12) /\ W.cell? ⟨g, off, none⟩ = some (.int .i64 yk) /\ W.cell? ⟨g, off + 1, none⟩ = some (.string ⟨yt.toArray⟩) /\ W.cell? ⟨g, off + 2, none⟩ = some (.string ⟨yn.toArray⟩) /\ W.cell? ⟨g, off + 3, none⟩ = some (.slice ya3 yl3 yc3) /\ W.cell? ⟨g, off + 4, none⟩ = some (.slice ya4 yl4 yc4) /\ W.cell? ⟨g, off + 5, none⟩ = some (.slice ya5 yl5 yc5) /\ W.cell? ⟨g, off + 6, none⟩ = some (.slice ya6 yl6 yc6) /\ W.cell? ⟨g, off + 7, none⟩ = some (.string ⟨yj.toArray⟩) /\ W.cell? ⟨g, off + 8, none⟩ = some (.slice ya8 yl8 yc8) /\ W.cell? ⟨g, off + 9, none⟩ = some (.slice ya9 yl9 yc9) /\ W.cell? ⟨g, off + 10, none⟩ = some (.slice ya10 yl10 yc10) /\ W.cell? ⟨g, off + 11, none⟩ = some (.bool yd) /\ W.cell? ⟨g, off + 12, none⟩ = some (.slice ya12 yl12 yc12)) := Hd fun W hW => ⟨(HB.out.keep hW (by simp)).cell 2, (HB.out.keep hW (by simp)).cell 4, (HB.out.keep hW (by simp)).cell 12, ((HF0.out.trans hW).cell (p := ⟨g, off, none⟩) hg (by simp)).trans HC1.out.1, ((HF0.out.trans hW).cell (p := ⟨g, off + 1, none⟩) hg (by simp)).trans HC1.out.2.1, ((HF0.out.trans hW).cell (p := ⟨g, off + 2, none⟩) hg (by simp)).trans HC1.out.2.2.1, ((HF0.out.trans hW).cell (p := ⟨g, off + 3, none⟩) hg (by simp)).trans HC1.out.2.2.2.1, ((HF0.out.trans hW).cell (p := ⟨g, off + 4, none⟩) hg (by simp)).trans HC1.out.2.2.2.2.1, ((HF0.out.trans hW).cell (p := ⟨g, off + 5, none⟩) hg (by simp)).trans HC1.out.2.2.2.2.2.1, ((HF0.out.trans hW).cell (p := ⟨g, off + 6, none⟩) hg (by simp)).trans HC1.out.2.2.2.2.2.2.1, ((HF0.out.trans hW).cell (p := ⟨g, off + 7, none⟩) hg (by simp)).trans HC1.out.2.2.2.2.2.2.2.1, ((HF0.out.trans hW).cell (p := ⟨g, off + 8, none⟩) hg (by simp)).trans HC1.out.2.2.2.2.2.2.2.2.1, ((HF0.out.trans hW).cell (p := ⟨g, off + 9, none⟩) hg (by simp)).trans HC1.out.2.2.2.2.2.2.2.2.2.1, ((HF0.out.trans hW).cell (p := ⟨g, off + 10, none⟩) hg (by simp)).trans HC1.out.2.2.2.2.2.2.2.2.2.2.1, ((HF0.out.trans hW).cell (p := ⟨g, off + 11, none⟩) hg (by simp)).trans HC1.out.2.2.2.2.2.2.2.2.2.2.2.1, ((HF0.out.trans hW).cell (p := ⟨g, off + 12, none⟩) hg (by simp)).trans HC1.out.2.2.2.2.2.2.2.2.2.2.2.2⟩
  have HFa : Hid (Fr [] w0 w0) := Hd (Fr.refl [] w0)
  go_region_held3 (fun W => W.cell? ⟨w.heap.size, 2, none⟩ = some (.string mb) /\ W.cell? ⟨w.heap.size, 4, none⟩ = some (.slice a4 l4 c4) /\ W.cell? ⟨w.heap.size, 12, none⟩ = some (.slice (some ⟨g, off, none⟩) 1 c12) /\ W.cell? ⟨g, off, none⟩ = some (.int .i64 yk) /\ W.cell? ⟨g, off + 1, none⟩ = some (.string ⟨yt.toArray⟩) /\ W.cell? ⟨g, off + 2, none⟩ = some (.string ⟨yn.toArray⟩) /\ W.cell? ⟨g, off + 3, none⟩ = some (.slice ya3 yl3 yc3) /\ W.cell? ⟨g, off + 4, none⟩ = some (.slice ya4 yl4 yc4) /\ W.cell? ⟨g, off + 5, none⟩ = some (.slice ya5 yl5 yc5) /\ W.cell? ⟨g, off + 6, none⟩ = some (.slice ya6 yl6 yc6) /\ W.cell? ⟨g, off + 7, none⟩ = some (.string ⟨yj.toArray⟩) /\ W.cell? ⟨g, off + 8, none⟩ = some (.slice ya8 yl8 yc8) /\ W.cell? ⟨g, off + 9, none⟩ = some (.slice ya9 yl9 yc9) /\ W.cell? ⟨g, off + 10, none⟩ = some (.slice ya10 yl10 yc10) /\ W.cell? ⟨g, off + 11, none⟩ = some (.bool yd) /\ W.cell? ⟨g, off + 12, none⟩ = some (.slice ya12 yl12 yc12))
    ((refine HKEY.out _ ?_; repeat (first | with_reducible exact HFa.out | with_reducible refine Fr.drew ?_ | with_reducible refine Fr.alloc ?_ _)))
    (first
      | (go_at_call 32
         with_reducible refine Calls.mono (HE.out _ ?hf0) ?_
         case hf0 => (repeat (first | with_reducible exact HFa.out | with_reducible refine Fr.drew ?_ | with_reducible refine Fr.alloc ?_ _))
         rintro e wz ⟨rfl, hf⟩
         replace HFa : Hid (Fr [] w0 wz) := Hd (Fr.trans (b := _) (by repeat (first | with_reducible exact HFa.out | with_reducible refine Fr.drew ?_ | with_reducible refine Fr.alloc ?_ _)) hf)
         clear hf)
      | (go_at_call 14
         with_reducible refine Calls.mono (HG.out _ ?hf0) ?_
         case hf0 => (repeat (first | with_reducible exact HFa.out | with_reducible refine Fr.drew ?_ | with_reducible refine Fr.alloc ?_ _))
         rintro e wz ⟨rfl, hf⟩
         replace HFa : Hid (Fr [] w0 wz) := Hd (Fr.trans (b := _) (by repeat (first | with_reducible exact HFa.out | with_reducible refine Fr.drew ?_ | with_reducible refine Fr.alloc ?_ _)) hf)
         clear hf))
  all_goals
    go_wp2_with fail
    go_ret
    exact ⟨congrArg (fun z => Ending.returned (.string z)) HS.out, HF0.out.trans (by repeat (first | with_reducible exact HFa.out | with_reducible refine Fr.drew ?_ | with_reducible refine Fr.alloc ?_ _))⟩
theorem show_closure (m : B) (tags : List Nat) (s : Wr) (ih : ShowQ (.write s)) : ShowQ (.closure m tags s) := by
  intro D hok hlen A w cs h
  obtain ⟨a3, a4, a5, a6, a8, a9, a10, a12, l3, l4, l5, l6, l8, l9, l10, l12, c3, c4, c5, c6, c8, c9, c10, c12, rfl, q3, q4, q5, q6, q8, q9, q10, q12⟩ := sr_all h
  simp only [Qs.ok, Bool.and_eq_true] at hok
  have hl : (tagsT tags).length <= 60000 /\ (wrT s).length <= 60000 := by simp only [qsT, List.length_append] at hlen; omega
  have HEw : Hid (∀ W, Fr [] w W -> Calls Tryz.prog 32 #[.slice a4 l4 c4] W fun e w'' => e = .returned (.string (bt (tagsT tags))) /\ Fr [] W w'') := Hd (fun W hf => tags_any tags (fun u hu => of_decide_eq_true (List.all_eq_true.1 hok.1.2 u hu)) hl.1 A W _ (Px.FlatS.keep hf (by simp) q4))
  obtain ⟨g, off, ys, rfl, rfl, hc12, hg, hE, hcell⟩ := st_one q12
  obtain ⟨y, hy⟩ := Px.sr_cells hE
  obtain ⟨yk, yt, yn, yj, ya3, ya4, ya5, ya6, ya8, ya9, ya10, ya12, yl3, yl4, yl5, yl6, yl8, yl9, yl10, yl12, yc3, yc4, yc5, yc6, yc8, yc9, yc10, yc12, yd⟩ := y
  simp only [Px.Cells13.list] at hy
  subst hy
  have HC1 : Hid (w.cell? ⟨g, off, none⟩ = some (.int .i64 yk) /\ w.cell? ⟨g, off + 1, none⟩ = some (.string ⟨yt.toArray⟩) /\ w.cell? ⟨g, off + 2, none⟩ = some (.string ⟨yn.toArray⟩) /\ w.cell? ⟨g, off + 3, none⟩ = some (.slice ya3 yl3 yc3) /\ w.cell? ⟨g, off + 4, none⟩ = some (.slice ya4 yl4 yc4) /\ w.cell? ⟨g, off + 5, none⟩ = some (.slice ya5 yl5 yc5) /\ w.cell? ⟨g, off + 6, none⟩ = some (.slice ya6 yl6 yc6) /\ w.cell? ⟨g, off + 7, none⟩ = some (.string ⟨yj.toArray⟩) /\ w.cell? ⟨g, off + 8, none⟩ = some (.slice ya8 yl8 yc8) /\ w.cell? ⟨g, off + 9, none⟩ = some (.slice ya9 yl9 yc9) /\ w.cell? ⟨g, off + 10, none⟩ = some (.slice ya10 yl10 yc10) /\ w.cell? ⟨g, off + 11, none⟩ = some (.bool yd) /\ w.cell? ⟨g, off + 12, none⟩ = some (.slice ya12 yl12 yc12)) := Hd ⟨hcell 0 _ rfl, hcell 1 _ rfl, hcell 2 _ rfl, hcell 3 _ rfl, hcell 4 _ rfl, hcell 5 _ rfl, hcell 6 _ rfl, hcell 7 _ rfl, hcell 8 _ rfl, hcell 9 _ rfl, hcell 10 _ rfl, hcell 11 _ rfl, hcell 12 _ rfl⟩
  have HGw : Hid (∀ W, Fr [] w W -> Calls Tryz.prog 14 #[.agg #[.int .i64 yk, .string ⟨yt.toArray⟩, .string ⟨yn.toArray⟩, .slice ya3 yl3 yc3, .slice ya4 yl4 yc4, .slice ya5 yl5 yc5, .slice ya6 yl6 yc6, .string ⟨yj.toArray⟩, .slice ya8 yl8 yc8, .slice ya9 yl9 yc9, .slice ya10 yl10 yc10, .bool yd, .slice ya12 yl12 yc12]] W fun e w'' => e = .returned (.string (bt (wrT s))) /\ Fr [] W w'') := Hd (fun W hf => ih D hok.2 hl.2 A W _ (SR.keep hf (by simp) hE))
  have hlmb := okName_len hok.1.1
  obtain ⟨mb, hmb⟩ : ∃ z, bt m = z := ⟨_, rfl⟩
  have hmbz := bs hmb hlmb
  have HS : Hid (⟨#[99, 114, 101, 97, 116, 101, 32, 99, 108, 111, 115, 117, 114, 101, 32]⟩ ++ mb ++ ⟨#[32, 115, 116, 114, 105, 112]⟩ ++ bt (tagsT tags) ++ ⟨#[32, 97, 115, 32]⟩ ++ bt (wrT s) = bt (qsT (.closure m tags s))) := Hd (by rw [<- hmb, show ⟨#[99, 114, 101, 97, 116, 101, 32, 99, 108, 111, 115, 117, 114, 101, 32]⟩ = bt [99, 114, 101, 97, 116, 101, 32, 99, 108, 111, 115, 117, 114, 101, 32] from rfl, show ⟨#[32, 115, 116, 114, 105, 112]⟩ = bt [32, 115, 116, 114, 105, 112] from rfl, show ⟨#[32, 97, 115, 32]⟩ = bt [32, 97, 115, 32] from rfl]; simp only [bt_cat, qsT])
  have hds : ((bt (tagsT tags)).size : Int) <= 60000 := by rw [bt_size]; omega
  have hus : ((bt (wrT s)).size : Int) <= 60000 := by rw [bt_size]; omega
  generalize bt (tagsT tags) = d at HEw HS hds
  generalize bt (wrT s) = u at HGw HS hus
  change Calls _ _ #[.agg (List.toArray [.int .i64 4, .string ⟨#[]⟩, .string (bt m), _, _, _, _, _, _, _, _, _, _])] _ _
  rw [hmb]
  have HB := Hd (Blk.new w 29 [.int .i64 4, .string ⟨#[]⟩, .string mb, .slice a3 l3 c3, .slice a4 l4 c4, .slice a5 l5 c5, .slice a6 l6 c6, .string ⟨#[]⟩, .slice a8 l8 c8, .slice a9 l9 c9, .slice a10 l10 c10, .bool false, .slice (some ⟨g, off, none⟩) 1 c12])
  have HF0 : Hid (Fr [] w (w.alloc (.cells #[.int .i64 4, .string ⟨#[]⟩, .string mb, .slice a3 l3 c3, .slice a4 l4 c4, .slice a5 l5 c5, .slice a6 l6 c6, .string ⟨#[]⟩, .slice a8 l8 c8, .slice a9 l9 c9, .slice a10 l10 c10, .bool false, .slice (some ⟨g, off, none⟩) 1 c12] 29))) := Hd ((Fr.refl [] w).alloc _)
  have hc12i : (1 : Int) <= c12 := by omega
  clear h hok hlen hl hmb hlmb hE hcell q3 q4 q5 q6 q8 q9 q10 q12 ih
  have ss0 : ¬ 9223372036854775807 < 15 + mb.size := by omega
  have ss1 : ¬ 9223372036854775807 < 15 + mb.size + 6 := by omega
  have ss2 : ¬ 9223372036854775807 < 15 + mb.size + 6 + d.size := by omega
  have ss3 : ¬ 9223372036854775807 < 15 + mb.size + 6 + d.size + 4 := by omega
  have ss4 : ¬ 9223372036854775807 < 15 + mb.size + 6 + d.size + 4 + u.size := by omega
  go_enter Tryz.func14, Tryz.ntmps14
  go_upto_region 18 with fail
  generalize w.alloc (.cells #[.int .i64 4, .string ⟨#[]⟩, .string mb, .slice a3 l3 c3, .slice a4 l4 c4, .slice a5 l5 c5, .slice a6 l6 c6, .string ⟨#[]⟩, .slice a8 l8 c8, .slice a9 l9 c9, .slice a10 l10 c10, .bool false, .slice (some ⟨g, off, none⟩) 1 c12] 29) = w0 at HB HF0 ⊢
  have HE : Hid (∀ W, Fr [] w0 W -> Calls Tryz.prog 32 #[.slice a4 l4 c4] W fun e w'' => e = .returned (.string d) /\ Fr [] W w'') := Hd (fun W hf => HEw.out W (HF0.out.trans hf))
  have HG : Hid (∀ W, Fr [] w0 W -> Calls Tryz.prog 14 #[.agg #[.int .i64 yk, .string ⟨yt.toArray⟩, .string ⟨yn.toArray⟩, .slice ya3 yl3 yc3, .slice ya4 yl4 yc4, .slice ya5 yl5 yc5, .slice ya6 yl6 yc6, .string ⟨yj.toArray⟩, .slice ya8 yl8 yc8, .slice ya9 yl9 yc9, .slice ya10 yl10 yc10, .bool yd, .slice ya12 yl12 yc12]] W fun e w'' => e = .returned (.string u) /\ Fr [] W w'') := Hd (fun W hf => HGw.out W (HF0.out.trans hf))
  have HE0 := HE
  have HG0 := HG
  have HKEY : Hid (∀ W, Fr [] w0 W -> W.cell? ⟨w.heap.size, 2, none⟩ = some (.string mb) /\ W.cell? ⟨w.heap.size, 4, none⟩ = some (.slice a4 l4 c4) /\ W.cell? ⟨w.heap.size, 12, none⟩ = some (.slice (some ⟨g, off, none⟩) 1 c12) /\ W.cell? ⟨g, off, none⟩ = some (.int .i64 yk) /\ W.cell? ⟨g, off + 1, none⟩ = some (.string ⟨yt.toArray⟩) /\ W.cell? ⟨g, off + 2, none⟩ = some (.string ⟨yn.toArray⟩) /\ W.cell? ⟨g, off + 3, none⟩ = some (.slice ya3 yl3 yc3) /\ W.cell? ⟨g, off + 4, none⟩ = some (.slice ya4 yl4 yc4) /\ W.cell? ⟨g, off + 5, none⟩ = some (.slice ya5 yl5 yc5) /\ W.cell? ⟨g, off + 6, none⟩ = some (.slice ya6 yl6 yc6) /\ W.cell? ⟨g, off + 7, none⟩ = some (.string ⟨yj.toArray⟩) /\ W.cell? ⟨g, off + 8, none⟩ = some (.slice ya8 yl8 yc8) /\ W.cell? ⟨g, off + 9, none⟩ = some (.slice ya9 yl9 yc9) /\ W.cell? ⟨g, off + 10, none⟩ = some (.slice ya10 yl10 yc10) /\ W.cell? ⟨g, off + 11, none⟩ = some (.bool yd) /\ W.cell? ⟨g, off + 12, none⟩ = some (.slice ya12 yl12 yc12)) := Hd fun W hW => ⟨(HB.out.keep hW (by simp)).cell 2, (HB.out.keep hW (by simp)).cell 4, (HB.out.keep hW (by simp)).cell 12, ((HF0.out.trans hW).cell (p := ⟨g, off, none⟩) hg (by simp)).trans HC1.out.1, ((HF0.out.trans hW).cell (p := ⟨g, off + 1, none⟩) hg (by simp)).trans HC1.out.2.1, ((HF0.out.trans hW).cell (p := ⟨g, off + 2, none⟩) hg (by simp)).trans HC1.out.2.2.1, ((HF0.out.trans hW).cell (p := ⟨g, off + 3, none⟩) hg (by simp)).trans HC1.out.2.2.2.1, ((HF0.out.trans hW).cell (p := ⟨g, off + 4, none⟩) hg (by simp)).trans HC1.out.2.2.2.2.1, ((HF0.out.trans hW).cell (p := ⟨g, off + 5, none⟩) hg (by simp)).trans HC1.out.2.2.2.2.2.1, ((HF0.out.trans hW).cell (p := ⟨g, off + 6, none⟩) hg (by simp)).trans HC1.out.2.2.2.2.2.2.1, ((HF0.out.trans hW).cell (p := ⟨g, off + 7, none⟩) hg (by simp)).trans HC1.out.2.2.2.2.2.2.2.1, ((HF0.out.trans hW).cell (p := ⟨g, off + 8, none⟩) hg (by simp)).trans HC1.out.2.2.2.2.2.2.2.2.1, ((HF0.out.trans hW).cell (p := ⟨g, off + 9, none⟩) hg (by simp)).trans HC1.out.2.2.2.2.2.2.2.2.2.1, ((HF0.out.trans hW).cell (p := ⟨g, off + 10, none⟩) hg (by simp)).trans HC1.out.2.2.2.2.2.2.2.2.2.2.1, ((HF0.out.trans hW).cell (p := ⟨g, off + 11, none⟩) hg (by simp)).trans HC1.out.2.2.2.2.2.2.2.2.2.2.2.1, ((HF0.out.trans hW).cell (p := ⟨g, off + 12, none⟩) hg (by simp)).trans HC1.out.2.2.2.2.2.2.2.2.2.2.2.2⟩
  have HFa : Hid (Fr [] w0 w0) := Hd (Fr.refl [] w0)
  go_region_held3 (fun W => W.cell? ⟨w.heap.size, 2, none⟩ = some (.string mb) /\ W.cell? ⟨w.heap.size, 4, none⟩ = some (.slice a4 l4 c4) /\ W.cell? ⟨w.heap.size, 12, none⟩ = some (.slice (some ⟨g, off, none⟩) 1 c12) /\ W.cell? ⟨g, off, none⟩ = some (.int .i64 yk) /\ W.cell? ⟨g, off + 1, none⟩ = some (.string ⟨yt.toArray⟩) /\ W.cell? ⟨g, off + 2, none⟩ = some (.string ⟨yn.toArray⟩) /\ W.cell? ⟨g, off + 3, none⟩ = some (.slice ya3 yl3 yc3) /\ W.cell? ⟨g, off + 4, none⟩ = some (.slice ya4 yl4 yc4) /\ W.cell? ⟨g, off + 5, none⟩ = some (.slice ya5 yl5 yc5) /\ W.cell? ⟨g, off + 6, none⟩ = some (.slice ya6 yl6 yc6) /\ W.cell? ⟨g, off + 7, none⟩ = some (.string ⟨yj.toArray⟩) /\ W.cell? ⟨g, off + 8, none⟩ = some (.slice ya8 yl8 yc8) /\ W.cell? ⟨g, off + 9, none⟩ = some (.slice ya9 yl9 yc9) /\ W.cell? ⟨g, off + 10, none⟩ = some (.slice ya10 yl10 yc10) /\ W.cell? ⟨g, off + 11, none⟩ = some (.bool yd) /\ W.cell? ⟨g, off + 12, none⟩ = some (.slice ya12 yl12 yc12))
    ((refine HKEY.out _ ?_; repeat (first | with_reducible exact HFa.out | with_reducible refine Fr.drew ?_ | with_reducible refine Fr.alloc ?_ _)))
    (first
      | (go_at_call 32
         with_reducible refine Calls.mono (HE.out _ ?hf0) ?_
         case hf0 => (repeat (first | with_reducible exact HFa.out | with_reducible refine Fr.drew ?_ | with_reducible refine Fr.alloc ?_ _))
         rintro e wz ⟨rfl, hf⟩
         replace HFa : Hid (Fr [] w0 wz) := Hd (Fr.trans (b := _) (by repeat (first | with_reducible exact HFa.out | with_reducible refine Fr.drew ?_ | with_reducible refine Fr.alloc ?_ _)) hf)
         clear hf)
      | (go_at_call 14
         with_reducible refine Calls.mono (HG.out _ ?hf0) ?_
         case hf0 => (repeat (first | with_reducible exact HFa.out | with_reducible refine Fr.drew ?_ | with_reducible refine Fr.alloc ?_ _))
         rintro e wz ⟨rfl, hf⟩
         replace HFa : Hid (Fr [] w0 wz) := Hd (Fr.trans (b := _) (by repeat (first | with_reducible exact HFa.out | with_reducible refine Fr.drew ?_ | with_reducible refine Fr.alloc ?_ _)) hf)
         clear hf))
  all_goals
    go_wp2_with fail
    go_ret
    exact ⟨congrArg (fun z => Ending.returned (.string z)) HS.out, HF0.out.trans (by repeat (first | with_reducible exact HFa.out | with_reducible refine Fr.drew ?_ | with_reducible refine Fr.alloc ?_ _))⟩
theorem coT_eq (x : Co) : coT x = x.name ++ [32] ++ (if x.text then [116, 101, 120, 116] else [105, 110, 116]) ++ (if x.ref.isEmpty then [] else [32, 114, 101, 102, 32] ++ x.ref) := by
 obtain ⟨n, t, r⟩ := x
 cases t <;> cases r <;> simp [coT, Co.line, Pc.render, Pc.blanks, Pc.Pc.bytes]
theorem cols_take (l : List Co) (k : Nat) (h : k < l.length) : jn coT (l.take (k + 1)) = jn coT (l.take k) ++ (if k = 0 then [] else [44, 32]) ++ coT l[k] := jn_take coT l k h
theorem show_table (m : B) (c : Co) (r : List Co) : ShowQ (.table m c r) := by
 intro D hok hlen A w cs h
 obtain ⟨a3, a4, a5, a6, a8, a9, a10, a12, l3, l4, l5, l6, l8, l9, l10, l12, c3, c4, c5, c6, c8, c9, c10, c12, rfl, q3, q4, q5, q6, q8, q9, q10, q12⟩ := sr_all h
 simp only [Qs.ok, Bool.and_eq_true] at hok
 obtain ⟨L, hL⟩ : ∃ L, c :: r = L := ⟨_, rfl⟩
 have hall : ∀ x ∈ L, x.ok = true := fun x hx => by rw [<- hL] at hx; rcases List.mem_cons.1 hx with rfl | hx; exact hok.1.2; exact List.all_eq_true.1 hok.2 x hx
 have HOK := Hd hall
 have hT : qsT (.table m c r) = [99, 114, 101, 97, 116, 101, 32, 116, 97, 98, 108, 101, 32] ++ m ++ [40] ++ jn coT L ++ [41] := by rw [<- hL]; rfl
 rw [hL] at q3
 rw [hT] at hlen ⊢
 obtain ⟨f1, f2, f3⟩ := flat_form (cells := Px.colC) (size := 3) (fun _ => rfl) q3
 rw [List.length_map] at f1 f2
 subst f1
 have HIC := Hd f3
 have hlmb := okName_len hok.1.1
 obtain ⟨mb, hmb⟩ : ∃ z, bt m = z := ⟨_, rfl⟩
 have hmbz := bs hmb hlmb
 have hlt : ∀ k, ([99, 114, 101, 97, 116, 101, 32, 116, 97, 98, 108, 101, 32] ++ m ++ [40] ++ jn coT (L.take k)).length <= 60000 := fun k => by
  have h1 := jn_le coT L k
  simp only [List.length_append] at hlen ⊢
  omega
 have hLl : L.length <= 60000 := by
  have h1 := jn_len coT L
  simp only [List.length_append] at hlen
  simp at hlen
  omega
 have HLT := Hd hlt
 have HLE := Hd hlen
 have HP0 : Hid (⟨#[99, 114, 101, 97, 116, 101, 32, 116, 97, 98, 108, 101, 32]⟩ ++ mb ++ ⟨#[40]⟩ = bt ([99, 114, 101, 97, 116, 101, 32, 116, 97, 98, 108, 101, 32] ++ m ++ [40])) := Hd (by rw [<- hmb, show ⟨#[99, 114, 101, 97, 116, 101, 32, 116, 97, 98, 108, 101, 32]⟩ = bt [99, 114, 101, 97, 116, 101, 32, 116, 97, 98, 108, 101, 32] from rfl, show ⟨#[40]⟩ = bt [40] from rfl]; simp only [bt_cat])
 have hp0 : (((⟨#[99, 114, 101, 97, 116, 101, 32, 116, 97, 98, 108, 101, 32]⟩ : ByteArray) ++ mb ++ ⟨#[40]⟩).size : Int) <= 60000 := by rw [HP0.out, bt_size]; have := hlt 0; simp only [List.length_append] at this ⊢; omega
 change Calls _ _ #[.agg (List.toArray [.int .i64 1, .string ⟨#[]⟩, .string (bt m), _, _, _, _, _, _, _, _, _, _])] _ _
 rw [hmb]
 have HB := Hd (Blk.new w 29 [.int .i64 1, .string ⟨#[]⟩, .string mb, .slice a3 L.length c3, .slice a4 l4 c4, .slice a5 l5 c5, .slice a6 l6 c6, .string ⟨#[]⟩, .slice a8 l8 c8, .slice a9 l9 c9, .slice a10 l10 c10, .bool false, .slice a12 l12 c12])
 have HF0 : Hid (Fr [] w (w.alloc (.cells #[.int .i64 1, .string ⟨#[]⟩, .string mb, .slice a3 L.length c3, .slice a4 l4 c4, .slice a5 l5 c5, .slice a6 l6 c6, .string ⟨#[]⟩, .slice a8 l8 c8, .slice a9 l9 c9, .slice a10 l10 c10, .bool false, .slice a12 l12 c12] 29))) := Hd ((Fr.refl [] w).alloc _)
 obtain ⟨mm, hmm⟩ : ∃ mm : B, [99, 114, 101, 97, 116, 101, 32, 116, 97, 98, 108, 101, 32] ++ m ++ [40] = mm := ⟨_, rfl⟩
 rw [hmm] at HLT HP0 HLE ⊢
 clear h hok hlen hlt hall hT hmb hlmb hmm hL f2 f3 q3 q4 q5 q6 q8 q9 q10 q12
 have hli : (L.length : Int) <= 60000 := by omega
 go_enter Tryz.func14, Tryz.ntmps14
 go_upto_region 3 with fail
 generalize w.alloc (.cells #[.int .i64 1, .string ⟨#[]⟩, .string mb, .slice a3 L.length c3, .slice a4 l4 c4, .slice a5 l5 c5, .slice a6 l6 c6, .string ⟨#[]⟩, .slice a8 l8 c8, .slice a9 l9 c9, .slice a10 l10 c10, .bool false, .slice a12 l12 c12] 29) = w0 at HB HF0 ⊢
 have hB2 := HB.out.cell 2
 simp only [List.getElem?_cons_zero, List.getElem?_cons_succ] at hB2
 go_wp2_with fail
 go_loopw [3, 4] (fun s u wr => ∃ (k : Nat) (o : ByteArray), s = .string o /\ u = .int .i64 k /\ k <= L.length /\ (o.size : Int) <= 60000 /\ Hid (o = bt (mm ++ jn coT (L.take k))) /\ Hid (Fr [] w0 wr)) (fun _ u _ => L.length - (intOf u).toNat)
 case atStart => exact ⟨0, _, rfl, rfl, Nat.zero_le _, hp0, Hd (by rw [HP0.out]; simp [jn]), Hd (Fr.refl [] w0)⟩
 case round =>
  obtain ⟨k, o, rfl, rfl, hk, ho, HOT, HF⟩ := hrel
  have hBr := HB.out.keep HF.out (by simp)
  have hB3 := hBr.cell 3
  simp only [List.getElem?_cons_zero, List.getElem?_cons_succ] at hB3
  have hbw := hBr.lt
  clear hBr
  by_cases hkl : k < L.length
  ·have hkl' : (k : Int) < L.length := by omega
   obtain ⟨g, off, rfl, _, hg, hcap, hcell⟩ := HIC.out k (by simpa using hkl)
   have frw : Fr [] w wr := HF0.out.trans HF.out
   obtain ⟨x, hx⟩ : ∃ x, L[k] = x := ⟨_, rfl⟩
   rw [List.getElem_map, hx] at hcell
   have x0 := (frw.cell (p := ⟨g, off + k * 3, none⟩) hg (by simp)).trans (hcell 0 _ rfl)
   have x1 := (frw.cell (p := ⟨g, off + k * 3 + 1, none⟩) hg (by simp)).trans (hcell 1 _ rfl)
   have x2 := (frw.cell (p := ⟨g, off + k * 3 + 2, none⟩) hg (by simp)).trans (hcell 2 _ rfl)
   have hxok : x.ok = true := by rw [<- hx]; exact HOK.out _ (List.getElem_mem _)
   have hst : mm ++ jn coT (L.take (k + 1)) = mm ++ jn coT (L.take k) ++ (if k = 0 then [] else [44, 32]) ++ coT x := by rw [cols_take _ _ hkl, hx]; simp only [List.append_assoc]
   have hnl := HLT.out (k + 1)
   have hnb : ((bt (mm ++ jn coT (L.take (k + 1)))).size : Int) <= 60000 := by rw [bt_size]; omega
   have hcl : (L.length : Int) <= c3 := by rw [List.length_map] at hcap; omega
   have hgr : g < wr.heap.size := Nat.lt_of_lt_of_le hg frw.size
   have HST : Hid (o ++ (if k = 0 then bt [] else bt [44, 32]) ++ bt (coT x) = bt (mm ++ jn coT (L.take (k + 1)))) := Hd (by
    rw [HOT.out, hst]
    split <;> simp only [bt_cat])
   rw [coT_eq] at HST
   obtain ⟨xn, xt, xr⟩ := x
   simp only [Co.col] at x0 x1 x2
   simp only [Co.ok, Bool.and_eq_true] at hxok
   have hnl2 := okName_len hxok.1
   have hrl : xr.length <= 16 := by
    rcases hxr : xr with _ | ⟨a, b⟩
    ·simp
    ·have := hxok.2; rw [hxr] at this; simp only [Bool.or_eq_true] at this; rcases this with h | h; cases h; exact okName_len h
   obtain ⟨nb, hnbb⟩ : ∃ nb, bt xn = nb := ⟨_, rfl⟩
   have hnbz := bs hnbb hnl2
   change wr.cell? _ = some (.string (bt xn)) at x0
   rw [hnbb] at x0
   have HST2 : Hid (o ++ (if k = 0 then bt [] else bt [44, 32]) ++ (nb ++ bt [32] ++ bt (if xt then [116, 101, 120, 116] else [105, 110, 116]) ++ bt (if xr.isEmpty then [] else [32, 114, 101, 102, 32] ++ xr)) = bt (mm ++ jn coT (L.take (k + 1)))) := Hd (by rw [<- HST.out, <- hnbb]; simp only [bt_cat])
   have hrz : ((bt xr).size : Int) <= 16 := by rw [bt_size]; omega
   clear frw hx hcell hxok hst hnl HOT HST hcap hnl2 hrl hnbb
   cases xt
   ·have x1 : wr.cell? ⟨g, off + k * 3 + 1, none⟩ = some (.int .i64 1) := x1
    rcases hxr : xr with _ | ⟨ra, rb⟩
    ·have x2 : wr.cell? ⟨g, off + k * 3 + 2, none⟩ = some (.string ⟨([] : B).toArray⟩) := by rw [<- hxr]; exact x2
     rw [hxr] at HST2 hrz
     simp only [List.isEmpty_nil, Bool.false_eq_true, if_false, if_true] at HST2
     by_cases hk0 : k = 0
     ·subst hk0
      simp only [Nat.zero_mul, Nat.add_zero] at x0 x1 x2
      have HS : Hid (o ++ nb ++ ⟨#[32]⟩ ++ ⟨#[105, 110, 116]⟩ = bt (mm ++ jn coT (L.take (0 + 1)))) := Hd (by
       rw [<- HST2.out, if_pos rfl, show bt [] = ByteArray.empty from rfl, ByteArray.append_empty]
       simp only [ext3, show bt [] = ByteArray.empty from rfl, ByteArray.append_empty]
       first | done | rfl)
      go_upto_region 9 with fail
      have hI0 : wr.drew.cell? ⟨w.heap.size, 3, none⟩ = some (.slice (some ⟨g, off, none⟩) L.length c3) /\ wr.drew.cell? ⟨g, off, none⟩ = some (.string nb) /\ wr.drew.cell? ⟨g, off + 1, none⟩ = some (.int .i64 1) := ⟨hB3, x0, x1⟩
      have hfn : Fr [] wr (wr.drew.alloc (.cells #[.string ⟨#[105, 110, 116]⟩, .string ⟨#[116, 101, 120, 116]⟩] 9)) := ((Fr.refl [] wr).drew).alloc _
      have hI1 : (wr.drew.alloc (.cells #[.string ⟨#[105, 110, 116]⟩, .string ⟨#[116, 101, 120, 116]⟩] 9)).cell? ⟨w.heap.size, 3, none⟩ = some (.slice (some ⟨g, off, none⟩) L.length c3) /\ (wr.drew.alloc (.cells #[.string ⟨#[105, 110, 116]⟩, .string ⟨#[116, 101, 120, 116]⟩] 9)).cell? ⟨g, off, none⟩ = some (.string nb) /\ (wr.drew.alloc (.cells #[.string ⟨#[105, 110, 116]⟩, .string ⟨#[116, 101, 120, 116]⟩] 9)).cell? ⟨g, off + 1, none⟩ = some (.int .i64 1) := ⟨(hfn.cell (p := ⟨w.heap.size, 3, none⟩) hbw (by simp)).trans hB3, (hfn.cell (p := ⟨g, off, none⟩) hgr (by simp)).trans x0, (hfn.cell (p := ⟨g, off + 1, none⟩) hgr (by simp)).trans x1⟩
      have hx2n : (wr.drew.alloc (.cells #[.string ⟨#[105, 110, 116]⟩, .string ⟨#[116, 101, 120, 116]⟩] 9)).cell? ⟨g, off + 2, none⟩ = some (.string ⟨([] : B).toArray⟩) := (hfn.cell (p := ⟨g, off + 2, none⟩) hgr (by simp)).trans x2
      have hb3n := hI1.1
      have HFn : Hid (Fr [] w0 (wr.drew.alloc (.cells #[.string ⟨#[105, 110, 116]⟩, .string ⟨#[116, 101, 120, 116]⟩] 9))) := Hd (HF.out.trans hfn)
      have hwr : IntKind.i64.wrap (1 - 1) = 0 := by decide
      have ss0 : ¬ 9223372036854775807 < o.size + nb.size := by omega
      have ss1 : ¬ 9223372036854775807 < o.size + nb.size + 1 := by omega
      have ss2 : ¬ 9223372036854775807 < o.size + nb.size + 1 + 3 := by omega
      refine Seq3.wp_region_text (fun i => i != 9 && i != 18) (fun _ => none) (fun _ => false) (fun w' => w'.cell? ⟨w.heap.size, 3, none⟩ = some (.slice (some ⟨g, off, none⟩) L.length c3) /\ w'.cell? ⟨g, off, none⟩ = some (.string nb) /\ w'.cell? ⟨g, off + 1, none⟩ = some (.int .i64 1)) (by kernel_rfl) (by kernel_rfl) hI0 ?_
      iterate 2 (refine Seq3.wpL_quiet rfl rfl rfl (fun K hK => ?_); go_big_quiet_op; (first | refine hK _ ?_ | refine ⟨_, by intros; rfl, hK _ ?_⟩); clear hK K)
      refine Seq3.wpL_held (v := .slice (some ⟨g, off, none⟩) L.length c3) rfl rfl (fun w' hI => ?_) ?_
      ·have hI' : w'.cell? ⟨w.heap.size, 3, none⟩ = some (.slice (some ⟨g, off, none⟩) L.length c3) := hI.1
       simp [go_sem, execOp, hI']
      simp only [Act.put, qA, qB, qC]
      iterate 3 (refine Seq3.wpL_quiet rfl rfl rfl (fun K hK => ?_); go_big_quiet_op; (first | refine hK _ ?_ | refine ⟨_, by intros; rfl, hK _ ?_⟩); clear hK K)
      refine Seq3.wpL_held (v := .string nb) rfl rfl (fun w' hI => ?_) ?_
      ·have hI' : w'.cell? ⟨g, off, none⟩ = some (.string nb) := hI.2.1
       simp [go_sem, execOp, hI']
      simp only [Act.put, qA, qB, qC]
      iterate 2 (refine Seq3.wpL_quiet rfl rfl rfl (fun K hK => ?_); go_big_quiet_op; (first | refine hK _ ?_ | refine ⟨_, by intros; rfl, hK _ ?_⟩); clear hK K)
      refine Seq3.wpL_val (v := .slice (some ⟨wr.heap.size, 0, none⟩) 2 2) (w' := wr.drew.alloc (.cells #[.string ⟨#[105, 110, 116]⟩, .string ⟨#[116, 101, 120, 116]⟩] 9)) rfl rfl (by simp [go_sem, execOp]) hI1 ?_
      simp only [Act.put, qA, qB, qC]
      (refine Seq3.wpL_quiet rfl rfl rfl (fun K hK => ?_); go_big_quiet_op; (first | refine hK _ ?_ | refine ⟨_, by intros; rfl, hK _ ?_⟩); clear hK K)
      refine Seq3.wpL_held (v := .slice (some ⟨g, off, none⟩) L.length c3) rfl rfl (fun w' hI => ?_) ?_
      ·have hI' : w'.cell? ⟨w.heap.size, 3, none⟩ = some (.slice (some ⟨g, off, none⟩) L.length c3) := hI.1
       simp [go_sem, execOp, hI']
      simp only [Act.put, qA, qB, qC]
      iterate 3 (refine Seq3.wpL_quiet rfl rfl rfl (fun K hK => ?_); go_big_quiet_op; (first | refine hK _ ?_ | refine ⟨_, by intros; rfl, hK _ ?_⟩); clear hK K)
      refine Seq3.wpL_held (v := .int .i64 1) rfl rfl (fun w' hI => ?_) ?_
      ·have hI' : w'.cell? ⟨g, off + 1, none⟩ = some (.int .i64 1) := hI.2.2
       simp [go_sem, execOp, hI']
      simp only [Act.put, qA, qB, qC]
      iterate 2 (refine Seq3.wpL_quiet rfl rfl rfl (fun K hK => ?_); go_big_quiet_op; (first | refine hK _ ?_ | refine ⟨_, by intros; rfl, hK _ ?_⟩); clear hK K)
      have hac : (wr.drew.alloc (.cells #[.string ⟨#[105, 110, 116]⟩, .string ⟨#[116, 101, 120, 116]⟩] 9)).cell? ⟨wr.heap.size, 0, none⟩ = some (.string ⟨#[105, 110, 116]⟩) := (Blk.new wr.drew 9 [.string ⟨#[105, 110, 116]⟩, .string ⟨#[116, 101, 120, 116]⟩]).cell 0
      refine Seq3.wpL_val (v := .string ⟨#[105, 110, 116]⟩) (w' := wr.drew.alloc (.cells #[.string ⟨#[105, 110, 116]⟩, .string ⟨#[116, 101, 120, 116]⟩] 9)) rfl rfl (by simp [go_sem, execOp, hac]) hI1 ?_
      simp only [Act.put, qA, qB, qC]
      iterate 2 (refine Seq3.wpL_quiet rfl rfl rfl (fun K hK => ?_); go_big_quiet_op; (first | refine hK _ ?_ | refine ⟨_, by intros; rfl, hK _ ?_⟩); clear hK K)
      refine Seq3.wpL_nil ?_
      clear hI0 hI1 hac hwr hfn x0 x1 x2
      generalize wr.drew.alloc (.cells #[.string ⟨#[105, 110, 116]⟩, .string ⟨#[116, 101, 120, 116]⟩] 9) = wn at hx2n hb3n HFn ⊢
      go_wp2_with fail
      go_roundw
      case rel => exact ⟨0 + 1, _, congrArg Value.string HS.out, by go_num, by omega, by omega, Hd rfl, HFn⟩
      case measure => simp only [intOf]; omega
     ·have hk1 : (0 : Int) < k := by omega
      have HS : Hid (o ++ ⟨#[44, 32]⟩ ++ nb ++ ⟨#[32]⟩ ++ ⟨#[105, 110, 116]⟩ = bt (mm ++ jn coT (L.take (k + 1)))) := Hd (by
       rw [<- HST2.out, if_neg hk0]
       simp only [ext3, show bt [] = ByteArray.empty from rfl, ByteArray.append_empty]
       first | done | rfl)
      go_upto_region 9 with fail
      have hI0 : wr.drew.cell? ⟨w.heap.size, 3, none⟩ = some (.slice (some ⟨g, off, none⟩) L.length c3) /\ wr.drew.cell? ⟨g, off + k * 3, none⟩ = some (.string nb) /\ wr.drew.cell? ⟨g, off + k * 3 + 1, none⟩ = some (.int .i64 1) := ⟨hB3, x0, x1⟩
      have hfn : Fr [] wr (wr.drew.alloc (.cells #[.string ⟨#[105, 110, 116]⟩, .string ⟨#[116, 101, 120, 116]⟩] 9)) := ((Fr.refl [] wr).drew).alloc _
      have hI1 : (wr.drew.alloc (.cells #[.string ⟨#[105, 110, 116]⟩, .string ⟨#[116, 101, 120, 116]⟩] 9)).cell? ⟨w.heap.size, 3, none⟩ = some (.slice (some ⟨g, off, none⟩) L.length c3) /\ (wr.drew.alloc (.cells #[.string ⟨#[105, 110, 116]⟩, .string ⟨#[116, 101, 120, 116]⟩] 9)).cell? ⟨g, off + k * 3, none⟩ = some (.string nb) /\ (wr.drew.alloc (.cells #[.string ⟨#[105, 110, 116]⟩, .string ⟨#[116, 101, 120, 116]⟩] 9)).cell? ⟨g, off + k * 3 + 1, none⟩ = some (.int .i64 1) := ⟨(hfn.cell (p := ⟨w.heap.size, 3, none⟩) hbw (by simp)).trans hB3, (hfn.cell (p := ⟨g, off + k * 3, none⟩) hgr (by simp)).trans x0, (hfn.cell (p := ⟨g, off + k * 3 + 1, none⟩) hgr (by simp)).trans x1⟩
      have hx2n : (wr.drew.alloc (.cells #[.string ⟨#[105, 110, 116]⟩, .string ⟨#[116, 101, 120, 116]⟩] 9)).cell? ⟨g, off + k * 3 + 2, none⟩ = some (.string ⟨([] : B).toArray⟩) := (hfn.cell (p := ⟨g, off + k * 3 + 2, none⟩) hgr (by simp)).trans x2
      have hb3n := hI1.1
      have HFn : Hid (Fr [] w0 (wr.drew.alloc (.cells #[.string ⟨#[105, 110, 116]⟩, .string ⟨#[116, 101, 120, 116]⟩] 9))) := Hd (HF.out.trans hfn)
      have hwr : IntKind.i64.wrap (1 - 1) = 0 := by decide
      have ss0 : ¬ 9223372036854775807 < o.size + 2 + nb.size := by omega
      have ss1 : ¬ 9223372036854775807 < o.size + 2 + nb.size + 1 := by omega
      have ss2 : ¬ 9223372036854775807 < o.size + 2 + nb.size + 1 + 3 := by omega
      refine Seq3.wp_region_text (fun i => i != 9 && i != 18) (fun _ => none) (fun _ => false) (fun w' => w'.cell? ⟨w.heap.size, 3, none⟩ = some (.slice (some ⟨g, off, none⟩) L.length c3) /\ w'.cell? ⟨g, off + k * 3, none⟩ = some (.string nb) /\ w'.cell? ⟨g, off + k * 3 + 1, none⟩ = some (.int .i64 1)) (by kernel_rfl) (by kernel_rfl) hI0 ?_
      iterate 2 (refine Seq3.wpL_quiet rfl rfl rfl (fun K hK => ?_); go_big_quiet_op; (first | refine hK _ ?_ | refine ⟨_, by intros; rfl, hK _ ?_⟩); clear hK K)
      refine Seq3.wpL_held (v := .slice (some ⟨g, off, none⟩) L.length c3) rfl rfl (fun w' hI => ?_) ?_
      ·have hI' : w'.cell? ⟨w.heap.size, 3, none⟩ = some (.slice (some ⟨g, off, none⟩) L.length c3) := hI.1
       simp [go_sem, execOp, hI']
      simp only [Act.put, qA, qB, qC]
      iterate 3 (refine Seq3.wpL_quiet rfl rfl rfl (fun K hK => ?_); go_big_quiet_op; (first | refine hK _ ?_ | refine ⟨_, by intros; rfl, hK _ ?_⟩); clear hK K)
      refine Seq3.wpL_held (v := .string nb) rfl rfl (fun w' hI => ?_) ?_
      ·have hI' : w'.cell? ⟨g, off + k * 3, none⟩ = some (.string nb) := hI.2.1
       simp [go_sem, execOp, hI']
      simp only [Act.put, qA, qB, qC]
      iterate 2 (refine Seq3.wpL_quiet rfl rfl rfl (fun K hK => ?_); go_big_quiet_op; (first | refine hK _ ?_ | refine ⟨_, by intros; rfl, hK _ ?_⟩); clear hK K)
      refine Seq3.wpL_val (v := .slice (some ⟨wr.heap.size, 0, none⟩) 2 2) (w' := wr.drew.alloc (.cells #[.string ⟨#[105, 110, 116]⟩, .string ⟨#[116, 101, 120, 116]⟩] 9)) rfl rfl (by simp [go_sem, execOp]) hI1 ?_
      simp only [Act.put, qA, qB, qC]
      (refine Seq3.wpL_quiet rfl rfl rfl (fun K hK => ?_); go_big_quiet_op; (first | refine hK _ ?_ | refine ⟨_, by intros; rfl, hK _ ?_⟩); clear hK K)
      refine Seq3.wpL_held (v := .slice (some ⟨g, off, none⟩) L.length c3) rfl rfl (fun w' hI => ?_) ?_
      ·have hI' : w'.cell? ⟨w.heap.size, 3, none⟩ = some (.slice (some ⟨g, off, none⟩) L.length c3) := hI.1
       simp [go_sem, execOp, hI']
      simp only [Act.put, qA, qB, qC]
      iterate 3 (refine Seq3.wpL_quiet rfl rfl rfl (fun K hK => ?_); go_big_quiet_op; (first | refine hK _ ?_ | refine ⟨_, by intros; rfl, hK _ ?_⟩); clear hK K)
      refine Seq3.wpL_held (v := .int .i64 1) rfl rfl (fun w' hI => ?_) ?_
      ·have hI' : w'.cell? ⟨g, off + k * 3 + 1, none⟩ = some (.int .i64 1) := hI.2.2
       simp [go_sem, execOp, hI']
      simp only [Act.put, qA, qB, qC]
      iterate 2 (refine Seq3.wpL_quiet rfl rfl rfl (fun K hK => ?_); go_big_quiet_op; (first | refine hK _ ?_ | refine ⟨_, by intros; rfl, hK _ ?_⟩); clear hK K)
      have hac : (wr.drew.alloc (.cells #[.string ⟨#[105, 110, 116]⟩, .string ⟨#[116, 101, 120, 116]⟩] 9)).cell? ⟨wr.heap.size, 0, none⟩ = some (.string ⟨#[105, 110, 116]⟩) := (Blk.new wr.drew 9 [.string ⟨#[105, 110, 116]⟩, .string ⟨#[116, 101, 120, 116]⟩]).cell 0
      refine Seq3.wpL_val (v := .string ⟨#[105, 110, 116]⟩) (w' := wr.drew.alloc (.cells #[.string ⟨#[105, 110, 116]⟩, .string ⟨#[116, 101, 120, 116]⟩] 9)) rfl rfl (by simp [go_sem, execOp, hac]) hI1 ?_
      simp only [Act.put, qA, qB, qC]
      iterate 2 (refine Seq3.wpL_quiet rfl rfl rfl (fun K hK => ?_); go_big_quiet_op; (first | refine hK _ ?_ | refine ⟨_, by intros; rfl, hK _ ?_⟩); clear hK K)
      refine Seq3.wpL_nil ?_
      clear hI0 hI1 hac hwr hfn x0 x1 x2
      generalize wr.drew.alloc (.cells #[.string ⟨#[105, 110, 116]⟩, .string ⟨#[116, 101, 120, 116]⟩] 9) = wn at hx2n hb3n HFn ⊢
      go_wp2_with fail
      go_roundw
      case rel => exact ⟨k + 1, _, congrArg Value.string HS.out, by go_num, by omega, by omega, Hd rfl, HFn⟩
      case measure => simp only [intOf]; omega
    ·have x2 : wr.cell? ⟨g, off + k * 3 + 2, none⟩ = some (.string ⟨(ra :: rb : B).toArray⟩) := by rw [<- hxr]; exact x2
     rw [hxr] at HST2 hrz
     simp only [List.isEmpty_cons, Bool.false_eq_true, if_false, if_true] at HST2
     rw [show bt ([32, 114, 101, 102, 32] ++ ra :: rb) = bt [32, 114, 101, 102, 32] ++ bt (ra :: rb) from (bt_cat _ _).symm] at HST2
     obtain ⟨rr, hrr⟩ : ∃ rr, bt (ra :: rb) = rr := ⟨_, rfl⟩
     have hrn : rr.toList.isEmpty = false := by rw [<- hrr, bt_empty]; rfl
     change wr.cell? _ = some (.string (bt (ra :: rb))) at x2
     rw [hrr] at x2 HST2 hrz
     clear hrr hxr
     by_cases hk0 : k = 0
     ·subst hk0
      simp only [Nat.zero_mul, Nat.add_zero] at x0 x1 x2
      have HS : Hid (o ++ nb ++ ⟨#[32]⟩ ++ ⟨#[105, 110, 116]⟩ ++ ⟨#[32, 114, 101, 102, 32]⟩ ++ rr = bt (mm ++ jn coT (L.take (0 + 1)))) := Hd (by
       rw [<- HST2.out, if_pos rfl, show bt [] = ByteArray.empty from rfl, ByteArray.append_empty]
       simp only [ext3]
       first | done | rfl)
      go_upto_region 9 with fail
      have hI0 : wr.drew.cell? ⟨w.heap.size, 3, none⟩ = some (.slice (some ⟨g, off, none⟩) L.length c3) /\ wr.drew.cell? ⟨g, off, none⟩ = some (.string nb) /\ wr.drew.cell? ⟨g, off + 1, none⟩ = some (.int .i64 1) := ⟨hB3, x0, x1⟩
      have hfn : Fr [] wr (wr.drew.alloc (.cells #[.string ⟨#[105, 110, 116]⟩, .string ⟨#[116, 101, 120, 116]⟩] 9)) := ((Fr.refl [] wr).drew).alloc _
      have hI1 : (wr.drew.alloc (.cells #[.string ⟨#[105, 110, 116]⟩, .string ⟨#[116, 101, 120, 116]⟩] 9)).cell? ⟨w.heap.size, 3, none⟩ = some (.slice (some ⟨g, off, none⟩) L.length c3) /\ (wr.drew.alloc (.cells #[.string ⟨#[105, 110, 116]⟩, .string ⟨#[116, 101, 120, 116]⟩] 9)).cell? ⟨g, off, none⟩ = some (.string nb) /\ (wr.drew.alloc (.cells #[.string ⟨#[105, 110, 116]⟩, .string ⟨#[116, 101, 120, 116]⟩] 9)).cell? ⟨g, off + 1, none⟩ = some (.int .i64 1) := ⟨(hfn.cell (p := ⟨w.heap.size, 3, none⟩) hbw (by simp)).trans hB3, (hfn.cell (p := ⟨g, off, none⟩) hgr (by simp)).trans x0, (hfn.cell (p := ⟨g, off + 1, none⟩) hgr (by simp)).trans x1⟩
      have hx2n : (wr.drew.alloc (.cells #[.string ⟨#[105, 110, 116]⟩, .string ⟨#[116, 101, 120, 116]⟩] 9)).cell? ⟨g, off + 2, none⟩ = some (.string rr) := (hfn.cell (p := ⟨g, off + 2, none⟩) hgr (by simp)).trans x2
      have hb3n := hI1.1
      have HFn : Hid (Fr [] w0 (wr.drew.alloc (.cells #[.string ⟨#[105, 110, 116]⟩, .string ⟨#[116, 101, 120, 116]⟩] 9))) := Hd (HF.out.trans hfn)
      have hwr : IntKind.i64.wrap (1 - 1) = 0 := by decide
      have ss0 : ¬ 9223372036854775807 < o.size + nb.size := by omega
      have ss1 : ¬ 9223372036854775807 < o.size + nb.size + 1 := by omega
      have ss2 : ¬ 9223372036854775807 < o.size + nb.size + 1 + 3 := by omega
      refine Seq3.wp_region_text (fun i => i != 9 && i != 18) (fun _ => none) (fun _ => false) (fun w' => w'.cell? ⟨w.heap.size, 3, none⟩ = some (.slice (some ⟨g, off, none⟩) L.length c3) /\ w'.cell? ⟨g, off, none⟩ = some (.string nb) /\ w'.cell? ⟨g, off + 1, none⟩ = some (.int .i64 1)) (by kernel_rfl) (by kernel_rfl) hI0 ?_
      iterate 2 (refine Seq3.wpL_quiet rfl rfl rfl (fun K hK => ?_); go_big_quiet_op; (first | refine hK _ ?_ | refine ⟨_, by intros; rfl, hK _ ?_⟩); clear hK K)
      refine Seq3.wpL_held (v := .slice (some ⟨g, off, none⟩) L.length c3) rfl rfl (fun w' hI => ?_) ?_
      ·have hI' : w'.cell? ⟨w.heap.size, 3, none⟩ = some (.slice (some ⟨g, off, none⟩) L.length c3) := hI.1
       simp [go_sem, execOp, hI']
      simp only [Act.put, qA, qB, qC]
      iterate 3 (refine Seq3.wpL_quiet rfl rfl rfl (fun K hK => ?_); go_big_quiet_op; (first | refine hK _ ?_ | refine ⟨_, by intros; rfl, hK _ ?_⟩); clear hK K)
      refine Seq3.wpL_held (v := .string nb) rfl rfl (fun w' hI => ?_) ?_
      ·have hI' : w'.cell? ⟨g, off, none⟩ = some (.string nb) := hI.2.1
       simp [go_sem, execOp, hI']
      simp only [Act.put, qA, qB, qC]
      iterate 2 (refine Seq3.wpL_quiet rfl rfl rfl (fun K hK => ?_); go_big_quiet_op; (first | refine hK _ ?_ | refine ⟨_, by intros; rfl, hK _ ?_⟩); clear hK K)
      refine Seq3.wpL_val (v := .slice (some ⟨wr.heap.size, 0, none⟩) 2 2) (w' := wr.drew.alloc (.cells #[.string ⟨#[105, 110, 116]⟩, .string ⟨#[116, 101, 120, 116]⟩] 9)) rfl rfl (by simp [go_sem, execOp]) hI1 ?_
      simp only [Act.put, qA, qB, qC]
      (refine Seq3.wpL_quiet rfl rfl rfl (fun K hK => ?_); go_big_quiet_op; (first | refine hK _ ?_ | refine ⟨_, by intros; rfl, hK _ ?_⟩); clear hK K)
      refine Seq3.wpL_held (v := .slice (some ⟨g, off, none⟩) L.length c3) rfl rfl (fun w' hI => ?_) ?_
      ·have hI' : w'.cell? ⟨w.heap.size, 3, none⟩ = some (.slice (some ⟨g, off, none⟩) L.length c3) := hI.1
       simp [go_sem, execOp, hI']
      simp only [Act.put, qA, qB, qC]
      iterate 3 (refine Seq3.wpL_quiet rfl rfl rfl (fun K hK => ?_); go_big_quiet_op; (first | refine hK _ ?_ | refine ⟨_, by intros; rfl, hK _ ?_⟩); clear hK K)
      refine Seq3.wpL_held (v := .int .i64 1) rfl rfl (fun w' hI => ?_) ?_
      ·have hI' : w'.cell? ⟨g, off + 1, none⟩ = some (.int .i64 1) := hI.2.2
       simp [go_sem, execOp, hI']
      simp only [Act.put, qA, qB, qC]
      iterate 2 (refine Seq3.wpL_quiet rfl rfl rfl (fun K hK => ?_); go_big_quiet_op; (first | refine hK _ ?_ | refine ⟨_, by intros; rfl, hK _ ?_⟩); clear hK K)
      have hac : (wr.drew.alloc (.cells #[.string ⟨#[105, 110, 116]⟩, .string ⟨#[116, 101, 120, 116]⟩] 9)).cell? ⟨wr.heap.size, 0, none⟩ = some (.string ⟨#[105, 110, 116]⟩) := (Blk.new wr.drew 9 [.string ⟨#[105, 110, 116]⟩, .string ⟨#[116, 101, 120, 116]⟩]).cell 0
      refine Seq3.wpL_val (v := .string ⟨#[105, 110, 116]⟩) (w' := wr.drew.alloc (.cells #[.string ⟨#[105, 110, 116]⟩, .string ⟨#[116, 101, 120, 116]⟩] 9)) rfl rfl (by simp [go_sem, execOp, hac]) hI1 ?_
      simp only [Act.put, qA, qB, qC]
      iterate 2 (refine Seq3.wpL_quiet rfl rfl rfl (fun K hK => ?_); go_big_quiet_op; (first | refine hK _ ?_ | refine ⟨_, by intros; rfl, hK _ ?_⟩); clear hK K)
      refine Seq3.wpL_nil ?_
      clear hI0 hI1 hac hwr hfn x0 x1 x2
      generalize wr.drew.alloc (.cells #[.string ⟨#[105, 110, 116]⟩, .string ⟨#[116, 101, 120, 116]⟩] 9) = wn at hx2n hb3n HFn ⊢
      go_wp2_with fail
      go_roundw
      case rel => exact ⟨0 + 1, _, congrArg Value.string HS.out, by go_num, by omega, by omega, Hd rfl, HFn⟩
      case measure => simp only [intOf]; omega
     ·have hk1 : (0 : Int) < k := by omega
      have HS : Hid (o ++ ⟨#[44, 32]⟩ ++ nb ++ ⟨#[32]⟩ ++ ⟨#[105, 110, 116]⟩ ++ ⟨#[32, 114, 101, 102, 32]⟩ ++ rr = bt (mm ++ jn coT (L.take (k + 1)))) := Hd (by
       rw [<- HST2.out, if_neg hk0]
       simp only [ext3]
       first | done | rfl)
      go_upto_region 9 with fail
      have hI0 : wr.drew.cell? ⟨w.heap.size, 3, none⟩ = some (.slice (some ⟨g, off, none⟩) L.length c3) /\ wr.drew.cell? ⟨g, off + k * 3, none⟩ = some (.string nb) /\ wr.drew.cell? ⟨g, off + k * 3 + 1, none⟩ = some (.int .i64 1) := ⟨hB3, x0, x1⟩
      have hfn : Fr [] wr (wr.drew.alloc (.cells #[.string ⟨#[105, 110, 116]⟩, .string ⟨#[116, 101, 120, 116]⟩] 9)) := ((Fr.refl [] wr).drew).alloc _
      have hI1 : (wr.drew.alloc (.cells #[.string ⟨#[105, 110, 116]⟩, .string ⟨#[116, 101, 120, 116]⟩] 9)).cell? ⟨w.heap.size, 3, none⟩ = some (.slice (some ⟨g, off, none⟩) L.length c3) /\ (wr.drew.alloc (.cells #[.string ⟨#[105, 110, 116]⟩, .string ⟨#[116, 101, 120, 116]⟩] 9)).cell? ⟨g, off + k * 3, none⟩ = some (.string nb) /\ (wr.drew.alloc (.cells #[.string ⟨#[105, 110, 116]⟩, .string ⟨#[116, 101, 120, 116]⟩] 9)).cell? ⟨g, off + k * 3 + 1, none⟩ = some (.int .i64 1) := ⟨(hfn.cell (p := ⟨w.heap.size, 3, none⟩) hbw (by simp)).trans hB3, (hfn.cell (p := ⟨g, off + k * 3, none⟩) hgr (by simp)).trans x0, (hfn.cell (p := ⟨g, off + k * 3 + 1, none⟩) hgr (by simp)).trans x1⟩
      have hx2n : (wr.drew.alloc (.cells #[.string ⟨#[105, 110, 116]⟩, .string ⟨#[116, 101, 120, 116]⟩] 9)).cell? ⟨g, off + k * 3 + 2, none⟩ = some (.string rr) := (hfn.cell (p := ⟨g, off + k * 3 + 2, none⟩) hgr (by simp)).trans x2
      have hb3n := hI1.1
      have HFn : Hid (Fr [] w0 (wr.drew.alloc (.cells #[.string ⟨#[105, 110, 116]⟩, .string ⟨#[116, 101, 120, 116]⟩] 9))) := Hd (HF.out.trans hfn)
      have hwr : IntKind.i64.wrap (1 - 1) = 0 := by decide
      have ss0 : ¬ 9223372036854775807 < o.size + 2 + nb.size := by omega
      have ss1 : ¬ 9223372036854775807 < o.size + 2 + nb.size + 1 := by omega
      have ss2 : ¬ 9223372036854775807 < o.size + 2 + nb.size + 1 + 3 := by omega
      refine Seq3.wp_region_text (fun i => i != 9 && i != 18) (fun _ => none) (fun _ => false) (fun w' => w'.cell? ⟨w.heap.size, 3, none⟩ = some (.slice (some ⟨g, off, none⟩) L.length c3) /\ w'.cell? ⟨g, off + k * 3, none⟩ = some (.string nb) /\ w'.cell? ⟨g, off + k * 3 + 1, none⟩ = some (.int .i64 1)) (by kernel_rfl) (by kernel_rfl) hI0 ?_
      iterate 2 (refine Seq3.wpL_quiet rfl rfl rfl (fun K hK => ?_); go_big_quiet_op; (first | refine hK _ ?_ | refine ⟨_, by intros; rfl, hK _ ?_⟩); clear hK K)
      refine Seq3.wpL_held (v := .slice (some ⟨g, off, none⟩) L.length c3) rfl rfl (fun w' hI => ?_) ?_
      ·have hI' : w'.cell? ⟨w.heap.size, 3, none⟩ = some (.slice (some ⟨g, off, none⟩) L.length c3) := hI.1
       simp [go_sem, execOp, hI']
      simp only [Act.put, qA, qB, qC]
      iterate 3 (refine Seq3.wpL_quiet rfl rfl rfl (fun K hK => ?_); go_big_quiet_op; (first | refine hK _ ?_ | refine ⟨_, by intros; rfl, hK _ ?_⟩); clear hK K)
      refine Seq3.wpL_held (v := .string nb) rfl rfl (fun w' hI => ?_) ?_
      ·have hI' : w'.cell? ⟨g, off + k * 3, none⟩ = some (.string nb) := hI.2.1
       simp [go_sem, execOp, hI']
      simp only [Act.put, qA, qB, qC]
      iterate 2 (refine Seq3.wpL_quiet rfl rfl rfl (fun K hK => ?_); go_big_quiet_op; (first | refine hK _ ?_ | refine ⟨_, by intros; rfl, hK _ ?_⟩); clear hK K)
      refine Seq3.wpL_val (v := .slice (some ⟨wr.heap.size, 0, none⟩) 2 2) (w' := wr.drew.alloc (.cells #[.string ⟨#[105, 110, 116]⟩, .string ⟨#[116, 101, 120, 116]⟩] 9)) rfl rfl (by simp [go_sem, execOp]) hI1 ?_
      simp only [Act.put, qA, qB, qC]
      (refine Seq3.wpL_quiet rfl rfl rfl (fun K hK => ?_); go_big_quiet_op; (first | refine hK _ ?_ | refine ⟨_, by intros; rfl, hK _ ?_⟩); clear hK K)
      refine Seq3.wpL_held (v := .slice (some ⟨g, off, none⟩) L.length c3) rfl rfl (fun w' hI => ?_) ?_
      ·have hI' : w'.cell? ⟨w.heap.size, 3, none⟩ = some (.slice (some ⟨g, off, none⟩) L.length c3) := hI.1
       simp [go_sem, execOp, hI']
      simp only [Act.put, qA, qB, qC]
      iterate 3 (refine Seq3.wpL_quiet rfl rfl rfl (fun K hK => ?_); go_big_quiet_op; (first | refine hK _ ?_ | refine ⟨_, by intros; rfl, hK _ ?_⟩); clear hK K)
      refine Seq3.wpL_held (v := .int .i64 1) rfl rfl (fun w' hI => ?_) ?_
      ·have hI' : w'.cell? ⟨g, off + k * 3 + 1, none⟩ = some (.int .i64 1) := hI.2.2
       simp [go_sem, execOp, hI']
      simp only [Act.put, qA, qB, qC]
      iterate 2 (refine Seq3.wpL_quiet rfl rfl rfl (fun K hK => ?_); go_big_quiet_op; (first | refine hK _ ?_ | refine ⟨_, by intros; rfl, hK _ ?_⟩); clear hK K)
      have hac : (wr.drew.alloc (.cells #[.string ⟨#[105, 110, 116]⟩, .string ⟨#[116, 101, 120, 116]⟩] 9)).cell? ⟨wr.heap.size, 0, none⟩ = some (.string ⟨#[105, 110, 116]⟩) := (Blk.new wr.drew 9 [.string ⟨#[105, 110, 116]⟩, .string ⟨#[116, 101, 120, 116]⟩]).cell 0
      refine Seq3.wpL_val (v := .string ⟨#[105, 110, 116]⟩) (w' := wr.drew.alloc (.cells #[.string ⟨#[105, 110, 116]⟩, .string ⟨#[116, 101, 120, 116]⟩] 9)) rfl rfl (by simp [go_sem, execOp, hac]) hI1 ?_
      simp only [Act.put, qA, qB, qC]
      iterate 2 (refine Seq3.wpL_quiet rfl rfl rfl (fun K hK => ?_); go_big_quiet_op; (first | refine hK _ ?_ | refine ⟨_, by intros; rfl, hK _ ?_⟩); clear hK K)
      refine Seq3.wpL_nil ?_
      clear hI0 hI1 hac hwr hfn x0 x1 x2
      generalize wr.drew.alloc (.cells #[.string ⟨#[105, 110, 116]⟩, .string ⟨#[116, 101, 120, 116]⟩] 9) = wn at hx2n hb3n HFn ⊢
      go_wp2_with fail
      go_roundw
      case rel => exact ⟨k + 1, _, congrArg Value.string HS.out, by go_num, by omega, by omega, Hd rfl, HFn⟩
      case measure => simp only [intOf]; omega
   ·have x1 : wr.cell? ⟨g, off + k * 3 + 1, none⟩ = some (.int .i64 2) := x1
    rcases hxr : xr with _ | ⟨ra, rb⟩
    ·have x2 : wr.cell? ⟨g, off + k * 3 + 2, none⟩ = some (.string ⟨([] : B).toArray⟩) := by rw [<- hxr]; exact x2
     rw [hxr] at HST2 hrz
     simp only [List.isEmpty_nil, Bool.false_eq_true, if_false, if_true] at HST2
     by_cases hk0 : k = 0
     ·subst hk0
      simp only [Nat.zero_mul, Nat.add_zero] at x0 x1 x2
      have HS : Hid (o ++ nb ++ ⟨#[32]⟩ ++ ⟨#[116, 101, 120, 116]⟩ = bt (mm ++ jn coT (L.take (0 + 1)))) := Hd (by
       rw [<- HST2.out, if_pos rfl, show bt [] = ByteArray.empty from rfl, ByteArray.append_empty]
       simp only [ext3, show bt [] = ByteArray.empty from rfl, ByteArray.append_empty]
       first | done | rfl)
      go_upto_region 9 with fail
      have hI0 : wr.drew.cell? ⟨w.heap.size, 3, none⟩ = some (.slice (some ⟨g, off, none⟩) L.length c3) /\ wr.drew.cell? ⟨g, off, none⟩ = some (.string nb) /\ wr.drew.cell? ⟨g, off + 1, none⟩ = some (.int .i64 2) := ⟨hB3, x0, x1⟩
      have hfn : Fr [] wr (wr.drew.alloc (.cells #[.string ⟨#[105, 110, 116]⟩, .string ⟨#[116, 101, 120, 116]⟩] 9)) := ((Fr.refl [] wr).drew).alloc _
      have hI1 : (wr.drew.alloc (.cells #[.string ⟨#[105, 110, 116]⟩, .string ⟨#[116, 101, 120, 116]⟩] 9)).cell? ⟨w.heap.size, 3, none⟩ = some (.slice (some ⟨g, off, none⟩) L.length c3) /\ (wr.drew.alloc (.cells #[.string ⟨#[105, 110, 116]⟩, .string ⟨#[116, 101, 120, 116]⟩] 9)).cell? ⟨g, off, none⟩ = some (.string nb) /\ (wr.drew.alloc (.cells #[.string ⟨#[105, 110, 116]⟩, .string ⟨#[116, 101, 120, 116]⟩] 9)).cell? ⟨g, off + 1, none⟩ = some (.int .i64 2) := ⟨(hfn.cell (p := ⟨w.heap.size, 3, none⟩) hbw (by simp)).trans hB3, (hfn.cell (p := ⟨g, off, none⟩) hgr (by simp)).trans x0, (hfn.cell (p := ⟨g, off + 1, none⟩) hgr (by simp)).trans x1⟩
      have hx2n : (wr.drew.alloc (.cells #[.string ⟨#[105, 110, 116]⟩, .string ⟨#[116, 101, 120, 116]⟩] 9)).cell? ⟨g, off + 2, none⟩ = some (.string ⟨([] : B).toArray⟩) := (hfn.cell (p := ⟨g, off + 2, none⟩) hgr (by simp)).trans x2
      have hb3n := hI1.1
      have HFn : Hid (Fr [] w0 (wr.drew.alloc (.cells #[.string ⟨#[105, 110, 116]⟩, .string ⟨#[116, 101, 120, 116]⟩] 9))) := Hd (HF.out.trans hfn)
      have hwr : IntKind.i64.wrap (2 - 1) = 1 := by decide
      have ss0 : ¬ 9223372036854775807 < o.size + nb.size := by omega
      have ss1 : ¬ 9223372036854775807 < o.size + nb.size + 1 := by omega
      have ss2 : ¬ 9223372036854775807 < o.size + nb.size + 1 + 4 := by omega
      refine Seq3.wp_region_text (fun i => i != 9 && i != 18) (fun _ => none) (fun _ => false) (fun w' => w'.cell? ⟨w.heap.size, 3, none⟩ = some (.slice (some ⟨g, off, none⟩) L.length c3) /\ w'.cell? ⟨g, off, none⟩ = some (.string nb) /\ w'.cell? ⟨g, off + 1, none⟩ = some (.int .i64 2)) (by kernel_rfl) (by kernel_rfl) hI0 ?_
      iterate 2 (refine Seq3.wpL_quiet rfl rfl rfl (fun K hK => ?_); go_big_quiet_op; (first | refine hK _ ?_ | refine ⟨_, by intros; rfl, hK _ ?_⟩); clear hK K)
      refine Seq3.wpL_held (v := .slice (some ⟨g, off, none⟩) L.length c3) rfl rfl (fun w' hI => ?_) ?_
      ·have hI' : w'.cell? ⟨w.heap.size, 3, none⟩ = some (.slice (some ⟨g, off, none⟩) L.length c3) := hI.1
       simp [go_sem, execOp, hI']
      simp only [Act.put, qA, qB, qC]
      iterate 3 (refine Seq3.wpL_quiet rfl rfl rfl (fun K hK => ?_); go_big_quiet_op; (first | refine hK _ ?_ | refine ⟨_, by intros; rfl, hK _ ?_⟩); clear hK K)
      refine Seq3.wpL_held (v := .string nb) rfl rfl (fun w' hI => ?_) ?_
      ·have hI' : w'.cell? ⟨g, off, none⟩ = some (.string nb) := hI.2.1
       simp [go_sem, execOp, hI']
      simp only [Act.put, qA, qB, qC]
      iterate 2 (refine Seq3.wpL_quiet rfl rfl rfl (fun K hK => ?_); go_big_quiet_op; (first | refine hK _ ?_ | refine ⟨_, by intros; rfl, hK _ ?_⟩); clear hK K)
      refine Seq3.wpL_val (v := .slice (some ⟨wr.heap.size, 0, none⟩) 2 2) (w' := wr.drew.alloc (.cells #[.string ⟨#[105, 110, 116]⟩, .string ⟨#[116, 101, 120, 116]⟩] 9)) rfl rfl (by simp [go_sem, execOp]) hI1 ?_
      simp only [Act.put, qA, qB, qC]
      (refine Seq3.wpL_quiet rfl rfl rfl (fun K hK => ?_); go_big_quiet_op; (first | refine hK _ ?_ | refine ⟨_, by intros; rfl, hK _ ?_⟩); clear hK K)
      refine Seq3.wpL_held (v := .slice (some ⟨g, off, none⟩) L.length c3) rfl rfl (fun w' hI => ?_) ?_
      ·have hI' : w'.cell? ⟨w.heap.size, 3, none⟩ = some (.slice (some ⟨g, off, none⟩) L.length c3) := hI.1
       simp [go_sem, execOp, hI']
      simp only [Act.put, qA, qB, qC]
      iterate 3 (refine Seq3.wpL_quiet rfl rfl rfl (fun K hK => ?_); go_big_quiet_op; (first | refine hK _ ?_ | refine ⟨_, by intros; rfl, hK _ ?_⟩); clear hK K)
      refine Seq3.wpL_held (v := .int .i64 2) rfl rfl (fun w' hI => ?_) ?_
      ·have hI' : w'.cell? ⟨g, off + 1, none⟩ = some (.int .i64 2) := hI.2.2
       simp [go_sem, execOp, hI']
      simp only [Act.put, qA, qB, qC]
      iterate 2 (refine Seq3.wpL_quiet rfl rfl rfl (fun K hK => ?_); go_big_quiet_op; (first | refine hK _ ?_ | refine ⟨_, by intros; rfl, hK _ ?_⟩); clear hK K)
      have hac : (wr.drew.alloc (.cells #[.string ⟨#[105, 110, 116]⟩, .string ⟨#[116, 101, 120, 116]⟩] 9)).cell? ⟨wr.heap.size, 1, none⟩ = some (.string ⟨#[116, 101, 120, 116]⟩) := (Blk.new wr.drew 9 [.string ⟨#[105, 110, 116]⟩, .string ⟨#[116, 101, 120, 116]⟩]).cell 1
      refine Seq3.wpL_val (v := .string ⟨#[116, 101, 120, 116]⟩) (w' := wr.drew.alloc (.cells #[.string ⟨#[105, 110, 116]⟩, .string ⟨#[116, 101, 120, 116]⟩] 9)) rfl rfl (by simp [go_sem, execOp, hac]) hI1 ?_
      simp only [Act.put, qA, qB, qC]
      iterate 2 (refine Seq3.wpL_quiet rfl rfl rfl (fun K hK => ?_); go_big_quiet_op; (first | refine hK _ ?_ | refine ⟨_, by intros; rfl, hK _ ?_⟩); clear hK K)
      refine Seq3.wpL_nil ?_
      clear hI0 hI1 hac hwr hfn x0 x1 x2
      generalize wr.drew.alloc (.cells #[.string ⟨#[105, 110, 116]⟩, .string ⟨#[116, 101, 120, 116]⟩] 9) = wn at hx2n hb3n HFn ⊢
      go_wp2_with fail
      go_roundw
      case rel => exact ⟨0 + 1, _, congrArg Value.string HS.out, by go_num, by omega, by omega, Hd rfl, HFn⟩
      case measure => simp only [intOf]; omega
     ·have hk1 : (0 : Int) < k := by omega
      have HS : Hid (o ++ ⟨#[44, 32]⟩ ++ nb ++ ⟨#[32]⟩ ++ ⟨#[116, 101, 120, 116]⟩ = bt (mm ++ jn coT (L.take (k + 1)))) := Hd (by
       rw [<- HST2.out, if_neg hk0]
       simp only [ext3, show bt [] = ByteArray.empty from rfl, ByteArray.append_empty]
       first | done | rfl)
      go_upto_region 9 with fail
      have hI0 : wr.drew.cell? ⟨w.heap.size, 3, none⟩ = some (.slice (some ⟨g, off, none⟩) L.length c3) /\ wr.drew.cell? ⟨g, off + k * 3, none⟩ = some (.string nb) /\ wr.drew.cell? ⟨g, off + k * 3 + 1, none⟩ = some (.int .i64 2) := ⟨hB3, x0, x1⟩
      have hfn : Fr [] wr (wr.drew.alloc (.cells #[.string ⟨#[105, 110, 116]⟩, .string ⟨#[116, 101, 120, 116]⟩] 9)) := ((Fr.refl [] wr).drew).alloc _
      have hI1 : (wr.drew.alloc (.cells #[.string ⟨#[105, 110, 116]⟩, .string ⟨#[116, 101, 120, 116]⟩] 9)).cell? ⟨w.heap.size, 3, none⟩ = some (.slice (some ⟨g, off, none⟩) L.length c3) /\ (wr.drew.alloc (.cells #[.string ⟨#[105, 110, 116]⟩, .string ⟨#[116, 101, 120, 116]⟩] 9)).cell? ⟨g, off + k * 3, none⟩ = some (.string nb) /\ (wr.drew.alloc (.cells #[.string ⟨#[105, 110, 116]⟩, .string ⟨#[116, 101, 120, 116]⟩] 9)).cell? ⟨g, off + k * 3 + 1, none⟩ = some (.int .i64 2) := ⟨(hfn.cell (p := ⟨w.heap.size, 3, none⟩) hbw (by simp)).trans hB3, (hfn.cell (p := ⟨g, off + k * 3, none⟩) hgr (by simp)).trans x0, (hfn.cell (p := ⟨g, off + k * 3 + 1, none⟩) hgr (by simp)).trans x1⟩
      have hx2n : (wr.drew.alloc (.cells #[.string ⟨#[105, 110, 116]⟩, .string ⟨#[116, 101, 120, 116]⟩] 9)).cell? ⟨g, off + k * 3 + 2, none⟩ = some (.string ⟨([] : B).toArray⟩) := (hfn.cell (p := ⟨g, off + k * 3 + 2, none⟩) hgr (by simp)).trans x2
      have hb3n := hI1.1
      have HFn : Hid (Fr [] w0 (wr.drew.alloc (.cells #[.string ⟨#[105, 110, 116]⟩, .string ⟨#[116, 101, 120, 116]⟩] 9))) := Hd (HF.out.trans hfn)
      have hwr : IntKind.i64.wrap (2 - 1) = 1 := by decide
      have ss0 : ¬ 9223372036854775807 < o.size + 2 + nb.size := by omega
      have ss1 : ¬ 9223372036854775807 < o.size + 2 + nb.size + 1 := by omega
      have ss2 : ¬ 9223372036854775807 < o.size + 2 + nb.size + 1 + 4 := by omega
      refine Seq3.wp_region_text (fun i => i != 9 && i != 18) (fun _ => none) (fun _ => false) (fun w' => w'.cell? ⟨w.heap.size, 3, none⟩ = some (.slice (some ⟨g, off, none⟩) L.length c3) /\ w'.cell? ⟨g, off + k * 3, none⟩ = some (.string nb) /\ w'.cell? ⟨g, off + k * 3 + 1, none⟩ = some (.int .i64 2)) (by kernel_rfl) (by kernel_rfl) hI0 ?_
      iterate 2 (refine Seq3.wpL_quiet rfl rfl rfl (fun K hK => ?_); go_big_quiet_op; (first | refine hK _ ?_ | refine ⟨_, by intros; rfl, hK _ ?_⟩); clear hK K)
      refine Seq3.wpL_held (v := .slice (some ⟨g, off, none⟩) L.length c3) rfl rfl (fun w' hI => ?_) ?_
      ·have hI' : w'.cell? ⟨w.heap.size, 3, none⟩ = some (.slice (some ⟨g, off, none⟩) L.length c3) := hI.1
       simp [go_sem, execOp, hI']
      simp only [Act.put, qA, qB, qC]
      iterate 3 (refine Seq3.wpL_quiet rfl rfl rfl (fun K hK => ?_); go_big_quiet_op; (first | refine hK _ ?_ | refine ⟨_, by intros; rfl, hK _ ?_⟩); clear hK K)
      refine Seq3.wpL_held (v := .string nb) rfl rfl (fun w' hI => ?_) ?_
      ·have hI' : w'.cell? ⟨g, off + k * 3, none⟩ = some (.string nb) := hI.2.1
       simp [go_sem, execOp, hI']
      simp only [Act.put, qA, qB, qC]
      iterate 2 (refine Seq3.wpL_quiet rfl rfl rfl (fun K hK => ?_); go_big_quiet_op; (first | refine hK _ ?_ | refine ⟨_, by intros; rfl, hK _ ?_⟩); clear hK K)
      refine Seq3.wpL_val (v := .slice (some ⟨wr.heap.size, 0, none⟩) 2 2) (w' := wr.drew.alloc (.cells #[.string ⟨#[105, 110, 116]⟩, .string ⟨#[116, 101, 120, 116]⟩] 9)) rfl rfl (by simp [go_sem, execOp]) hI1 ?_
      simp only [Act.put, qA, qB, qC]
      (refine Seq3.wpL_quiet rfl rfl rfl (fun K hK => ?_); go_big_quiet_op; (first | refine hK _ ?_ | refine ⟨_, by intros; rfl, hK _ ?_⟩); clear hK K)
      refine Seq3.wpL_held (v := .slice (some ⟨g, off, none⟩) L.length c3) rfl rfl (fun w' hI => ?_) ?_
      ·have hI' : w'.cell? ⟨w.heap.size, 3, none⟩ = some (.slice (some ⟨g, off, none⟩) L.length c3) := hI.1
       simp [go_sem, execOp, hI']
      simp only [Act.put, qA, qB, qC]
      iterate 3 (refine Seq3.wpL_quiet rfl rfl rfl (fun K hK => ?_); go_big_quiet_op; (first | refine hK _ ?_ | refine ⟨_, by intros; rfl, hK _ ?_⟩); clear hK K)
      refine Seq3.wpL_held (v := .int .i64 2) rfl rfl (fun w' hI => ?_) ?_
      ·have hI' : w'.cell? ⟨g, off + k * 3 + 1, none⟩ = some (.int .i64 2) := hI.2.2
       simp [go_sem, execOp, hI']
      simp only [Act.put, qA, qB, qC]
      iterate 2 (refine Seq3.wpL_quiet rfl rfl rfl (fun K hK => ?_); go_big_quiet_op; (first | refine hK _ ?_ | refine ⟨_, by intros; rfl, hK _ ?_⟩); clear hK K)
      have hac : (wr.drew.alloc (.cells #[.string ⟨#[105, 110, 116]⟩, .string ⟨#[116, 101, 120, 116]⟩] 9)).cell? ⟨wr.heap.size, 1, none⟩ = some (.string ⟨#[116, 101, 120, 116]⟩) := (Blk.new wr.drew 9 [.string ⟨#[105, 110, 116]⟩, .string ⟨#[116, 101, 120, 116]⟩]).cell 1
      refine Seq3.wpL_val (v := .string ⟨#[116, 101, 120, 116]⟩) (w' := wr.drew.alloc (.cells #[.string ⟨#[105, 110, 116]⟩, .string ⟨#[116, 101, 120, 116]⟩] 9)) rfl rfl (by simp [go_sem, execOp, hac]) hI1 ?_
      simp only [Act.put, qA, qB, qC]
      iterate 2 (refine Seq3.wpL_quiet rfl rfl rfl (fun K hK => ?_); go_big_quiet_op; (first | refine hK _ ?_ | refine ⟨_, by intros; rfl, hK _ ?_⟩); clear hK K)
      refine Seq3.wpL_nil ?_
      clear hI0 hI1 hac hwr hfn x0 x1 x2
      generalize wr.drew.alloc (.cells #[.string ⟨#[105, 110, 116]⟩, .string ⟨#[116, 101, 120, 116]⟩] 9) = wn at hx2n hb3n HFn ⊢
      go_wp2_with fail
      go_roundw
      case rel => exact ⟨k + 1, _, congrArg Value.string HS.out, by go_num, by omega, by omega, Hd rfl, HFn⟩
      case measure => simp only [intOf]; omega
    ·have x2 : wr.cell? ⟨g, off + k * 3 + 2, none⟩ = some (.string ⟨(ra :: rb : B).toArray⟩) := by rw [<- hxr]; exact x2
     rw [hxr] at HST2 hrz
     simp only [List.isEmpty_cons, Bool.false_eq_true, if_false, if_true] at HST2
     rw [show bt ([32, 114, 101, 102, 32] ++ ra :: rb) = bt [32, 114, 101, 102, 32] ++ bt (ra :: rb) from (bt_cat _ _).symm] at HST2
     obtain ⟨rr, hrr⟩ : ∃ rr, bt (ra :: rb) = rr := ⟨_, rfl⟩
     have hrn : rr.toList.isEmpty = false := by rw [<- hrr, bt_empty]; rfl
     change wr.cell? _ = some (.string (bt (ra :: rb))) at x2
     rw [hrr] at x2 HST2 hrz
     clear hrr hxr
     by_cases hk0 : k = 0
     ·subst hk0
      simp only [Nat.zero_mul, Nat.add_zero] at x0 x1 x2
      have HS : Hid (o ++ nb ++ ⟨#[32]⟩ ++ ⟨#[116, 101, 120, 116]⟩ ++ ⟨#[32, 114, 101, 102, 32]⟩ ++ rr = bt (mm ++ jn coT (L.take (0 + 1)))) := Hd (by
       rw [<- HST2.out, if_pos rfl, show bt [] = ByteArray.empty from rfl, ByteArray.append_empty]
       simp only [ext3]
       first | done | rfl)
      go_upto_region 9 with fail
      have hI0 : wr.drew.cell? ⟨w.heap.size, 3, none⟩ = some (.slice (some ⟨g, off, none⟩) L.length c3) /\ wr.drew.cell? ⟨g, off, none⟩ = some (.string nb) /\ wr.drew.cell? ⟨g, off + 1, none⟩ = some (.int .i64 2) := ⟨hB3, x0, x1⟩
      have hfn : Fr [] wr (wr.drew.alloc (.cells #[.string ⟨#[105, 110, 116]⟩, .string ⟨#[116, 101, 120, 116]⟩] 9)) := ((Fr.refl [] wr).drew).alloc _
      have hI1 : (wr.drew.alloc (.cells #[.string ⟨#[105, 110, 116]⟩, .string ⟨#[116, 101, 120, 116]⟩] 9)).cell? ⟨w.heap.size, 3, none⟩ = some (.slice (some ⟨g, off, none⟩) L.length c3) /\ (wr.drew.alloc (.cells #[.string ⟨#[105, 110, 116]⟩, .string ⟨#[116, 101, 120, 116]⟩] 9)).cell? ⟨g, off, none⟩ = some (.string nb) /\ (wr.drew.alloc (.cells #[.string ⟨#[105, 110, 116]⟩, .string ⟨#[116, 101, 120, 116]⟩] 9)).cell? ⟨g, off + 1, none⟩ = some (.int .i64 2) := ⟨(hfn.cell (p := ⟨w.heap.size, 3, none⟩) hbw (by simp)).trans hB3, (hfn.cell (p := ⟨g, off, none⟩) hgr (by simp)).trans x0, (hfn.cell (p := ⟨g, off + 1, none⟩) hgr (by simp)).trans x1⟩
      have hx2n : (wr.drew.alloc (.cells #[.string ⟨#[105, 110, 116]⟩, .string ⟨#[116, 101, 120, 116]⟩] 9)).cell? ⟨g, off + 2, none⟩ = some (.string rr) := (hfn.cell (p := ⟨g, off + 2, none⟩) hgr (by simp)).trans x2
      have hb3n := hI1.1
      have HFn : Hid (Fr [] w0 (wr.drew.alloc (.cells #[.string ⟨#[105, 110, 116]⟩, .string ⟨#[116, 101, 120, 116]⟩] 9))) := Hd (HF.out.trans hfn)
      have hwr : IntKind.i64.wrap (2 - 1) = 1 := by decide
      have ss0 : ¬ 9223372036854775807 < o.size + nb.size := by omega
      have ss1 : ¬ 9223372036854775807 < o.size + nb.size + 1 := by omega
      have ss2 : ¬ 9223372036854775807 < o.size + nb.size + 1 + 4 := by omega
      refine Seq3.wp_region_text (fun i => i != 9 && i != 18) (fun _ => none) (fun _ => false) (fun w' => w'.cell? ⟨w.heap.size, 3, none⟩ = some (.slice (some ⟨g, off, none⟩) L.length c3) /\ w'.cell? ⟨g, off, none⟩ = some (.string nb) /\ w'.cell? ⟨g, off + 1, none⟩ = some (.int .i64 2)) (by kernel_rfl) (by kernel_rfl) hI0 ?_
      iterate 2 (refine Seq3.wpL_quiet rfl rfl rfl (fun K hK => ?_); go_big_quiet_op; (first | refine hK _ ?_ | refine ⟨_, by intros; rfl, hK _ ?_⟩); clear hK K)
      refine Seq3.wpL_held (v := .slice (some ⟨g, off, none⟩) L.length c3) rfl rfl (fun w' hI => ?_) ?_
      ·have hI' : w'.cell? ⟨w.heap.size, 3, none⟩ = some (.slice (some ⟨g, off, none⟩) L.length c3) := hI.1
       simp [go_sem, execOp, hI']
      simp only [Act.put, qA, qB, qC]
      iterate 3 (refine Seq3.wpL_quiet rfl rfl rfl (fun K hK => ?_); go_big_quiet_op; (first | refine hK _ ?_ | refine ⟨_, by intros; rfl, hK _ ?_⟩); clear hK K)
      refine Seq3.wpL_held (v := .string nb) rfl rfl (fun w' hI => ?_) ?_
      ·have hI' : w'.cell? ⟨g, off, none⟩ = some (.string nb) := hI.2.1
       simp [go_sem, execOp, hI']
      simp only [Act.put, qA, qB, qC]
      iterate 2 (refine Seq3.wpL_quiet rfl rfl rfl (fun K hK => ?_); go_big_quiet_op; (first | refine hK _ ?_ | refine ⟨_, by intros; rfl, hK _ ?_⟩); clear hK K)
      refine Seq3.wpL_val (v := .slice (some ⟨wr.heap.size, 0, none⟩) 2 2) (w' := wr.drew.alloc (.cells #[.string ⟨#[105, 110, 116]⟩, .string ⟨#[116, 101, 120, 116]⟩] 9)) rfl rfl (by simp [go_sem, execOp]) hI1 ?_
      simp only [Act.put, qA, qB, qC]
      (refine Seq3.wpL_quiet rfl rfl rfl (fun K hK => ?_); go_big_quiet_op; (first | refine hK _ ?_ | refine ⟨_, by intros; rfl, hK _ ?_⟩); clear hK K)
      refine Seq3.wpL_held (v := .slice (some ⟨g, off, none⟩) L.length c3) rfl rfl (fun w' hI => ?_) ?_
      ·have hI' : w'.cell? ⟨w.heap.size, 3, none⟩ = some (.slice (some ⟨g, off, none⟩) L.length c3) := hI.1
       simp [go_sem, execOp, hI']
      simp only [Act.put, qA, qB, qC]
      iterate 3 (refine Seq3.wpL_quiet rfl rfl rfl (fun K hK => ?_); go_big_quiet_op; (first | refine hK _ ?_ | refine ⟨_, by intros; rfl, hK _ ?_⟩); clear hK K)
      refine Seq3.wpL_held (v := .int .i64 2) rfl rfl (fun w' hI => ?_) ?_
      ·have hI' : w'.cell? ⟨g, off + 1, none⟩ = some (.int .i64 2) := hI.2.2
       simp [go_sem, execOp, hI']
      simp only [Act.put, qA, qB, qC]
      iterate 2 (refine Seq3.wpL_quiet rfl rfl rfl (fun K hK => ?_); go_big_quiet_op; (first | refine hK _ ?_ | refine ⟨_, by intros; rfl, hK _ ?_⟩); clear hK K)
      have hac : (wr.drew.alloc (.cells #[.string ⟨#[105, 110, 116]⟩, .string ⟨#[116, 101, 120, 116]⟩] 9)).cell? ⟨wr.heap.size, 1, none⟩ = some (.string ⟨#[116, 101, 120, 116]⟩) := (Blk.new wr.drew 9 [.string ⟨#[105, 110, 116]⟩, .string ⟨#[116, 101, 120, 116]⟩]).cell 1
      refine Seq3.wpL_val (v := .string ⟨#[116, 101, 120, 116]⟩) (w' := wr.drew.alloc (.cells #[.string ⟨#[105, 110, 116]⟩, .string ⟨#[116, 101, 120, 116]⟩] 9)) rfl rfl (by simp [go_sem, execOp, hac]) hI1 ?_
      simp only [Act.put, qA, qB, qC]
      iterate 2 (refine Seq3.wpL_quiet rfl rfl rfl (fun K hK => ?_); go_big_quiet_op; (first | refine hK _ ?_ | refine ⟨_, by intros; rfl, hK _ ?_⟩); clear hK K)
      refine Seq3.wpL_nil ?_
      clear hI0 hI1 hac hwr hfn x0 x1 x2
      generalize wr.drew.alloc (.cells #[.string ⟨#[105, 110, 116]⟩, .string ⟨#[116, 101, 120, 116]⟩] 9) = wn at hx2n hb3n HFn ⊢
      go_wp2_with fail
      go_roundw
      case rel => exact ⟨0 + 1, _, congrArg Value.string HS.out, by go_num, by omega, by omega, Hd rfl, HFn⟩
      case measure => simp only [intOf]; omega
     ·have hk1 : (0 : Int) < k := by omega
      have HS : Hid (o ++ ⟨#[44, 32]⟩ ++ nb ++ ⟨#[32]⟩ ++ ⟨#[116, 101, 120, 116]⟩ ++ ⟨#[32, 114, 101, 102, 32]⟩ ++ rr = bt (mm ++ jn coT (L.take (k + 1)))) := Hd (by
       rw [<- HST2.out, if_neg hk0]
       simp only [ext3]
       first | done | rfl)
      go_upto_region 9 with fail
      have hI0 : wr.drew.cell? ⟨w.heap.size, 3, none⟩ = some (.slice (some ⟨g, off, none⟩) L.length c3) /\ wr.drew.cell? ⟨g, off + k * 3, none⟩ = some (.string nb) /\ wr.drew.cell? ⟨g, off + k * 3 + 1, none⟩ = some (.int .i64 2) := ⟨hB3, x0, x1⟩
      have hfn : Fr [] wr (wr.drew.alloc (.cells #[.string ⟨#[105, 110, 116]⟩, .string ⟨#[116, 101, 120, 116]⟩] 9)) := ((Fr.refl [] wr).drew).alloc _
      have hI1 : (wr.drew.alloc (.cells #[.string ⟨#[105, 110, 116]⟩, .string ⟨#[116, 101, 120, 116]⟩] 9)).cell? ⟨w.heap.size, 3, none⟩ = some (.slice (some ⟨g, off, none⟩) L.length c3) /\ (wr.drew.alloc (.cells #[.string ⟨#[105, 110, 116]⟩, .string ⟨#[116, 101, 120, 116]⟩] 9)).cell? ⟨g, off + k * 3, none⟩ = some (.string nb) /\ (wr.drew.alloc (.cells #[.string ⟨#[105, 110, 116]⟩, .string ⟨#[116, 101, 120, 116]⟩] 9)).cell? ⟨g, off + k * 3 + 1, none⟩ = some (.int .i64 2) := ⟨(hfn.cell (p := ⟨w.heap.size, 3, none⟩) hbw (by simp)).trans hB3, (hfn.cell (p := ⟨g, off + k * 3, none⟩) hgr (by simp)).trans x0, (hfn.cell (p := ⟨g, off + k * 3 + 1, none⟩) hgr (by simp)).trans x1⟩
      have hx2n : (wr.drew.alloc (.cells #[.string ⟨#[105, 110, 116]⟩, .string ⟨#[116, 101, 120, 116]⟩] 9)).cell? ⟨g, off + k * 3 + 2, none⟩ = some (.string rr) := (hfn.cell (p := ⟨g, off + k * 3 + 2, none⟩) hgr (by simp)).trans x2
      have hb3n := hI1.1
      have HFn : Hid (Fr [] w0 (wr.drew.alloc (.cells #[.string ⟨#[105, 110, 116]⟩, .string ⟨#[116, 101, 120, 116]⟩] 9))) := Hd (HF.out.trans hfn)
      have hwr : IntKind.i64.wrap (2 - 1) = 1 := by decide
      have ss0 : ¬ 9223372036854775807 < o.size + 2 + nb.size := by omega
      have ss1 : ¬ 9223372036854775807 < o.size + 2 + nb.size + 1 := by omega
      have ss2 : ¬ 9223372036854775807 < o.size + 2 + nb.size + 1 + 4 := by omega
      refine Seq3.wp_region_text (fun i => i != 9 && i != 18) (fun _ => none) (fun _ => false) (fun w' => w'.cell? ⟨w.heap.size, 3, none⟩ = some (.slice (some ⟨g, off, none⟩) L.length c3) /\ w'.cell? ⟨g, off + k * 3, none⟩ = some (.string nb) /\ w'.cell? ⟨g, off + k * 3 + 1, none⟩ = some (.int .i64 2)) (by kernel_rfl) (by kernel_rfl) hI0 ?_
      iterate 2 (refine Seq3.wpL_quiet rfl rfl rfl (fun K hK => ?_); go_big_quiet_op; (first | refine hK _ ?_ | refine ⟨_, by intros; rfl, hK _ ?_⟩); clear hK K)
      refine Seq3.wpL_held (v := .slice (some ⟨g, off, none⟩) L.length c3) rfl rfl (fun w' hI => ?_) ?_
      ·have hI' : w'.cell? ⟨w.heap.size, 3, none⟩ = some (.slice (some ⟨g, off, none⟩) L.length c3) := hI.1
       simp [go_sem, execOp, hI']
      simp only [Act.put, qA, qB, qC]
      iterate 3 (refine Seq3.wpL_quiet rfl rfl rfl (fun K hK => ?_); go_big_quiet_op; (first | refine hK _ ?_ | refine ⟨_, by intros; rfl, hK _ ?_⟩); clear hK K)
      refine Seq3.wpL_held (v := .string nb) rfl rfl (fun w' hI => ?_) ?_
      ·have hI' : w'.cell? ⟨g, off + k * 3, none⟩ = some (.string nb) := hI.2.1
       simp [go_sem, execOp, hI']
      simp only [Act.put, qA, qB, qC]
      iterate 2 (refine Seq3.wpL_quiet rfl rfl rfl (fun K hK => ?_); go_big_quiet_op; (first | refine hK _ ?_ | refine ⟨_, by intros; rfl, hK _ ?_⟩); clear hK K)
      refine Seq3.wpL_val (v := .slice (some ⟨wr.heap.size, 0, none⟩) 2 2) (w' := wr.drew.alloc (.cells #[.string ⟨#[105, 110, 116]⟩, .string ⟨#[116, 101, 120, 116]⟩] 9)) rfl rfl (by simp [go_sem, execOp]) hI1 ?_
      simp only [Act.put, qA, qB, qC]
      (refine Seq3.wpL_quiet rfl rfl rfl (fun K hK => ?_); go_big_quiet_op; (first | refine hK _ ?_ | refine ⟨_, by intros; rfl, hK _ ?_⟩); clear hK K)
      refine Seq3.wpL_held (v := .slice (some ⟨g, off, none⟩) L.length c3) rfl rfl (fun w' hI => ?_) ?_
      ·have hI' : w'.cell? ⟨w.heap.size, 3, none⟩ = some (.slice (some ⟨g, off, none⟩) L.length c3) := hI.1
       simp [go_sem, execOp, hI']
      simp only [Act.put, qA, qB, qC]
      iterate 3 (refine Seq3.wpL_quiet rfl rfl rfl (fun K hK => ?_); go_big_quiet_op; (first | refine hK _ ?_ | refine ⟨_, by intros; rfl, hK _ ?_⟩); clear hK K)
      refine Seq3.wpL_held (v := .int .i64 2) rfl rfl (fun w' hI => ?_) ?_
      ·have hI' : w'.cell? ⟨g, off + k * 3 + 1, none⟩ = some (.int .i64 2) := hI.2.2
       simp [go_sem, execOp, hI']
      simp only [Act.put, qA, qB, qC]
      iterate 2 (refine Seq3.wpL_quiet rfl rfl rfl (fun K hK => ?_); go_big_quiet_op; (first | refine hK _ ?_ | refine ⟨_, by intros; rfl, hK _ ?_⟩); clear hK K)
      have hac : (wr.drew.alloc (.cells #[.string ⟨#[105, 110, 116]⟩, .string ⟨#[116, 101, 120, 116]⟩] 9)).cell? ⟨wr.heap.size, 1, none⟩ = some (.string ⟨#[116, 101, 120, 116]⟩) := (Blk.new wr.drew 9 [.string ⟨#[105, 110, 116]⟩, .string ⟨#[116, 101, 120, 116]⟩]).cell 1
      refine Seq3.wpL_val (v := .string ⟨#[116, 101, 120, 116]⟩) (w' := wr.drew.alloc (.cells #[.string ⟨#[105, 110, 116]⟩, .string ⟨#[116, 101, 120, 116]⟩] 9)) rfl rfl (by simp [go_sem, execOp, hac]) hI1 ?_
      simp only [Act.put, qA, qB, qC]
      iterate 2 (refine Seq3.wpL_quiet rfl rfl rfl (fun K hK => ?_); go_big_quiet_op; (first | refine hK _ ?_ | refine ⟨_, by intros; rfl, hK _ ?_⟩); clear hK K)
      refine Seq3.wpL_nil ?_
      clear hI0 hI1 hac hwr hfn x0 x1 x2
      generalize wr.drew.alloc (.cells #[.string ⟨#[105, 110, 116]⟩, .string ⟨#[116, 101, 120, 116]⟩] 9) = wn at hx2n hb3n HFn ⊢
      go_wp2_with fail
      go_roundw
      case rel => exact ⟨k + 1, _, congrArg Value.string HS.out, by go_num, by omega, by omega, Hd rfl, HFn⟩
      case measure => simp only [intOf]; omega
  ·obtain rfl : k = L.length := by omega
   have HE : Hid (o ++ ⟨#[41]⟩ = bt (mm ++ jn coT L ++ [41])) := Hd (by
    have := HOT.out
    rw [List.take_length] at this
    rw [this, show ⟨#[41]⟩ = bt [41] from rfl, bt_cat])
   go_wp2_with fail
   go_ret
   exact ⟨congrArg (fun z => Ending.returned (.string z)) HE.out, HF0.out.trans HF.out⟩
theorem show_any : ∀ q : Qs, ShowQ q
 |.table m c r => show_table m c r
 |.index t m => show_index t m
 |.view m tags s => show_view m tags s (show_select s)
 |.closure m tags s => show_closure m tags s (match s with
  |.insert t x r => show_insert t x r
  |.update t m x wh => show_update t m x wh
  |.delete t wh => show_delete t wh)
 |.select s => show_select s
 |.write (.insert t x r) => show_insert t x r
 |.write (.update t m x wh) => show_update t m x wh
 |.write (.delete t wh) => show_delete t wh
 |.plain k => show_plain k
 |.raise t r => show_raise t r
 |.call m => show_call m
end Sh
end Go.Proofs.YtmdnhinpaflamaaGreatDoor
