/- How show writes statements. -/
import Derived.Test.YtmdnhinpaflamaaGreatDoorShC
import Derived.Deep.CutRange
namespace Go.Proofs.YtmdnhinpaflamaaGreatDoor
open Go.RowKit
set_option linter.unusedVariables false
set_option linter.unusedSimpArgs false
namespace Sw
open PM (Ex B)
open CM (Pr Qs Wr Sel Im Co Cl)
open Gn (sh opB Gr)
open Sh (bt bt_cat bt_size colT bs okName_len okName_ne jn tagsT coT imT clT whereT joinT orderT itemsT selT wrT qsT exprsT sr_all ss_at sel_le P0_ok clPr clPr_ex clPr_ok clPr_sh clT_le)
open Px (SR SS ItS TagS ColS)
theorem jn_ex (l : List Pr) : Lib.join (l.map sh) [44, 32] = exprsT l := jn_join sh l
theorem jn_im (l : List Im) (h : l ≠ []) : jn imT l = itemsT l := by
 unfold itemsT
 cases l with
 |nil => exact absurd rfl h
 |cons => rfl
def ShowS (q : Qs) : Prop := ∀ D, q.ok D = true -> (qsT q).length <= 60000 -> ∀ (A : Nat -> Prop) (w : World) (cs : List Value), Env w -> SR A w q.st cs ->
 Calls Tryz.prog 17 #[.agg cs.toArray] w fun e w' => e = .returned (.string (bt (qsT q))) /\ Fr [] w w'
theorem el_st {A : Nat -> Prop} {w : World} {x : PM.St} {T : B} {a : Option Addr} {n cap : Nat} (h : SS A w [x] (.slice a n cap)) (hE : Env w)
  (ih : ∀ (W : World) (ys : List Value), Env W -> SR A W x ys -> Calls Tryz.prog 17 #[.agg ys.toArray] W fun e w' => e = .returned (.string (bt T)) /\ Fr [] W w') :
  n = 1 /\ El_st 17 w a 1 cap 0 T := by
 obtain ⟨h1, h2, h3⟩ := ss_at h
 obtain ⟨g, off, ys, e1, e2, e3, e4, e5, e6⟩ := h3 0 (by simp)
 refine ⟨h1, ?_⟩
 obtain ⟨y, hy⟩ := Px.sr_cells e5
 obtain ⟨yk, yt, yn, yj, ya3, ya4, ya5, ya6, ya8, ya9, ya10, ya12, yl3, yl4, yl5, yl6, yl8, yl9, yl10, yl12, yc3, yc4, yc5, yc6, yc8, yc9, yc10, yc12, yd⟩ := y
 simp only [Px.Cells13.list] at hy
 subst hy
 exact ⟨g, off, yk, yt, yn, yj, ya3, ya4, ya5, ya6, ya8, ya9, ya10, ya12, yl3, yc3, yl4, yc4, yl5, yc5, yl6, yc6, yl8, yc8, yl9, yc9, yl10, yc10, yl12, yc12, yd, e1, e2, e4, e6, fun W hW => ih W _ (hE.keep hW) (Px.SR.keep hW (by simp) e5)⟩
set_option maxRecDepth 4000000 in
set_option maxHeartbeats 8000000 in
theorem selects_any (s : Sel) (D : Nat) (hok : s.ok D = true) (hlen : (selT s).length <= 60000) (A : Nat -> Prop) (w : World) (cs : List Value) (hE : Env w) (h : SR A w s.st cs) :
    Calls Tryz.prog 43 #[.agg cs.toArray] w fun e w' => e = .returned (.string (bt (selT s))) /\ Fr [] w w' := by
  obtain ⟨its, tb, jo, wo, oo⟩ := s
  simp only [Sel.ok, Bool.and_eq_true] at hok
  obtain ⟨⟨⟨⟨hoi, hot⟩, hoj⟩, how⟩, hoo⟩ := hok
  obtain ⟨a3, a4, a5, a6, a8, a9, a10, a12, l3, l4, l5, l6, l8, l9, l10, l12, c3, c4, c5, c6, c8, c9, c10, c12, rfl, q3, q4, q5, q6, q8, q9, q10, q12⟩ := sr_all h
  generalize hjn : CM.joinN jo = jnm at h ⊢
  generalize hod : CM.orderD oo = od at h ⊢
  have HJN := Hd hjn
  have HOD := Hd hod
  clear hjn hod
  obtain ⟨m1, m2, m3, m4, m5⟩ := sel_le hlen
  simp only [] at m1 m2 m3 m4 m5
  obtain ⟨n6, hit⟩ := el_it its (List.all_eq_true.1 hoi) q6
  subst n6
  have hji : (jn imT its).length <= 60000 := by have h1 := congrArg List.length (P0_ok its); rw [List.length_append] at h1; omega
  have hil : its.length <= 60000 := jn_cnt hji
  have HI : Hid (∀ W, Fr [] w W -> Calls Tryz.prog 87 #[.slice a6 its.length c6, .string ⟨#[44, 32]⟩, .func (.func 88) #[] #[]] W fun e w'' => e = .returned (.string (bt (jn imT its))) /\ Fr [] W w'') := Hd (fun W hW => by have h1 := joined_it 88 [44, 32] (its.map imT) (by rw [List.length_map]; exact hil) (by rw [jn_join]; exact hji) a6 c6 W run_it (el_it its (List.all_eq_true.1 hoi) (Px.FlatS.keep hW (by simp) q6)).2; rw [jn_join, List.length_map] at h1; exact h1)
  have HWH : Hid (∀ W, Fr [] w W -> Calls Tryz.prog 45 #[.slice a9 l9 c9] W fun e w'' => e = .returned (.string (bt (whereT wo))) /\ Fr [] W w'') := Hd (fun W hW => where_any wo (fun p hp => by have := how; rw [hp] at this; exact CM.okPr_ok this) m4 A W _ (hE.keep hW) (Rep.Es.keep hW (by simp) q9))
  have HJ := Hd (And.intro q8 hoj)
  have HO := Hd (And.intro q10 hoo)
  have HM := Hd (And.intro m1 (And.intro m2 (And.intro m3 (And.intro m5 hlen))))
  have HEW := Hd hE
  have hws : ((bt (whereT wo)).size : Int) <= 60000 := by rw [bt_size]; omega
  have hjs : ((bt (jn imT its)).size : Int) <= 60000 := by rw [bt_size]; omega
  have htl := okName_len hot
  obtain ⟨ub, hub⟩ : ∃ z, bt tb = z := ⟨_, rfl⟩
  have hubz := bs hub htl
  have HUB := Hd hub
  obtain ⟨jb, hjb⟩ : ∃ z, bt jnm = z := ⟨_, rfl⟩
  have HJB := Hd hjb
  obtain ⟨zj, hzj⟩ : ∃ z, jnm.isEmpty = z := ⟨_, rfl⟩
  have HZJ := Hd hzj
  have hjz : jb.toList.isEmpty = zj := by rw [<- hjb, bt_empty', hzj]
  have hli : (its.length : Int) <= 60000 := by omega
  have HNIL : Hid (¬ 0 < its.length -> its = []) := Hd (fun h => List.length_eq_zero_iff.1 (by omega))
  have HHJ : Hid (jn imT its = if its = [] then [] else itemsT its) := Hd (by by_cases h0 : its = []; rw [if_pos h0, h0]; rfl; rw [if_neg h0]; exact jn_im its h0)
  change Calls _ _ #[.agg (List.toArray [.int .i64 6, .string (bt tb), .string ⟨#[]⟩, _, _, _, _, .string (bt jnm), _, _, _, _, _])] _ _
  rw [hub, hjb]
  have HB := Hd (Blk.new w 29 [.int .i64 6, .string ub, .string ⟨#[]⟩, .slice a3 l3 c3, .slice a4 l4 c4, .slice a5 l5 c5, .slice a6 its.length c6, .string jb, .slice a8 l8 c8, .slice a9 l9 c9, .slice a10 l10 c10, .bool od, .slice a12 l12 c12])
  have HF0 : Hid (Fr [] w (w.alloc (.cells #[.int .i64 6, .string ub, .string ⟨#[]⟩, .slice a3 l3 c3, .slice a4 l4 c4, .slice a5 l5 c5, .slice a6 its.length c6, .string jb, .slice a8 l8 c8, .slice a9 l9 c9, .slice a10 l10 c10, .bool od, .slice a12 l12 c12] 29))) := Hd ((Fr.refl [] w).alloc _)
  clear h q3 q4 q5 q6 q8 q9 q10 q12 hit hoi hot hoj how hoo m1 m2 m3 m4 m5 hlen hub hjb hzj hji hil htl hE
  go_enter Tryz.func43, Tryz.ntmps43
  go_upto_if 7 with fail
  generalize w.alloc (.cells #[.int .i64 6, .string ub, .string ⟨#[]⟩, .slice a3 l3 c3, .slice a4 l4 c4, .slice a5 l5 c5, .slice a6 its.length c6, .string jb, .slice a8 l8 c8, .slice a9 l9 c9, .slice a10 l10 c10, .bool od, .slice a12 l12 c12] 29) = w0 at HB HF0 ⊢
  have hB6 := HB.out.cell 6
  simp only [List.getElem?_cons_zero, List.getElem?_cons_succ] at hB6
  go_cut [3] from 7 to 11 (fun s3 wx => ∃ o3 : ByteArray, s3 = .string o3 /\ (o3.size : Int) <= 60000 /\ Hid (o3 = bt ([115, 101, 108, 101, 99, 116, 32] ++ itemsT its)) /\ Hid (Fr [] w0 wx))
  case first =>
    by_cases h0 : 0 < its.length
    · have h0' : (0 : Int) < its.length := by omega
      have HS : Hid (⟨#[115, 101, 108, 101, 99, 116, 32]⟩ ++ bt (jn imT its) = bt ([115, 101, 108, 101, 99, 116, 32] ++ itemsT its)) := Hd (by rw [HHJ.out, if_neg (by rintro rfl; simp at h0), show ⟨#[115, 101, 108, 101, 99, 116, 32]⟩ = bt [115, 101, 108, 101, 99, 116, 32] from rfl, bt_cat])
      have hss : ((bt ([115, 101, 108, 101, 99, 116, 32] ++ itemsT its)).size : Int) <= 60000 := by rw [bt_size]; have := HM.out.2.2.2.1; omega
      have HI2 := Hd (HI.out _ HF0.out)
      change Hid (Calls _ _ _ _ fun e w' => e = .returned (.string (bt (jn imT its))) /\ _) at HI2
      clear HI
      generalize bt (jn imT its) = di at HI2 HS hjs
      go_wp2_with fail
      refine HI2.out.mono ?_
      rintro e w5 ⟨rfl, hf5⟩
      have HF5 := Hd hf5
      clear hf5
      go_wp2_with fail
      go_meet
      exact ⟨_, rfl, by rw [HS.out]; exact hss, HS, HF5⟩
    · have h0' : ¬ (0 : Int) < its.length := by omega
      have hnil := HNIL.out h0
      have HS : Hid (⟨#[115, 101, 108, 101, 99, 116, 32, 42]⟩ = bt ([115, 101, 108, 101, 99, 116, 32] ++ itemsT its)) := Hd (by rw [hnil]; rfl)
      clear hnil
      go_wp2_with fail
      go_meet
      exact ⟨_, rfl, by decide, HS, Hd (Fr.refl _ _)⟩
  case rest =>
    obtain ⟨o3, rfl, ho3z, Ho3, HFwb⟩ := hcut
    obtain ⟨wb, hwx⟩ : ∃ z, z = wc := ⟨_, rfl⟩
    subst hwx
    clear hB6
    have HB3 := Hd (HB.out.keep HFwb.out (by simp))
    have HFW := Hd (HF0.out.trans HFwb.out)
    have hb1 := HB3.out.cell 1
    have hb7 := HB3.out.cell 7
    simp only [List.getElem?_cons_zero, List.getElem?_cons_succ] at hb1 hb7
    have HO4 : Hid (o3 ++ (⟨#[32, 102, 114, 111, 109, 32]⟩ ++ ub) = bt ([115, 101, 108, 101, 99, 116, 32] ++ itemsT its ++ [32, 102, 114, 111, 109, 32] ++ tb)) := Hd (by rw [Ho3.out, <- HUB.out, show ⟨#[32, 102, 114, 111, 109, 32]⟩ = bt [32, 102, 114, 111, 109, 32] from rfl, bt_cat, bt_cat]; simp only [List.append_assoc])
    have ho4s : ((o3 ++ (⟨#[32, 102, 114, 111, 109, 32]⟩ ++ ub)).size : Int) <= 60000 := by rw [HO4.out, bt_size]; have := HM.out.1; omega
    go_upto_if 19 with fail
    generalize o3 ++ (⟨#[32, 102, 114, 111, 109, 32]⟩ ++ ub) = o4 at HO4 ho4s ⊢
    clear hb1 hb7
    go_cut [3] from 19 to 29 (fun s3 wx => ∃ o5 : ByteArray, s3 = .string o5 /\ (o5.size : Int) <= 60000 /\ Hid (o5 = bt ([115, 101, 108, 101, 99, 116, 32] ++ itemsT its ++ [32, 102, 114, 111, 109, 32] ++ tb ++ joinT jo)) /\ Hid (Fr [] wb wx))
    case first =>
      rw [<- HJN.out] at HZJ HJB
      cases jo with
      | none =>
        obtain rfl : true = zj := HZJ.out
        go_wp2_with fail
        go_meet
        exact ⟨o4, rfl, ho4s, Hd (by rw [HO4.out]; simp [joinT]), Hd (Fr.refl _ _)⟩
      | some x =>
        obtain ⟨j, ca, cb⟩ := x
        obtain ⟨q8, hoj⟩ := HJ.out
        simp only [CM.okJ, Bool.and_eq_true] at hoj
        obtain ⟨⟨hj, hca⟩, hcb⟩ := hoj
        have hjl := okName_len hj
        have hzf : zj = false := by rw [<- HZJ.out]; have := okName_ne hj; cases hjj : j with | nil => exact absurd hjj this | cons => rfl
        subst hzf
        have hla := clT_le hca
        have hlb := clT_le hcb
        have hjbz := bs (l := j) HJB.out hjl
        obtain rfl : l8 = 2 := Px.es_len q8
        have hjt : Lib.join [clT ca, clT cb] [32, 61, 32] = clT ca ++ [32, 61, 32] ++ clT cb := by rw [Lib.join_cons]; simp [Lib.joinTail]
        have q8' : Rep.Es 82 A w ([clPr ca, clPr cb].map Pr.ex) (.slice a8 2 c8) := by simp only [List.map_cons, List.map_nil, clPr_ex]; exact q8
        have HON : Hid (∀ W, Fr [] wb W -> Calls Tryz.prog 42 #[.slice a8 2 c8, .string ⟨#[32, 61, 32]⟩, .func (.func 38) #[] #[]] W fun e w'' => e = .returned (.string (bt (clT ca ++ [32, 61, 32] ++ clT cb))) /\ Fr [] W w'') := Hd (fun W hW => by
        have h1 := (el_ex [clPr ca, clPr cb] (fun x _ => shown_any x) (fun x hx => by rcases mem_two hx with rfl | rfl; exact clPr_ok hca; exact clPr_ok hcb) (fun x hx => by rcases mem_two hx with rfl | rfl <;> rw [clPr_sh] <;> omega) (HEW.out.keep (HFW.out.trans hW)) (Rep.Es.keep (HFW.out.trans hW) (by simp) q8')).2
        simp only [List.map_cons, List.map_nil, clPr_sh] at h1
        have h2 := joined_ex 38 [32, 61, 32] [clT ca, clT cb] (by simp) (by rw [hjt]; simp only [List.length_append, List.length_cons, List.length_nil]; omega) a8 c8 W run_ex h1
        rw [hjt] at h2
        exact h2)
        have hus : ((bt (clT ca ++ [32, 61, 32] ++ clT cb)).size : Int) <= 100 := by rw [bt_size]; simp only [List.length_append, List.length_cons, List.length_nil]; omega
        have HS : Hid (o4 ++ (⟨#[32, 106, 111, 105, 110, 32]⟩ ++ jb ++ ⟨#[32, 111, 110, 32]⟩ ++ bt (clT ca ++ [32, 61, 32] ++ clT cb)) = bt ([115, 101, 108, 101, 99, 116, 32] ++ itemsT its ++ [32, 102, 114, 111, 109, 32] ++ tb ++ joinT (some (j, ca, cb)))) := Hd (by
          have hjb : bt j = jb := HJB.out
          rw [HO4.out, <- hjb, show ⟨#[32, 106, 111, 105, 110, 32]⟩ = bt [32, 106, 111, 105, 110, 32] from rfl, show ⟨#[32, 111, 110, 32]⟩ = bt [32, 111, 110, 32] from rfl]
          simp only [bt_cat, joinT, List.append_assoc])
        have HQQ : Hid (((bt ([115, 101, 108, 101, 99, 116, 32] ++ itemsT its ++ [32, 102, 114, 111, 109, 32] ++ tb ++ joinT (some (j, ca, cb)))).size : Int) <= 60000) := Hd (by rw [bt_size]; have := HM.out.2.1; omega)
        generalize bt (clT ca ++ [32, 61, 32] ++ clT cb) = u at HON HS hus
        clear q8 q8' hla hlb hjt hj hca hcb
        go_upto_region 6 with fail
        have ss0 : ¬ 9223372036854775807 < 6 + jb.size := by omega
        have ss1 : ¬ 9223372036854775807 < 6 + jb.size + 4 := by omega
        have ss2 : ¬ 9223372036854775807 < 6 + jb.size + 4 + u.size := by omega
        have ss3 : ¬ 9223372036854775807 < o4.size + (6 + jb.size + 4 + u.size) := by omega
        have HKEY : Hid (∀ W, Fr [] wb W -> W.cell? ⟨w.heap.size, 7, none⟩ = some (.string jb) /\ W.cell? ⟨w.heap.size, 8, none⟩ = some (.slice a8 2 c8)) := Hd fun W hW => ⟨(HB3.out.keep hW (by simp)).cell 7, (HB3.out.keep hW (by simp)).cell 8⟩
        have HFa : Hid (Fr [] wb wb) := Hd (Fr.refl [] wb)
        go_region_held3 (fun W => W.cell? ⟨w.heap.size, 7, none⟩ = some (.string jb) /\ W.cell? ⟨w.heap.size, 8, none⟩ = some (.slice a8 2 c8))
          ((refine HKEY.out _ ?_; repeat (first | with_reducible exact HFa.out | with_reducible refine Fr.drew ?_ | with_reducible refine Fr.alloc ?_ _)))
          (first
            | (go_at_call 42
               with_reducible refine Calls.mono (HON.out _ ?hf0) ?_
               case hf0 => (repeat (first | with_reducible exact HFa.out | with_reducible refine Fr.drew ?_ | with_reducible refine Fr.alloc ?_ _))
               rintro e wz ⟨rfl, hf⟩
               replace HFa : Hid (Fr [] wb wz) := Hd (Fr.trans (b := _) (by repeat (first | with_reducible exact HFa.out | with_reducible refine Fr.drew ?_ | with_reducible refine Fr.alloc ?_ _)) hf)
               clear hf))
        all_goals
          go_wp2_with fail
          go_meet
          exact ⟨_, congrArg Value.string HS.out, HQQ.out, Hd rfl, Hd (by repeat (first | with_reducible exact HFa.out | with_reducible refine Fr.drew ?_ | with_reducible refine Fr.alloc ?_ _))⟩
    case rest =>
      obtain ⟨o5, rfl, ho5z, Ho5, HFwd⟩ := hcut
      obtain ⟨wd, hwx⟩ : ∃ z, z = wc := ⟨_, rfl⟩
      subst hwx
      have HBd := Hd (HB3.out.keep HFwd.out (by simp))
      have HFD := Hd (HFW.out.trans HFwd.out)
      have hb9 := HBd.out.cell 9
      simp only [List.getElem?_cons_zero, List.getElem?_cons_succ] at hb9
      have HO6 : Hid (o5 ++ bt (whereT wo) = bt ([115, 101, 108, 101, 99, 116, 32] ++ itemsT its ++ [32, 102, 114, 111, 109, 32] ++ tb ++ joinT jo ++ whereT wo)) := Hd (by rw [Ho5.out, bt_cat])
      generalize bt (whereT wo) = dw at HWH HO6 hws
      go_wp2_with fail
      refine (HWH.out _ HFD.out).mono ?_
      rintro e w5 ⟨rfl, hf5⟩
      have HB5 := Hd (HBd.out.keep hf5 (by simp))
      have HF5 := Hd (HFD.out.trans hf5)
      clear hf5 hb9 HWH
      have hb10 := HB5.out.cell 10
      have hb11 := HB5.out.cell 11
      simp only [List.getElem?_cons_zero, List.getElem?_cons_succ] at hb10 hb11
      have ho6 : ((o5 ++ dw).size : Int) <= 60000 := by rw [HO6.out, bt_size]; have := HM.out.2.2.1; omega
      cases oo with
      | none =>
        obtain rfl : l10 = 0 := Px.es_len HO.out.1
        obtain rfl : false = od := HOD.out
        have HZ : Hid (o5 ++ dw = bt (selT ⟨its, tb, jo, wo, none⟩)) := Hd (by rw [HO6.out]; simp [selT, orderT])
        go_wp2_with fail
        go_ret
        exact ⟨congrArg (fun z => Ending.returned (.string z)) HZ.out, HF5.out⟩
      | some x =>
        obtain ⟨c, d⟩ := x
        obtain ⟨q10, hoc⟩ := HO.out
        obtain rfl : d = od := HOD.out
        obtain rfl : l10 = 1 := Px.es_len q10
        have hla := clT_le hoc
        have HX := Hd (one_ex 38 (clT c) (by omega) a10 c10 w5 run_ex (by
          have q10' : Rep.Es 82 A w ([clPr c].map Pr.ex) (.slice a10 1 c10) := by simp only [List.map_cons, List.map_nil, clPr_ex]; exact q10
          have h1 := (el_ex [clPr c] (fun x _ => shown_any x) (fun x hx => by obtain rfl := List.mem_singleton.1 hx; exact clPr_ok hoc) (fun x hx => by obtain rfl := List.mem_singleton.1 hx; rw [clPr_sh]; omega) (HEW.out.keep HF5.out) (Rep.Es.keep HF5.out (by simp) q10')).2 0 (by simp)
          simp only [List.map_cons, List.map_nil, List.getElem_cons_zero, clPr_sh] at h1
          exact h1))
        have hds : ((bt (clT c)).size : Int) <= 40 := by rw [bt_size]; omega
        change Hid (Calls _ _ _ _ fun e w' => e = .returned (.string (bt (clT c))) /\ _) at HX
        have HS : Hid (o5 ++ dw ++ (⟨#[32, 111, 114, 100, 101, 114, 32, 98, 121, 32]⟩ ++ bt (clT c)) = bt (selT ⟨its, tb, jo, wo, some (c, false)⟩)) := Hd (by rw [HO6.out, show ⟨#[32, 111, 114, 100, 101, 114, 32, 98, 121, 32]⟩ = bt [32, 111, 114, 100, 101, 114, 32, 98, 121, 32] from rfl]; simp [selT, orderT, bt_cat])
        have HS2 : Hid (o5 ++ dw ++ (⟨#[32, 111, 114, 100, 101, 114, 32, 98, 121, 32]⟩ ++ bt (clT c)) ++ ⟨#[32, 100, 101, 115, 99]⟩ = bt (selT ⟨its, tb, jo, wo, some (c, true)⟩)) := Hd (by rw [HO6.out, show ⟨#[32, 111, 114, 100, 101, 114, 32, 98, 121, 32]⟩ = bt [32, 111, 114, 100, 101, 114, 32, 98, 121, 32] from rfl, show ⟨#[32, 100, 101, 115, 99]⟩ = bt [32, 100, 101, 115, 99] from rfl]; simp [selT, orderT, bt_cat])
        clear q10 hla hoc
        generalize bt (clT c) = dc at HX HS HS2 hds
        cases d
        · go_wp2_with fail
          refine HX.out.mono ?_
          rintro e w7 ⟨rfl, hf7⟩
          have HF7 := Hd (HF5.out.trans hf7)
          have hb11 := (hf7.cell (p := ⟨w.heap.size, 11, none⟩) HB5.out.lt (by simp)).trans hb11
          clear hf7
          go_wp2_with fail
          go_ret
          exact ⟨congrArg (fun z => Ending.returned (.string z)) HS.out, HF7.out⟩
        · go_wp2_with fail
          refine HX.out.mono ?_
          rintro e w7 ⟨rfl, hf7⟩
          have HF7 := Hd (HF5.out.trans hf7)
          have hb11 := (hf7.cell (p := ⟨w.heap.size, 11, none⟩) HB5.out.lt (by simp)).trans hb11
          clear hf7
          go_wp2_with fail
          go_ret
          exact ⟨congrArg (fun z => Ending.returned (.string z)) HS2.out, HF7.out⟩
set_option maxRecDepth 4000000 in
set_option maxHeartbeats 8000000 in
theorem door_any (k : Int) (wd m : B) (tags : List Nat) (x : PM.St) (T : B) (hwd : wd.length <= 7) (hm : m.length <= 16) (htg : ∀ t ∈ tags, t <= 65535) (hl : (tagsT tags).length <= 60000) (hT : T.length <= 60000) (A : Nat -> Prop) (w : World) (cs : List Value) (hE : Env w) (h : SR A w (PM.St.mk k [] m [] (tags.map CM.tagI) [] [] [] [] [] [] false [x]) cs)
  (ih : ∀ (W : World) (ys : List Value), Env W -> SR A W x ys -> Calls Tryz.prog 17 #[.agg ys.toArray] W fun e w' => e = .returned (.string (bt T)) /\ Fr [] W w') :
  Calls Tryz.prog 41 #[.string (bt wd), .agg cs.toArray] w fun e w' => e = .returned (.string (bt ([99, 114, 101, 97, 116, 101, 32] ++ wd ++ [32] ++ m ++ [32, 115, 116, 114, 105, 112] ++ tagsT tags ++ [32, 97, 115, 32] ++ T))) /\ Fr [] w w' := by
 obtain ⟨a3, a4, a5, a6, a8, a9, a10, a12, l3, l4, l5, l6, l8, l9, l10, l12, c3, c4, c5, c6, c8, c9, c10, c12, rfl, q3, q4, q5, q6, q8, q9, q10, q12⟩ := sr_all h
 obtain ⟨rfl, -⟩ := el_st q12 hE ih
 obtain ⟨n4, -⟩ := el_tag tags htg hE q4
 subst n4
 have hjl : (jn Lib.decDigits tags).length <= 60000 := by unfold tagsT at hl; cases tags with | nil => simp [jn] | cons => simp at hl; omega
 have HT : Hid (∀ W, Fr [] w W -> Calls Tryz.prog 46 #[.slice a4 tags.length c4] W fun e w'' => e = .returned (.string (bt (jn Lib.decDigits tags))) /\ Fr [] W w'') := Hd (fun W hW => tags_any tags htg hjl A W a4 _ c4 (hE.keep hW) (Px.FlatS.keep hW (by simp) q4))
 have HX : Hid (∀ W, Fr [] w W -> Calls Tryz.prog 86 #[.slice a12 1 c12, .func (.func 17) #[] #[]] W fun e w'' => e = .returned (.string (bt T)) /\ Fr [] W w'') := Hd (fun W hW => one_st 17 T hT a12 c12 W run_st (el_st (Px.SS.keep hW (by simp) q12) (hE.keep hW) ih).2)
 obtain ⟨wb, hwb⟩ : ∃ z, bt wd = z := ⟨_, rfl⟩
 have hwz := bs hwb hwd
 obtain ⟨mb, hmb⟩ : ∃ z, bt m = z := ⟨_, rfl⟩
 have hmz := bs hmb hm
 have hds : ((bt (jn Lib.decDigits tags)).size : Int) <= 60000 := by rw [bt_size]; omega
 have hus : ((bt T).size : Int) <= 60000 := by rw [bt_size]; omega
 have HS1 : Hid (0 < tags.length -> ⟨#[99, 114, 101, 97, 116, 101, 32]⟩ ++ wb ++ ⟨#[32]⟩ ++ mb ++ ⟨#[32, 115, 116, 114, 105, 112, 32]⟩ ++ (bt (jn Lib.decDigits tags) ++ ⟨#[32]⟩) ++ ⟨#[97, 115, 32]⟩ ++ bt T = bt ([99, 114, 101, 97, 116, 101, 32] ++ wd ++ [32] ++ m ++ [32, 115, 116, 114, 105, 112] ++ tagsT tags ++ [32, 97, 115, 32] ++ T)) := Hd (fun h0 => by
  rw [<- hwb, <- hmb, show ⟨#[99, 114, 101, 97, 116, 101, 32]⟩ = bt [99, 114, 101, 97, 116, 101, 32] from rfl, show ⟨#[32]⟩ = bt [32] from rfl, show ⟨#[32, 115, 116, 114, 105, 112, 32]⟩ = bt [32, 115, 116, 114, 105, 112, 32] from rfl, show ⟨#[97, 115, 32]⟩ = bt [97, 115, 32] from rfl]
  have ht : tagsT tags = 32 :: jn Lib.decDigits tags := by unfold tagsT; cases tags with | nil => simp at h0 | cons => rfl
  rw [ht]
  simp only [bt_cat]
  simp)
 have HS2 : Hid (¬ 0 < tags.length -> ⟨#[99, 114, 101, 97, 116, 101, 32]⟩ ++ wb ++ ⟨#[32]⟩ ++ mb ++ ⟨#[32, 115, 116, 114, 105, 112, 32]⟩ ++ ⟨#[97, 115, 32]⟩ ++ bt T = bt ([99, 114, 101, 97, 116, 101, 32] ++ wd ++ [32] ++ m ++ [32, 115, 116, 114, 105, 112] ++ tagsT tags ++ [32, 97, 115, 32] ++ T)) := Hd (fun h0 => by
  rw [<- hwb, <- hmb, show ⟨#[99, 114, 101, 97, 116, 101, 32]⟩ = bt [99, 114, 101, 97, 116, 101, 32] from rfl, show ⟨#[32]⟩ = bt [32] from rfl, show ⟨#[32, 115, 116, 114, 105, 112, 32]⟩ = bt [32, 115, 116, 114, 105, 112, 32] from rfl, show ⟨#[97, 115, 32]⟩ = bt [97, 115, 32] from rfl]
  have ht : tagsT tags = [] := by rw [List.length_eq_zero_iff.1 (by omega : tags.length = 0)]; rfl
  rw [ht]
  simp only [bt_cat]
  simp)
 generalize bt ([99, 114, 101, 97, 116, 101, 32] ++ wd ++ [32] ++ m ++ [32, 115, 116, 114, 105, 112] ++ tagsT tags ++ [32, 97, 115, 32] ++ T) = RES at HS1 HS2 ⊢
 generalize bt (jn Lib.decDigits tags) = d at HT HS1 hds
 generalize bt T = u at HX HS1 HS2 hus
 change Calls _ _ #[_, .agg (List.toArray [.int .i64 k, .string ⟨#[]⟩, .string (bt m), _, _, _, _, _, _, _, _, _, _])] _ _
 rw [hwb, hmb]
 have HB := Hd (Blk.new w 29 [.int .i64 k, .string ⟨#[]⟩, .string mb, .slice a3 l3 c3, .slice a4 tags.length c4, .slice a5 l5 c5, .slice a6 l6 c6, .string ⟨#[]⟩, .slice a8 l8 c8, .slice a9 l9 c9, .slice a10 l10 c10, .bool false, .slice a12 1 c12])
 have HF0 : Hid (Fr [] w (w.alloc (.cells #[.int .i64 k, .string ⟨#[]⟩, .string mb, .slice a3 l3 c3, .slice a4 tags.length c4, .slice a5 l5 c5, .slice a6 l6 c6, .string ⟨#[]⟩, .slice a8 l8 c8, .slice a9 l9 c9, .slice a10 l10 c10, .bool false, .slice a12 1 c12] 29))) := Hd ((Fr.refl [] w).alloc _)
 have htn : tags.length <= 60000 := jn_cnt hjl
 have hli : (tags.length : Int) <= 60000 := by omega
 clear h q3 q4 q5 q6 q8 q9 q10 q12 ih htg hl hT hjl hwb hmb hwd hm hE
 by_cases h0 : 0 < tags.length
 ·have h0' : (0 : Int) < tags.length := by omega
  go_enter Tryz.func41, Tryz.ntmps41
  go_wp2_with fail
  refine (HT.out _ HF0.out).mono ?_
  rintro e w5 ⟨rfl, hf5⟩
  have HB5 := Hd (HB.out.keep hf5 (by simp))
  have HF5 := Hd (HF0.out.trans hf5)
  have hb12 := HB5.out.cell 12
  simp only [List.getElem?_cons_zero, List.getElem?_cons_succ] at hb12
  clear hf5
  go_wp2_with fail
  refine (HX.out _ HF5.out).mono ?_
  rintro e w7 ⟨rfl, hf7⟩
  have HF7 := Hd (HF5.out.trans hf7)
  clear hf7
  have HS := Hd (HS1.out h0)
  go_wp2_with fail
  go_ret
  exact ⟨congrArg (fun z => Ending.returned (.string z)) HS.out, HF7.out⟩
 ·have h0' : ¬ (0 : Int) < tags.length := by omega
  go_enter Tryz.func41, Tryz.ntmps41
  go_wp2_with fail
  refine (HX.out _ HF0.out).mono ?_
  rintro e w7 ⟨rfl, hf7⟩
  have HF7 := Hd (HF0.out.trans hf7)
  clear hf7
  have HS := Hd (HS2.out h0)
  go_wp2_with fail
  go_ret
  exact ⟨congrArg (fun z => Ending.returned (.string z)) HS.out, HF7.out⟩
set_option maxRecDepth 4000000 in
set_option maxHeartbeats 8000000 in
theorem show_index (t m : B) : ShowS (.index t m) := by
 intro D hok hlen A w cs hE h
 obtain ⟨a3, a4, a5, a6, a8, a9, a10, a12, l3, l4, l5, l6, l8, l9, l10, l12, c3, c4, c5, c6, c8, c9, c10, c12, rfl, q3, q4, q5, q6, q8, q9, q10, q12⟩ := sr_all h
 simp only [Qs.ok, Bool.and_eq_true] at hok
 have hlx := okName_len hok.1
 obtain ⟨x, hx⟩ : ∃ z, bt t = z := ⟨_, rfl⟩
 have hxz := bs hx hlx
 have hly := okName_len hok.2
 obtain ⟨y, hy⟩ : ∃ z, bt m = z := ⟨_, rfl⟩
 have hyz := bs hy hly
 have HS : Hid (⟨#[99, 114, 101, 97, 116, 101, 32, 105, 110, 100, 101, 120, 32, 111, 110, 32]⟩ ++ x ++ ⟨#[40]⟩ ++ y ++ ⟨#[41]⟩ = bt (qsT (.index t m))) := Hd (by rw [<- hx, <- hy, show ⟨#[99, 114, 101, 97, 116, 101, 32, 105, 110, 100, 101, 120, 32, 111, 110, 32]⟩ = bt [99, 114, 101, 97, 116, 101, 32, 105, 110, 100, 101, 120, 32, 111, 110, 32] from rfl, show ⟨#[40]⟩ = bt [40] from rfl, show ⟨#[41]⟩ = bt [41] from rfl]; simp only [bt_cat, qsT])
 change Calls _ _ #[.agg (List.toArray [.int .i64 2, .string (bt t), .string (bt m), _, _, _, _, _, _, _, _, _, _])] _ _
 rw [hx, hy]
 clear h hok hlen hx hy hlx hly hE q3 q4 q5 q6 q8 q9 q10 q12
 go_enter Tryz.func17, Tryz.ntmps17
 go_wp2_with fail
 go_ret
 exact ⟨congrArg (fun z => Ending.returned (.string z)) HS.out, (Fr.refl [] w).alloc _⟩
set_option maxRecDepth 4000000 in
set_option maxHeartbeats 8000000 in
theorem show_call (m : B) : ShowS (.call m) := by
 intro D hok hlen A w cs hE h
 obtain ⟨a3, a4, a5, a6, a8, a9, a10, a12, l3, l4, l5, l6, l8, l9, l10, l12, c3, c4, c5, c6, c8, c9, c10, c12, rfl, q3, q4, q5, q6, q8, q9, q10, q12⟩ := sr_all h
 have hly := okName_len hok
 obtain ⟨y, hy⟩ : ∃ z, bt m = z := ⟨_, rfl⟩
 have hyz := bs hy hly
 have HS : Hid (⟨#[99, 97, 108, 108, 32]⟩ ++ y = bt (qsT (.call m))) := Hd (by rw [<- hy, show ⟨#[99, 97, 108, 108, 32]⟩ = bt [99, 97, 108, 108, 32] from rfl]; simp only [bt_cat, qsT])
 change Calls _ _ #[.agg (List.toArray [.int .i64 13, .string ⟨#[]⟩, .string (bt m), _, _, _, _, _, _, _, _, _, _])] _ _
 rw [hy]
 clear h hok hlen hy hly hE q3 q4 q5 q6 q8 q9 q10 q12
 go_enter Tryz.func17, Tryz.ntmps17
 go_wp2_with fail
 go_ret
 exact ⟨congrArg (fun z => Ending.returned (.string z)) HS.out, (Fr.refl [] w).alloc _⟩
set_option maxRecDepth 4000000 in
set_option maxHeartbeats 8000000 in
theorem show_plain (k : Nat) : ShowS (.plain k) := by
 intro D hok hlen A w cs hE h
 have hk : k < 3 := of_decide_eq_true hok
 rcases (by omega : k = 0 \/ k = 1 \/ k = 2) with rfl | rfl | rfl
 ·have h : SR A w (.mk 9 [] [] [] [] [] [] [] [] [] [] false []) cs := h
  obtain ⟨a3, a4, a5, a6, a8, a9, a10, a12, l3, l4, l5, l6, l8, l9, l10, l12, c3, c4, c5, c6, c8, c9, c10, c12, rfl, q3, q4, q5, q6, q8, q9, q10, q12⟩ := sr_all h
  clear h hok hlen hE q3 q4 q5 q6 q8 q9 q10 q12
  go_enter Tryz.func17, Tryz.ntmps17
  go_wp2_with fail
  go_ret
  exact ⟨rfl, (Fr.refl [] w).alloc _⟩
 ·have h : SR A w (.mk 10 [] [] [] [] [] [] [] [] [] [] false []) cs := h
  obtain ⟨a3, a4, a5, a6, a8, a9, a10, a12, l3, l4, l5, l6, l8, l9, l10, l12, c3, c4, c5, c6, c8, c9, c10, c12, rfl, q3, q4, q5, q6, q8, q9, q10, q12⟩ := sr_all h
  clear h hok hlen hE q3 q4 q5 q6 q8 q9 q10 q12
  go_enter Tryz.func17, Tryz.ntmps17
  go_wp2_with fail
  go_ret
  exact ⟨rfl, (Fr.refl [] w).alloc _⟩
 ·have h : SR A w (.mk 11 [] [] [] [] [] [] [] [] [] [] false []) cs := h
  obtain ⟨a3, a4, a5, a6, a8, a9, a10, a12, l3, l4, l5, l6, l8, l9, l10, l12, c3, c4, c5, c6, c8, c9, c10, c12, rfl, q3, q4, q5, q6, q8, q9, q10, q12⟩ := sr_all h
  clear h hok hlen hE q3 q4 q5 q6 q8 q9 q10 q12
  go_enter Tryz.func17, Tryz.ntmps17
  go_wp2_with fail
  go_ret
  exact ⟨rfl, (Fr.refl [] w).alloc _⟩
set_option maxRecDepth 4000000 in
set_option maxHeartbeats 8000000 in
theorem show_raise (t : Nat) (r : List Nat) : ShowS (.raise t r) := by
 intro D hok hlen A w cs hE h
 obtain ⟨a3, a4, a5, a6, a8, a9, a10, a12, l3, l4, l5, l6, l8, l9, l10, l12, c3, c4, c5, c6, c8, c9, c10, c12, rfl, q3, q4, q5, q6, q8, q9, q10, q12⟩ := sr_all h
 simp only [Qs.ok, Bool.and_eq_true, CM.okTag, decide_eq_true_eq, List.all_eq_true] at hok
 have hl : (jn Lib.decDigits (t :: r)).length <= 60000 := by simp only [qsT, tagsT, List.isEmpty_cons, List.length_append] at hlen; simp at hlen; omega
 have htg : ∀ u ∈ t :: r, u <= 65535 := fun u hu => by rcases List.mem_cons.1 hu with rfl | hu; exact hok.1; exact hok.2 u hu
 have HT : Hid (∀ W, Fr [] w W -> Calls Tryz.prog 46 #[.slice a4 l4 c4] W fun e w'' => e = .returned (.string (bt (jn Lib.decDigits (t :: r)))) /\ Fr [] W w'') := Hd (fun W hW => tags_any (t :: r) htg hl A W a4 l4 c4 (hE.keep hW) (Px.FlatS.keep hW (by simp) q4))
 have HS : Hid (⟨#[114, 97, 105, 115, 101, 32]⟩ ++ bt (jn Lib.decDigits (t :: r)) = bt (qsT (.raise t r))) := Hd (by rw [show ⟨#[114, 97, 105, 115, 101, 32]⟩ = bt [114, 97, 105, 115, 101, 32] from rfl, bt_cat]; rfl)
 have hds : ((bt (jn Lib.decDigits (t :: r))).size : Int) <= 60000 := by rw [bt_size]; omega
 generalize bt (jn Lib.decDigits (t :: r)) = d at HT HS hds
 clear h hok hlen hl htg hE q3 q4 q5 q6 q8 q9 q10 q12
 go_enter Tryz.func17, Tryz.ntmps17
 go_wp2_with fail
 refine (HT.out _ ((Fr.refl [] w).alloc _)).mono ?_
 rintro e w5 ⟨rfl, hf5⟩
 have HF5 := Hd (((Fr.refl [] w).alloc _).trans hf5)
 clear hf5
 go_wp2_with fail
 go_ret
 exact ⟨congrArg (fun z => Ending.returned (.string z)) HS.out, HF5.out⟩
set_option maxRecDepth 4000000 in
set_option maxHeartbeats 8000000 in
theorem show_select (s : Sel) : ShowS (.select s) := by
 intro D hok hlen A w cs hE h
 have HT := Hd (fun o => selects_any s D hok hlen A (w.alloc o) cs (hE.keep ((Fr.refl [] w).alloc o)) (Px.SR.keep ((Fr.refl [] w).alloc o) (by simp) h))
 obtain ⟨its, tb, jo, wo, oo⟩ := s
 obtain ⟨a3, a4, a5, a6, a8, a9, a10, a12, l3, l4, l5, l6, l8, l9, l10, l12, c3, c4, c5, c6, c8, c9, c10, c12, rfl, q3, q4, q5, q6, q8, q9, q10, q12⟩ := sr_all h
 obtain ⟨z1, hz1⟩ : ∃ z, (⟨tb.toArray⟩ : ByteArray) = z := ⟨_, rfl⟩
 obtain ⟨z2, hz2⟩ : ∃ z, (⟨(CM.joinN jo).toArray⟩ : ByteArray) = z := ⟨_, rfl⟩
 obtain ⟨z3, hz3⟩ : ∃ z, CM.orderD oo = z := ⟨_, rfl⟩
 change Calls _ _ #[.agg (List.toArray [.int .i64 6, .string ⟨tb.toArray⟩, .string ⟨#[]⟩, _, _, _, _, .string ⟨(CM.joinN jo).toArray⟩, _, _, _, .bool (CM.orderD oo), _])] _ _
 rw [hz1, hz2, hz3]
 change Hid (∀ o, Calls _ _ #[.agg (List.toArray [.int .i64 6, .string ⟨tb.toArray⟩, .string ⟨#[]⟩, _, _, _, _, .string ⟨(CM.joinN jo).toArray⟩, _, _, _, .bool (CM.orderD oo), _])] _ _) at HT
 rw [hz1, hz2, hz3] at HT
 change Hid (∀ o, Calls _ _ _ _ fun e w' => e = .returned (.string (bt (qsT (.select ⟨its, tb, jo, wo, oo⟩)))) /\ _) at HT
 generalize bt (qsT (.select ⟨its, tb, jo, wo, oo⟩)) = d at HT ⊢
 clear h hok hlen hz1 hz2 hz3 hE q3 q4 q5 q6 q8 q9 q10 q12
 go_enter Tryz.func17, Tryz.ntmps17
 go_wp2_with fail
 refine (HT.out _).mono ?_
 rintro e w5 ⟨rfl, hf5⟩
 have HF5 := Hd (((Fr.refl [] w).alloc _).trans hf5)
 clear hf5
 go_wp2_with fail
 go_ret
 exact ⟨rfl, HF5.out⟩
set_option maxRecDepth 4000000 in
set_option maxHeartbeats 8000000 in
theorem show_view (m : B) (tags : List Nat) (s : Sel) (ih : ShowS (.select s)) : ShowS (.view m tags s) := by
 intro D hok hlen A w cs hE h
 simp only [Qs.ok, Bool.and_eq_true] at hok
 have hl : (tagsT tags).length <= 60000 /\ (selT s).length <= 60000 := by simp only [qsT, List.length_append] at hlen; omega
 have HT := Hd (fun o => door_any 3 [118, 105, 101, 119] m tags s.st (selT s) (by decide) (okName_len hok.1.1) (fun u hu => of_decide_eq_true (List.all_eq_true.1 hok.1.2 u hu)) hl.1 hl.2 A (w.alloc o) cs (hE.keep ((Fr.refl [] w).alloc o)) (Px.SR.keep ((Fr.refl [] w).alloc o) (by simp) h) (fun W ys hW hS => ih D hok.2 hl.2 A W ys hW hS))
 rw [show ([99, 114, 101, 97, 116, 101, 32] ++ [118, 105, 101, 119] ++ [32] ++ m ++ [32, 115, 116, 114, 105, 112] ++ tagsT tags ++ [32, 97, 115, 32] ++ selT s : B) = qsT (.view m tags s) from rfl] at HT
 obtain ⟨a3, a4, a5, a6, a8, a9, a10, a12, l3, l4, l5, l6, l8, l9, l10, l12, c3, c4, c5, c6, c8, c9, c10, c12, rfl, q3, q4, q5, q6, q8, q9, q10, q12⟩ := sr_all h
 obtain ⟨z1, hz1⟩ : ∃ z, (⟨m.toArray⟩ : ByteArray) = z := ⟨_, rfl⟩
 change Calls _ _ #[.agg (List.toArray [.int .i64 3, .string ⟨#[]⟩, .string ⟨m.toArray⟩, _, _, _, _, .string ⟨#[]⟩, _, _, _, .bool false, _])] _ _
 rw [hz1]
 change Hid (∀ o, Calls _ _ #[.string ⟨#[118, 105, 101, 119]⟩, .agg (List.toArray [.int .i64 3, .string ⟨#[]⟩, .string ⟨m.toArray⟩, _, _, _, _, .string ⟨#[]⟩, _, _, _, .bool false, _])] _ _) at HT
 rw [hz1] at HT
 change Hid (∀ o, Calls _ _ _ _ fun e w' => e = .returned (.string (bt (qsT (.view m tags s)))) /\ _) at HT
 generalize bt (qsT (.view m tags s)) = d at HT ⊢
 clear h hok hlen hz1 hE ih hl q3 q4 q5 q6 q8 q9 q10 q12
 go_enter Tryz.func17, Tryz.ntmps17
 go_wp2_with fail
 refine (HT.out _).mono ?_
 rintro e w5 ⟨rfl, hf5⟩
 have HF5 := Hd (((Fr.refl [] w).alloc _).trans hf5)
 clear hf5
 go_wp2_with fail
 go_ret
 exact ⟨rfl, HF5.out⟩
set_option maxRecDepth 4000000 in
set_option maxHeartbeats 8000000 in
theorem show_closure (m : B) (tags : List Nat) (s : Wr) (ih : ShowS (.write s)) : ShowS (.closure m tags s) := by
 intro D hok hlen A w cs hE h
 simp only [Qs.ok, Bool.and_eq_true] at hok
 have hl : (tagsT tags).length <= 60000 /\ (wrT s).length <= 60000 := by simp only [qsT, List.length_append] at hlen; omega
 have HT := Hd (fun o => door_any 4 [99, 108, 111, 115, 117, 114, 101] m tags s.st (wrT s) (by decide) (okName_len hok.1.1) (fun u hu => of_decide_eq_true (List.all_eq_true.1 hok.1.2 u hu)) hl.1 hl.2 A (w.alloc o) cs (hE.keep ((Fr.refl [] w).alloc o)) (Px.SR.keep ((Fr.refl [] w).alloc o) (by simp) h) (fun W ys hW hS => ih D hok.2 hl.2 A W ys hW hS))
 rw [show ([99, 114, 101, 97, 116, 101, 32] ++ [99, 108, 111, 115, 117, 114, 101] ++ [32] ++ m ++ [32, 115, 116, 114, 105, 112] ++ tagsT tags ++ [32, 97, 115, 32] ++ wrT s : B) = qsT (.closure m tags s) from rfl] at HT
 obtain ⟨a3, a4, a5, a6, a8, a9, a10, a12, l3, l4, l5, l6, l8, l9, l10, l12, c3, c4, c5, c6, c8, c9, c10, c12, rfl, q3, q4, q5, q6, q8, q9, q10, q12⟩ := sr_all h
 obtain ⟨z1, hz1⟩ : ∃ z, (⟨m.toArray⟩ : ByteArray) = z := ⟨_, rfl⟩
 change Calls _ _ #[.agg (List.toArray [.int .i64 4, .string ⟨#[]⟩, .string ⟨m.toArray⟩, _, _, _, _, .string ⟨#[]⟩, _, _, _, .bool false, _])] _ _
 rw [hz1]
 change Hid (∀ o, Calls _ _ #[.string ⟨#[99, 108, 111, 115, 117, 114, 101]⟩, .agg (List.toArray [.int .i64 4, .string ⟨#[]⟩, .string ⟨m.toArray⟩, _, _, _, _, .string ⟨#[]⟩, _, _, _, .bool false, _])] _ _) at HT
 rw [hz1] at HT
 change Hid (∀ o, Calls _ _ _ _ fun e w' => e = .returned (.string (bt (qsT (.closure m tags s)))) /\ _) at HT
 generalize bt (qsT (.closure m tags s)) = d at HT ⊢
 clear h hok hlen hz1 hE ih hl q3 q4 q5 q6 q8 q9 q10 q12
 go_enter Tryz.func17, Tryz.ntmps17
 go_wp2_with fail
 refine (HT.out _).mono ?_
 rintro e w5 ⟨rfl, hf5⟩
 have HF5 := Hd (((Fr.refl [] w).alloc _).trans hf5)
 clear hf5
 go_wp2_with fail
 go_ret
 exact ⟨rfl, HF5.out⟩
set_option maxRecDepth 4000000 in
set_option maxHeartbeats 8000000 in
theorem show_table (m : B) (c : Co) (r : List Co) : ShowS (.table m c r) := by
  intro D hok hlen A w cs hE h
  obtain ⟨a3, a4, a5, a6, a8, a9, a10, a12, l3, l4, l5, l6, l8, l9, l10, l12, c3, c4, c5, c6, c8, c9, c10, c12, rfl, q3, q4, q5, q6, q8, q9, q10, q12⟩ := sr_all h
  simp only [Qs.ok, Bool.and_eq_true] at hok
  have hall : ∀ x ∈ c :: r, x.ok = true := fun x hx => by rcases List.mem_cons.1 hx with rfl | hx; exact hok.1.2; exact List.all_eq_true.1 hok.2 x hx
  have hl : (jn coT (c :: r)).length <= 60000 := by simp only [qsT, List.length_append] at hlen; omega
  obtain ⟨n3, -⟩ := el_col (c :: r) hall q3
  have HEw : Hid (∀ W, Fr [] w W -> Calls Tryz.prog 39 #[.slice a3 l3 c3, .string ⟨#[44, 32]⟩, .func (.func 40) #[] #[]] W fun e w'' => e = .returned (.string (bt (jn coT (c :: r)))) /\ Fr [] W w'') := Hd (fun W hW => by have h1 := joined_col 40 [44, 32] ((c :: r).map coT) (by rw [List.length_map]; exact jn_cnt hl) (by rw [jn_join]; exact hl) a3 c3 W run_col (el_col (c :: r) hall (Px.FlatS.keep hW (by simp) q3)).2; rw [jn_join, List.length_map, <- n3] at h1; exact h1)
  have hlmb := okName_len hok.1.1
  obtain ⟨mb, hmb⟩ : ∃ z, bt m = z := ⟨_, rfl⟩
  have hmbz := bs hmb hlmb
  have HS : Hid (⟨#[99, 114, 101, 97, 116, 101, 32, 116, 97, 98, 108, 101, 32]⟩ ++ mb ++ ⟨#[40]⟩ ++ bt (jn coT (c :: r)) ++ ⟨#[41]⟩ = bt (qsT (.table m c r))) := Hd (by rw [<- hmb, show ⟨#[99, 114, 101, 97, 116, 101, 32, 116, 97, 98, 108, 101, 32]⟩ = bt [99, 114, 101, 97, 116, 101, 32, 116, 97, 98, 108, 101, 32] from rfl, show ⟨#[40]⟩ = bt [40] from rfl, show ⟨#[41]⟩ = bt [41] from rfl]; simp only [bt_cat, qsT])
  have hds : ((bt (jn coT (c :: r))).size : Int) <= 60000 := by rw [bt_size]; omega
  generalize bt (jn coT (c :: r)) = d at HEw HS hds
  change Calls _ _ #[.agg (List.toArray [.int .i64 1, .string ⟨#[]⟩, .string (bt m), _, _, _, _, _, _, _, _, _, _])] _ _
  rw [hmb]
  have HB := Hd (Blk.new w 29 [.int .i64 1, .string ⟨#[]⟩, .string mb, .slice a3 l3 c3, .slice a4 l4 c4, .slice a5 l5 c5, .slice a6 l6 c6, .string ⟨#[]⟩, .slice a8 l8 c8, .slice a9 l9 c9, .slice a10 l10 c10, .bool false, .slice a12 l12 c12])
  have HF0 : Hid (Fr [] w (w.alloc (.cells #[.int .i64 1, .string ⟨#[]⟩, .string mb, .slice a3 l3 c3, .slice a4 l4 c4, .slice a5 l5 c5, .slice a6 l6 c6, .string ⟨#[]⟩, .slice a8 l8 c8, .slice a9 l9 c9, .slice a10 l10 c10, .bool false, .slice a12 l12 c12] 29))) := Hd ((Fr.refl [] w).alloc _)
  clear h hok hlen hl hall hmb hlmb n3 hE q3 q4 q5 q6 q8 q9 q10 q12
  have ss0 : ¬ 9223372036854775807 < 13 + mb.size := by omega
  have ss1 : ¬ 9223372036854775807 < 13 + mb.size + 1 := by omega
  have ss2 : ¬ 9223372036854775807 < 13 + mb.size + 1 + d.size := by omega
  have ss3 : ¬ 9223372036854775807 < 13 + mb.size + 1 + d.size + 1 := by omega
  go_enter Tryz.func17, Tryz.ntmps17
  go_upto_region 3 with fail
  generalize w.alloc (.cells #[.int .i64 1, .string ⟨#[]⟩, .string mb, .slice a3 l3 c3, .slice a4 l4 c4, .slice a5 l5 c5, .slice a6 l6 c6, .string ⟨#[]⟩, .slice a8 l8 c8, .slice a9 l9 c9, .slice a10 l10 c10, .bool false, .slice a12 l12 c12] 29) = w0 at HB HF0 ⊢
  have HE : Hid (∀ W, Fr [] w0 W -> Calls Tryz.prog 39 #[.slice a3 l3 c3, .string ⟨#[44, 32]⟩, .func (.func 40) #[] #[]] W fun e w'' => e = .returned (.string d) /\ Fr [] W w'') := Hd (fun W hf => HEw.out W (HF0.out.trans hf))
  have HKEY : Hid (∀ W, Fr [] w0 W -> W.cell? ⟨w.heap.size, 2, none⟩ = some (.string mb) /\ W.cell? ⟨w.heap.size, 3, none⟩ = some (.slice a3 l3 c3)) := Hd fun W hW => ⟨(HB.out.keep hW (by simp)).cell 2, (HB.out.keep hW (by simp)).cell 3⟩
  have HFa : Hid (Fr [] w0 w0) := Hd (Fr.refl [] w0)
  go_region_held3 (fun W => W.cell? ⟨w.heap.size, 2, none⟩ = some (.string mb) /\ W.cell? ⟨w.heap.size, 3, none⟩ = some (.slice a3 l3 c3))
    ((refine HKEY.out _ ?_; repeat (first | with_reducible exact HFa.out | with_reducible refine Fr.drew ?_ | with_reducible refine Fr.alloc ?_ _)))
    (first
      | (go_at_call 39
         with_reducible refine Calls.mono (HE.out _ ?hf0) ?_
         case hf0 => (repeat (first | with_reducible exact HFa.out | with_reducible refine Fr.drew ?_ | with_reducible refine Fr.alloc ?_ _))
         rintro e wz ⟨rfl, hf⟩
         replace HFa : Hid (Fr [] w0 wz) := Hd (Fr.trans (b := _) (by repeat (first | with_reducible exact HFa.out | with_reducible refine Fr.drew ?_ | with_reducible refine Fr.alloc ?_ _)) hf)
         clear hf))
  all_goals
    go_wp2_with fail
    go_ret
    exact ⟨congrArg (fun z => Ending.returned (.string z)) HS.out, HF0.out.trans (by repeat (first | with_reducible exact HFa.out | with_reducible refine Fr.drew ?_ | with_reducible refine Fr.alloc ?_ _))⟩
set_option maxRecDepth 4000000 in
set_option maxHeartbeats 8000000 in
theorem show_insert (t : B) (x : Pr) (r : List Pr) : ShowS (.write (.insert t x r)) := by
  intro D hok hlen A w cs hE h
  obtain ⟨a3, a4, a5, a6, a8, a9, a10, a12, l3, l4, l5, l6, l8, l9, l10, l12, c3, c4, c5, c6, c8, c9, c10, c12, rfl, q3, q4, q5, q6, q8, q9, q10, q12⟩ := sr_all h
  simp only [Qs.ok, Wr.ok, Bool.and_eq_true] at hok
  have hl : (exprsT (x :: r)).length <= 60000 := by simp only [qsT, wrT, List.length_append] at hlen; omega
  have hpk : ∀ p ∈ x :: r, p.ok = true := fun p hp => by rcases List.mem_cons.1 hp with rfl | hp; exact CM.okPr_ok hok.1.2; exact CM.okPr_ok (List.all_eq_true.1 hok.2 p hp)
  have hps : ∀ p ∈ x :: r, (sh p).length <= 60000 := fun p hp => Nat.le_trans (jn_elem sh _ hp) hl
  obtain ⟨n5, -⟩ := el_ex (x :: r) (fun p _ => shown_any p) hpk hps hE q5
  have HEw : Hid (∀ W, Fr [] w W -> Calls Tryz.prog 42 #[.slice a5 l5 c5, .string ⟨#[44, 32]⟩, .func (.func 38) #[] #[]] W fun e w'' => e = .returned (.string (bt (exprsT (x :: r)))) /\ Fr [] W w'') := Hd (fun W hW => by have h1 := joined_ex 38 [44, 32] ((x :: r).map sh) (by rw [List.length_map]; exact jn_cnt hl) (by rw [jn_ex]; exact hl) a5 c5 W run_ex (el_ex (x :: r) (fun p _ => shown_any p) hpk hps (hE.keep hW) (Rep.Es.keep hW (by simp) q5)).2; rw [jn_ex, List.length_map, <- n5] at h1; exact h1)
  have hltb := okName_len hok.1.1
  obtain ⟨tb, htb⟩ : ∃ z, bt t = z := ⟨_, rfl⟩
  have htbz := bs htb hltb
  have HS : Hid (⟨#[105, 110, 115, 101, 114, 116, 32, 105, 110, 116, 111, 32]⟩ ++ tb ++ ⟨#[32, 118, 97, 108, 117, 101, 115, 40]⟩ ++ bt (exprsT (x :: r)) ++ ⟨#[41]⟩ = bt (qsT (.write (.insert t x r)))) := Hd (by rw [<- htb, show ⟨#[105, 110, 115, 101, 114, 116, 32, 105, 110, 116, 111, 32]⟩ = bt [105, 110, 115, 101, 114, 116, 32, 105, 110, 116, 111, 32] from rfl, show ⟨#[32, 118, 97, 108, 117, 101, 115, 40]⟩ = bt [32, 118, 97, 108, 117, 101, 115, 40] from rfl, show ⟨#[41]⟩ = bt [41] from rfl]; simp only [bt_cat, qsT, wrT])
  have hds : ((bt (exprsT (x :: r))).size : Int) <= 60000 := by rw [bt_size]; omega
  generalize bt (exprsT (x :: r)) = d at HEw HS hds
  change Calls _ _ #[.agg (List.toArray [.int .i64 5, .string (bt t), .string ⟨#[]⟩, _, _, _, _, _, _, _, _, _, _])] _ _
  rw [htb]
  have HB := Hd (Blk.new w 29 [.int .i64 5, .string tb, .string ⟨#[]⟩, .slice a3 l3 c3, .slice a4 l4 c4, .slice a5 l5 c5, .slice a6 l6 c6, .string ⟨#[]⟩, .slice a8 l8 c8, .slice a9 l9 c9, .slice a10 l10 c10, .bool false, .slice a12 l12 c12])
  have HF0 : Hid (Fr [] w (w.alloc (.cells #[.int .i64 5, .string tb, .string ⟨#[]⟩, .slice a3 l3 c3, .slice a4 l4 c4, .slice a5 l5 c5, .slice a6 l6 c6, .string ⟨#[]⟩, .slice a8 l8 c8, .slice a9 l9 c9, .slice a10 l10 c10, .bool false, .slice a12 l12 c12] 29))) := Hd ((Fr.refl [] w).alloc _)
  clear h hok hlen hl hpk hps htb hltb n5 hE q3 q4 q5 q6 q8 q9 q10 q12
  have ss0 : ¬ 9223372036854775807 < 12 + tb.size := by omega
  have ss1 : ¬ 9223372036854775807 < 12 + tb.size + 8 := by omega
  have ss2 : ¬ 9223372036854775807 < 12 + tb.size + 8 + d.size := by omega
  have ss3 : ¬ 9223372036854775807 < 12 + tb.size + 8 + d.size + 1 := by omega
  go_enter Tryz.func17, Tryz.ntmps17
  go_upto_region 11 with fail
  generalize w.alloc (.cells #[.int .i64 5, .string tb, .string ⟨#[]⟩, .slice a3 l3 c3, .slice a4 l4 c4, .slice a5 l5 c5, .slice a6 l6 c6, .string ⟨#[]⟩, .slice a8 l8 c8, .slice a9 l9 c9, .slice a10 l10 c10, .bool false, .slice a12 l12 c12] 29) = w0 at HB HF0 ⊢
  have HE : Hid (∀ W, Fr [] w0 W -> Calls Tryz.prog 42 #[.slice a5 l5 c5, .string ⟨#[44, 32]⟩, .func (.func 38) #[] #[]] W fun e w'' => e = .returned (.string d) /\ Fr [] W w'') := Hd (fun W hf => HEw.out W (HF0.out.trans hf))
  have HKEY : Hid (∀ W, Fr [] w0 W -> W.cell? ⟨w.heap.size, 1, none⟩ = some (.string tb) /\ W.cell? ⟨w.heap.size, 5, none⟩ = some (.slice a5 l5 c5)) := Hd fun W hW => ⟨(HB.out.keep hW (by simp)).cell 1, (HB.out.keep hW (by simp)).cell 5⟩
  have HFa : Hid (Fr [] w0 w0) := Hd (Fr.refl [] w0)
  go_region_held3 (fun W => W.cell? ⟨w.heap.size, 1, none⟩ = some (.string tb) /\ W.cell? ⟨w.heap.size, 5, none⟩ = some (.slice a5 l5 c5))
    ((refine HKEY.out _ ?_; repeat (first | with_reducible exact HFa.out | with_reducible refine Fr.drew ?_ | with_reducible refine Fr.alloc ?_ _)))
    (first
      | (go_at_call 42
         with_reducible refine Calls.mono (HE.out _ ?hf0) ?_
         case hf0 => (repeat (first | with_reducible exact HFa.out | with_reducible refine Fr.drew ?_ | with_reducible refine Fr.alloc ?_ _))
         rintro e wz ⟨rfl, hf⟩
         replace HFa : Hid (Fr [] w0 wz) := Hd (Fr.trans (b := _) (by repeat (first | with_reducible exact HFa.out | with_reducible refine Fr.drew ?_ | with_reducible refine Fr.alloc ?_ _)) hf)
         clear hf))
  all_goals
    go_wp2_with fail
    go_ret
    exact ⟨congrArg (fun z => Ending.returned (.string z)) HS.out, HF0.out.trans (by repeat (first | with_reducible exact HFa.out | with_reducible refine Fr.drew ?_ | with_reducible refine Fr.alloc ?_ _))⟩
set_option maxRecDepth 4000000 in
set_option maxHeartbeats 8000000 in
theorem show_delete (t : B) (wh : Option Pr) : ShowS (.write (.delete t wh)) := by
  intro D hok hlen A w cs hE h
  obtain ⟨a3, a4, a5, a6, a8, a9, a10, a12, l3, l4, l5, l6, l8, l9, l10, l12, c3, c4, c5, c6, c8, c9, c10, c12, rfl, q3, q4, q5, q6, q8, q9, q10, q12⟩ := sr_all h
  simp only [Qs.ok, Wr.ok, Bool.and_eq_true] at hok
  have hl : (whereT wh).length <= 60000 := by simp only [qsT, wrT, List.length_append] at hlen; omega
  have HEw : Hid (∀ W, Fr [] w W -> Calls Tryz.prog 45 #[.slice a9 l9 c9] W fun e w'' => e = .returned (.string (bt (whereT wh))) /\ Fr [] W w'') := Hd (fun W hW => where_any wh (fun p hp => by have := hok.2; rw [hp] at this; exact CM.okPr_ok this) hl A W _ (hE.keep hW) (Rep.Es.keep hW (by simp) q9))
  have hltb := okName_len hok.1
  obtain ⟨tb, htb⟩ : ∃ z, bt t = z := ⟨_, rfl⟩
  have htbz := bs htb hltb
  have HS : Hid (⟨#[100, 101, 108, 101, 116, 101, 32, 102, 114, 111, 109, 32]⟩ ++ tb ++ bt (whereT wh) = bt (qsT (.write (.delete t wh)))) := Hd (by rw [<- htb, show ⟨#[100, 101, 108, 101, 116, 101, 32, 102, 114, 111, 109, 32]⟩ = bt [100, 101, 108, 101, 116, 101, 32, 102, 114, 111, 109, 32] from rfl]; simp only [bt_cat, qsT, wrT])
  have hds : ((bt (whereT wh)).size : Int) <= 60000 := by rw [bt_size]; omega
  generalize bt (whereT wh) = d at HEw HS hds
  change Calls _ _ #[.agg (List.toArray [.int .i64 8, .string (bt t), .string ⟨#[]⟩, _, _, _, _, _, _, _, _, _, _])] _ _
  rw [htb]
  have HB := Hd (Blk.new w 29 [.int .i64 8, .string tb, .string ⟨#[]⟩, .slice a3 l3 c3, .slice a4 l4 c4, .slice a5 l5 c5, .slice a6 l6 c6, .string ⟨#[]⟩, .slice a8 l8 c8, .slice a9 l9 c9, .slice a10 l10 c10, .bool false, .slice a12 l12 c12])
  have HF0 : Hid (Fr [] w (w.alloc (.cells #[.int .i64 8, .string tb, .string ⟨#[]⟩, .slice a3 l3 c3, .slice a4 l4 c4, .slice a5 l5 c5, .slice a6 l6 c6, .string ⟨#[]⟩, .slice a8 l8 c8, .slice a9 l9 c9, .slice a10 l10 c10, .bool false, .slice a12 l12 c12] 29))) := Hd ((Fr.refl [] w).alloc _)
  clear h hok hlen hl htb hltb hE q3 q4 q5 q6 q8 q9 q10 q12
  have ss0 : ¬ 9223372036854775807 < 12 + tb.size := by omega
  have ss1 : ¬ 9223372036854775807 < 12 + tb.size + d.size := by omega
  go_enter Tryz.func17, Tryz.ntmps17
  go_upto_region 17 with fail
  generalize w.alloc (.cells #[.int .i64 8, .string tb, .string ⟨#[]⟩, .slice a3 l3 c3, .slice a4 l4 c4, .slice a5 l5 c5, .slice a6 l6 c6, .string ⟨#[]⟩, .slice a8 l8 c8, .slice a9 l9 c9, .slice a10 l10 c10, .bool false, .slice a12 l12 c12] 29) = w0 at HB HF0 ⊢
  have HE : Hid (∀ W, Fr [] w0 W -> Calls Tryz.prog 45 #[.slice a9 l9 c9] W fun e w'' => e = .returned (.string d) /\ Fr [] W w'') := Hd (fun W hf => HEw.out W (HF0.out.trans hf))
  have HKEY : Hid (∀ W, Fr [] w0 W -> W.cell? ⟨w.heap.size, 1, none⟩ = some (.string tb) /\ W.cell? ⟨w.heap.size, 9, none⟩ = some (.slice a9 l9 c9)) := Hd fun W hW => ⟨(HB.out.keep hW (by simp)).cell 1, (HB.out.keep hW (by simp)).cell 9⟩
  have HFa : Hid (Fr [] w0 w0) := Hd (Fr.refl [] w0)
  go_region_held3 (fun W => W.cell? ⟨w.heap.size, 1, none⟩ = some (.string tb) /\ W.cell? ⟨w.heap.size, 9, none⟩ = some (.slice a9 l9 c9))
    ((refine HKEY.out _ ?_; repeat (first | with_reducible exact HFa.out | with_reducible refine Fr.drew ?_ | with_reducible refine Fr.alloc ?_ _)))
    (first
      | (go_at_call 45
         with_reducible refine Calls.mono (HE.out _ ?hf0) ?_
         case hf0 => (repeat (first | with_reducible exact HFa.out | with_reducible refine Fr.drew ?_ | with_reducible refine Fr.alloc ?_ _))
         rintro e wz ⟨rfl, hf⟩
         replace HFa : Hid (Fr [] w0 wz) := Hd (Fr.trans (b := _) (by repeat (first | with_reducible exact HFa.out | with_reducible refine Fr.drew ?_ | with_reducible refine Fr.alloc ?_ _)) hf)
         clear hf))
  all_goals
    go_wp2_with fail
    go_ret
    exact ⟨congrArg (fun z => Ending.returned (.string z)) HS.out, HF0.out.trans (by repeat (first | with_reducible exact HFa.out | with_reducible refine Fr.drew ?_ | with_reducible refine Fr.alloc ?_ _))⟩
set_option maxRecDepth 4000000 in
set_option maxHeartbeats 8000000 in
theorem show_update (t m : B) (x : Pr) (wh : Option Pr) : ShowS (.write (.update t m x wh)) := by
  intro D hok hlen A w cs hE h
  obtain ⟨a3, a4, a5, a6, a8, a9, a10, a12, l3, l4, l5, l6, l8, l9, l10, l12, c3, c4, c5, c6, c8, c9, c10, c12, rfl, q3, q4, q5, q6, q8, q9, q10, q12⟩ := sr_all h
  simp only [Qs.ok, Wr.ok, Bool.and_eq_true] at hok
  have hl : (whereT wh).length <= 60000 /\ (sh x).length <= 60000 := by simp only [qsT, wrT, List.length_append] at hlen; omega
  have HEw : Hid (∀ W, Fr [] w W -> Calls Tryz.prog 45 #[.slice a9 l9 c9] W fun e w'' => e = .returned (.string (bt (whereT wh))) /\ Fr [] W w'') := Hd (fun W hW => where_any wh (fun p hp => by have := hok.2; rw [hp] at this; exact CM.okPr_ok this) hl.1 A W _ (hE.keep hW) (Rep.Es.keep hW (by simp) q9))
  obtain rfl : l5 = 1 := Px.es_len q5
  have HGw : Hid (∀ W, Fr [] w W -> Calls Tryz.prog 44 #[.slice a5 1 c5, .func (.func 38) #[] #[]] W fun e w'' => e = .returned (.string (bt (sh x))) /\ Fr [] W w'') := Hd (fun W hW => one_ex 38 (sh x) hl.2 a5 c5 W run_ex ((el_ex [x] (fun q _ => shown_any q) (fun q hq => by obtain rfl := List.mem_singleton.1 hq; exact CM.okPr_ok hok.1.2) (fun q hq => by obtain rfl := List.mem_singleton.1 hq; exact hl.2) (hE.keep hW) (Rep.Es.keep hW (by simp) q5)).2 0 (by simp)))
  have hltb := okName_len hok.1.1.1
  obtain ⟨tb, htb⟩ : ∃ z, bt t = z := ⟨_, rfl⟩
  have htbz := bs htb hltb
  have hlmb := okName_len hok.1.1.2
  obtain ⟨mb, hmb⟩ : ∃ z, bt m = z := ⟨_, rfl⟩
  have hmbz := bs hmb hlmb
  have HS : Hid (⟨#[117, 112, 100, 97, 116, 101, 32]⟩ ++ tb ++ ⟨#[32, 115, 101, 116, 32]⟩ ++ mb ++ ⟨#[32, 61, 32]⟩ ++ bt (sh x) ++ bt (whereT wh) = bt (qsT (.write (.update t m x wh)))) := Hd (by rw [<- htb, <- hmb, show ⟨#[117, 112, 100, 97, 116, 101, 32]⟩ = bt [117, 112, 100, 97, 116, 101, 32] from rfl, show ⟨#[32, 115, 101, 116, 32]⟩ = bt [32, 115, 101, 116, 32] from rfl, show ⟨#[32, 61, 32]⟩ = bt [32, 61, 32] from rfl]; simp only [bt_cat, qsT, wrT])
  have hds : ((bt (whereT wh)).size : Int) <= 60000 := by rw [bt_size]; omega
  have hus : ((bt (sh x)).size : Int) <= 60000 := by rw [bt_size]; omega
  generalize bt (whereT wh) = d at HEw HS hds
  generalize bt (sh x) = u at HGw HS hus
  change Calls _ _ #[.agg (List.toArray [.int .i64 7, .string (bt t), .string (bt m), _, _, _, _, _, _, _, _, _, _])] _ _
  rw [htb, hmb]
  have HB := Hd (Blk.new w 29 [.int .i64 7, .string tb, .string mb, .slice a3 l3 c3, .slice a4 l4 c4, .slice a5 1 c5, .slice a6 l6 c6, .string ⟨#[]⟩, .slice a8 l8 c8, .slice a9 l9 c9, .slice a10 l10 c10, .bool false, .slice a12 l12 c12])
  have HF0 : Hid (Fr [] w (w.alloc (.cells #[.int .i64 7, .string tb, .string mb, .slice a3 l3 c3, .slice a4 l4 c4, .slice a5 1 c5, .slice a6 l6 c6, .string ⟨#[]⟩, .slice a8 l8 c8, .slice a9 l9 c9, .slice a10 l10 c10, .bool false, .slice a12 l12 c12] 29))) := Hd ((Fr.refl [] w).alloc _)
  clear h hok hlen hl htb hltb hmb hlmb hE q3 q4 q5 q6 q8 q9 q10 q12
  have ss0 : ¬ 9223372036854775807 < 7 + tb.size := by omega
  have ss1 : ¬ 9223372036854775807 < 7 + tb.size + 5 := by omega
  have ss2 : ¬ 9223372036854775807 < 7 + tb.size + 5 + mb.size := by omega
  have ss3 : ¬ 9223372036854775807 < 7 + tb.size + 5 + mb.size + 3 := by omega
  have ss4 : ¬ 9223372036854775807 < 7 + tb.size + 5 + mb.size + 3 + u.size := by omega
  have ss5 : ¬ 9223372036854775807 < 7 + tb.size + 5 + mb.size + 3 + u.size + d.size := by omega
  go_enter Tryz.func17, Tryz.ntmps17
  go_upto_region 15 with fail
  generalize w.alloc (.cells #[.int .i64 7, .string tb, .string mb, .slice a3 l3 c3, .slice a4 l4 c4, .slice a5 1 c5, .slice a6 l6 c6, .string ⟨#[]⟩, .slice a8 l8 c8, .slice a9 l9 c9, .slice a10 l10 c10, .bool false, .slice a12 l12 c12] 29) = w0 at HB HF0 ⊢
  have HE : Hid (∀ W, Fr [] w0 W -> Calls Tryz.prog 45 #[.slice a9 l9 c9] W fun e w'' => e = .returned (.string d) /\ Fr [] W w'') := Hd (fun W hf => HEw.out W (HF0.out.trans hf))
  have HG : Hid (∀ W, Fr [] w0 W -> Calls Tryz.prog 44 #[.slice a5 1 c5, .func (.func 38) #[] #[]] W fun e w'' => e = .returned (.string u) /\ Fr [] W w'') := Hd (fun W hf => HGw.out W (HF0.out.trans hf))
  have HKEY : Hid (∀ W, Fr [] w0 W -> W.cell? ⟨w.heap.size, 1, none⟩ = some (.string tb) /\ W.cell? ⟨w.heap.size, 2, none⟩ = some (.string mb) /\ W.cell? ⟨w.heap.size, 5, none⟩ = some (.slice a5 1 c5) /\ W.cell? ⟨w.heap.size, 9, none⟩ = some (.slice a9 l9 c9)) := Hd fun W hW => ⟨(HB.out.keep hW (by simp)).cell 1, (HB.out.keep hW (by simp)).cell 2, (HB.out.keep hW (by simp)).cell 5, (HB.out.keep hW (by simp)).cell 9⟩
  have HFa : Hid (Fr [] w0 w0) := Hd (Fr.refl [] w0)
  go_region_held3 (fun W => W.cell? ⟨w.heap.size, 1, none⟩ = some (.string tb) /\ W.cell? ⟨w.heap.size, 2, none⟩ = some (.string mb) /\ W.cell? ⟨w.heap.size, 5, none⟩ = some (.slice a5 1 c5) /\ W.cell? ⟨w.heap.size, 9, none⟩ = some (.slice a9 l9 c9))
    ((refine HKEY.out _ ?_; repeat (first | with_reducible exact HFa.out | with_reducible refine Fr.drew ?_ | with_reducible refine Fr.alloc ?_ _)))
    (first
      | (go_at_call 45
         with_reducible refine Calls.mono (HE.out _ ?hf0) ?_
         case hf0 => (repeat (first | with_reducible exact HFa.out | with_reducible refine Fr.drew ?_ | with_reducible refine Fr.alloc ?_ _))
         rintro e wz ⟨rfl, hf⟩
         replace HFa : Hid (Fr [] w0 wz) := Hd (Fr.trans (b := _) (by repeat (first | with_reducible exact HFa.out | with_reducible refine Fr.drew ?_ | with_reducible refine Fr.alloc ?_ _)) hf)
         clear hf)
      | (go_at_call 44
         with_reducible refine Calls.mono (HG.out _ ?hf0) ?_
         case hf0 => (repeat (first | with_reducible exact HFa.out | with_reducible refine Fr.drew ?_ | with_reducible refine Fr.alloc ?_ _))
         rintro e wz ⟨rfl, hf⟩
         replace HFa : Hid (Fr [] w0 wz) := Hd (Fr.trans (b := _) (by repeat (first | with_reducible exact HFa.out | with_reducible refine Fr.drew ?_ | with_reducible refine Fr.alloc ?_ _)) hf)
         clear hf))
  all_goals
    go_wp2_with fail
    go_ret
    exact ⟨congrArg (fun z => Ending.returned (.string z)) HS.out, HF0.out.trans (by repeat (first | with_reducible exact HFa.out | with_reducible refine Fr.drew ?_ | with_reducible refine Fr.alloc ?_ _))⟩
theorem show_any : ∀ q : Qs, ShowS q
 |.table m c r => show_table m c r
 |.index t m => show_index t m
 |.view m tags s => show_view m tags s (show_select s)
 |.closure m tags s => show_closure m tags s (match s with
  |.insert t x r => show_insert t x r
  |.update t m x wh => show_update t m x wh
  |.delete t wh => show_delete t wh)
 |.select s => show_select s
 |.write (.insert t x r) => show_insert t x r
 |.write (.update t m x wh) => show_update t m x wh
 |.write (.delete t wh) => show_delete t wh
 |.plain k => show_plain k
 |.raise t r => show_raise t r
 |.call m => show_call m
end Sw
end Go.Proofs.YtmdnhinpaflamaaGreatDoor
