/- How the document shows statements. -/
import Derived.Test.YtmdnhinpaflamaaGreatDoorShC
import Derived.Test.YtmdnhinpaflamaaGreatDoorSrA
import Derived.Test.YtmdnhinpaflamaaGreatDoorSeq3
import Derived.Deep.CutRange
set_option maxRecDepth 4000000
set_option maxHeartbeats 8000000
namespace Go.Proofs.YtmdnhinpaflamaaGreatDoor
open Go.RowKit
set_option linter.unusedVariables false
set_option linter.unusedSimpArgs false
namespace Sh
open PM (Ex B)
open CM (Pr Qs Wr Sel Im Co Cl)
open Gn (sh)
open Px (SR SS ItS TagS ColS)
theorem ext3 (a b c : ByteArray) : a ++ b ++ c = a ++ (b ++ c) := by
 apply ByteArray.ext
 simp only [ByteArray.data_append, Array.append_assoc]
theorem items_take (l : List Im) (k : Nat) (h : k < l.length) : jn imT (l.take (k + 1)) = jn imT (l.take k) ++ (if k = 0 then [] else [44, 32]) ++ imT l[k] := jn_take imT l k h
theorem clT_col {c : Cl} (h : c.ok = true) : colT c.table c.name = clT c := by
 unfold clT Cl.line colT
 cases ht : c.table with
 |nil => simp [Pc.render, Pc.blanks, Pc.Pc.bytes]
 |cons => simp [Pc.render, Pc.blanks, Pc.Pc.bytes]
theorem cl_lens {c : Cl} (h : c.ok = true) : c.table.length <= 1000 /\ c.name.length <= 1000 := by
 simp only [Cl.ok, Bool.and_eq_true, Bool.or_eq_true] at h
 have h2 := okName_len h.2
 refine ⟨?_, by omega⟩
 rcases h.1 with h1 | h1
 ·cases ht : c.table with
  |nil => simp
  |cons => rw [ht] at h1; cases h1
 ·have := okName_len h1; omega
def clPr (c : Cl) : Pr := if c.table.isEmpty then .col c.name else .tcol c.table c.name
theorem clPr_ex (c : Cl) : (clPr c).ex = c.ex := by
 obtain ⟨t, n⟩ := c
 unfold clPr Cl.ex
 cases t <;> rfl
theorem clPr_ok {c : Cl} (h : c.ok = true) : (clPr c).ok = true := by
 obtain ⟨t, n⟩ := c
 simp only [Cl.ok, Bool.and_eq_true, Bool.or_eq_true] at h
 unfold clPr
 cases t with
 |nil => exact h.2
 |cons a r =>
  have h1 : Pc.okName (a :: r) = true := by rcases h.1 with h1 | h1; cases h1; exact h1
  show (Pc.okName (a :: r) && Pc.okName n) = true
  rw [h1, h.2]; rfl
theorem clPr_sh (c : Cl) : sh (clPr c) = clT c := by
 obtain ⟨t, n⟩ := c
 unfold clPr clT Cl.line sh
 cases t <;> rfl
theorem clT_le {c : Cl} (h : c.ok = true) : (clT c).length <= 40 := by
 simp only [Cl.ok, Bool.and_eq_true, Bool.or_eq_true] at h
 have h2 := okName_len h.2
 unfold clT
 rcases h.1 with h1 | h1
 ·unfold Cl.line
  rw [if_pos h1]
  simp [Pc.render, Pc.blanks, Pc.Pc.bytes]
  omega
 ·have := okName_len h1
  unfold Cl.line
  split <;> simp [Pc.render, Pc.blanks, Pc.Pc.bytes] <;> omega
theorem imT_agg (k : Nat) (c : Cl) : imT (.agg k c) = CM.aggW k ++ [40] ++ clT c ++ [41] := by
 simp [imT, Im.line, Pc.render, Gn.render_app, Pc.blanks, Pc.Pc.bytes, clT]
theorem column_q (t n : B) (ht : t.length <= 1000) (hn : n.length <= 1000) (w : World) :
  Calls Tryz.prog 75 #[.string ⟨t.toArray⟩, .string ⟨n.toArray⟩] w fun e w' => e = .returned (.string (bt (colT t n))) /\ w' = w := by
 show Calls Tryz.prog _ #[.string (bt t), .string (bt n)] w _
 have hs1 : ((bt t).size : Int) <= 1000 := by rw [bt_size]; omega
 have hs2 : ((bt n).size : Int) <= 1000 := by rw [bt_size]; omega
 by_cases h0 : t = []
 ·subst h0
  go_enter Tryz.func75, Tryz.ntmps75
  go_wp2_with fail
  go_ret
  exact ⟨rfl, rfl⟩
 ·have hne : (bt t).toList.isEmpty = false := by
   have h1 : ((bt t).toList == (⟨#[]⟩ : ByteArray).toList) = false := by
    rw [Lib.bytes_beq_false_iff]
    exact fun h => h0 (by have := congrArg (fun z => z.data.toList) h; simpa using this)
   rw [(by kernel_rfl : (⟨#[]⟩ : ByteArray).toList = [])] at h1
   cases h2 : (bt t).toList with
   |nil => rw [h2] at h1; cases h1
   |cons => rfl
  have HR : Hid (bt t ++ ⟨#[46]⟩ ++ bt n = bt (colT t n)) := Hd (by
   show bt t ++ bt [46] ++ bt n = _
   have : t.isEmpty = false := by cases t with | nil => exact absurd rfl h0 | cons => rfl
   unfold colT
   rw [if_neg (by rw [this]; decide), bt_cat, bt_cat])
  generalize bt t = s at hs1 hne HR ⊢
  generalize bt n = u at hs2 HR ⊢
  go_enter Tryz.func75, Tryz.ntmps75
  go_wp2_with fail
  go_ret
  exact ⟨congrArg (fun z => Ending.returned (.string z)) HR.out, rfl⟩
theorem isEmpty_int {α : Type} (l : List α) : l.isEmpty = ((l.length : Int) == 0) := by
 cases l with
 |nil => rfl
 |cons x r => symm; simp; omega
theorem bt_empty (l : B) : (bt l).toList.isEmpty = l.isEmpty := by
 cases l with
 |nil => kernel_rfl
 |cons c r =>
  have h1 : ((bt (c :: r)).toList == (⟨#[]⟩ : ByteArray).toList) = false := by
   rw [Lib.bytes_beq_false_iff]
   exact fun h => by have := congrArg (fun z => z.data.toList) h; simp at this
  rw [(by kernel_rfl : (⟨#[]⟩ : ByteArray).toList = [])] at h1
  cases h2 : (bt (c :: r)).toList with
  |nil => rw [h2] at h1; cases h1
  |cons => rfl
theorem P0_ok (l : List Im) : ([115, 101, 108, 101, 99, 116, 32] ++ (if l.isEmpty then [42] else []) : B) ++ jn imT l = [115, 101, 108, 101, 99, 116, 32] ++ itemsT l := by
 unfold itemsT
 cases l with
 |nil => rfl
 |cons x r => simp
theorem sel_le {s : Sel} (h : (selT s).length <= 60000) : ([115, 101, 108, 101, 99, 116, 32] ++ itemsT s.items ++ [32, 102, 114, 111, 109, 32] ++ s.table : B).length <= 60000 /\ ([115, 101, 108, 101, 99, 116, 32] ++ itemsT s.items ++ [32, 102, 114, 111, 109, 32] ++ s.table ++ joinT s.join : B).length <= 60000 /\ ([115, 101, 108, 101, 99, 116, 32] ++ itemsT s.items ++ [32, 102, 114, 111, 109, 32] ++ s.table ++ joinT s.join ++ whereT s.wher : B).length <= 60000 /\ (whereT s.wher).length <= 60000 /\ ([115, 101, 108, 101, 99, 116, 32] ++ itemsT s.items : B).length <= 60000 := by
 unfold selT at h
 simp only [List.length_append] at h ⊢
 omega
theorem selected_any (s : Sel) (D : Nat) (hok : s.ok D = true) (hlen : (selT s).length <= 60000) (A : Nat -> Prop) (w : World) (cs : List Value) (h : SR A w s.st cs) :
    Calls Tryz.prog 34 #[.agg cs.toArray] w fun e w' => e = .returned (.string (bt (selT s))) /\ Fr [] w w' := by
  obtain ⟨its, tb, jo, wo, oo⟩ := s
  simp only [Sel.ok, Bool.and_eq_true] at hok
  obtain ⟨⟨⟨⟨hoi, hot⟩, hoj⟩, how⟩, hoo⟩ := hok
  obtain ⟨a3, a4, a5, a6, a8, a9, a10, a12, l3, l4, l5, l6, l8, l9, l10, l12, c3, c4, c5, c6, c8, c9, c10, c12, rfl, q3, q4, q5, q6, q8, q9, q10, q12⟩ := sr_all h
  generalize hjn : CM.joinN jo = jnm at h ⊢
  generalize hod : CM.orderD oo = od at h ⊢
  have HJN := Hd hjn
  have HOD := Hd hod
  clear hjn hod
  obtain ⟨m1, m2, m3, m4, m5⟩ := sel_le hlen
  simp only [] at m1 m2 m3 m4 m5
  have n6 := flat_len q6
  rw [List.length_map] at n6
  subst n6
  have hL : its.length <= 60002 := by
    have h1 := jn_len imT its
    have h2 := P0_ok its
    have h3 := congrArg List.length h2
    rw [List.length_append] at h3
    omega
  obtain ⟨ax, cx, hax, hic⟩ := Gn.its_cells q6
  simp only [Value.slice.injEq] at hax
  obtain ⟨rfl, -, rfl⟩ := hax
  have HIC := Hd hic
  have HOI := Hd hoi
  have HW := Hd (And.intro q9 how)
  have HJ := Hd (And.intro q8 hoj)
  have HO := Hd (And.intro q10 hoo)
  have HM := Hd (And.intro m1 (And.intro m2 (And.intro m3 (And.intro m4 (And.intro m5 hlen)))))
  have htl := okName_len hot
  have HB := Hd (Blk.new w 29 [.int .i64 6, .string ⟨tb.toArray⟩, .string ⟨#[]⟩, .slice a3 l3 c3, .slice a4 l4 c4, .slice a5 l5 c5, .slice a6 its.length c6, .string ⟨jnm.toArray⟩, .slice a8 l8 c8, .slice a9 l9 c9, .slice a10 l10 c10, .bool od, .slice a12 l12 c12])
  have HF0 : Hid (Fr [] w (w.alloc (.cells #[.int .i64 6, .string ⟨tb.toArray⟩, .string ⟨#[]⟩, .slice a3 l3 c3, .slice a4 l4 c4, .slice a5 l5 c5, .slice a6 its.length c6, .string ⟨jnm.toArray⟩, .slice a8 l8 c8, .slice a9 l9 c9, .slice a10 l10 c10, .bool od, .slice a12 l12 c12] 29))) := Hd ((Fr.refl [] w).alloc _)
  clear h q3 q4 q5 q6 q8 q9 q10 q12 hic hoi hot hoj how hoo m1 m2 m3 m4 m5 hlen
  have hli : (its.length : Int) <= 60002 := by omega
  obtain ⟨z, hz⟩ : ∃ z : Bool, ((its.length : Int) == 0) = z := ⟨_, rfl⟩
  have HZ := Hd hz
  go_enter Tryz.func34, Tryz.ntmps34
  go_upto_if 9 with fail
  generalize w.alloc (.cells #[.int .i64 6, .string ⟨tb.toArray⟩, .string ⟨#[]⟩, .slice a3 l3 c3, .slice a4 l4 c4, .slice a5 l5 c5, .slice a6 its.length c6, .string ⟨jnm.toArray⟩, .slice a8 l8 c8, .slice a9 l9 c9, .slice a10 l10 c10, .bool od, .slice a12 l12 c12] 29) = w0 at HB HF0 ⊢
  have hB6 := HB.out.cell 6
  obtain ⟨P0, hP0⟩ : ∃ P0 : B, P0 = [115, 101, 108, 101, 99, 116, 32] ++ (if its.isEmpty then [42] else []) := ⟨_, rfl⟩
  have HP0 := Hd hP0
  have hP0l : P0.length <= 8 := by rw [hP0]; split <;> simp
  clear hP0
  go_cut [3] from 10 to 11 (fun s3 wx => s3 = .string (bt P0) /\ wx = w0)
  case first =>
    rw [isEmpty_int, hz] at HP0
    clear hz
    cases z
    all_goals
      go_wp2_with fail
      go_meet
      exact ⟨by rw [HP0.out]; rfl, rfl⟩
  case rest =>
    obtain ⟨rfl, rfl⟩ := hcut
    obtain ⟨wb, hwb⟩ : ∃ wb, wb = wc := ⟨_, rfl⟩
    subst hwb
    clear hB6 hz
    go_wp2_with fail
    have hlt : ∀ k, (P0 ++ jn imT (its.take k)).length <= 60000 := fun k => by
      have h1 := jn_le imT its k
      have h2 := congrArg List.length (P0_ok its)
      rw [<- HP0.out, List.length_append] at h2
      have := HM.out.2.2.2.2.1
      rw [List.length_append]
      omega
    have HLT := Hd hlt
    clear hlt
    go_loopw [3, 4, 5] (fun s u t wr => ∃ (k : Nat) (o : ByteArray), s = .string o /\ u = .int .i64 k /\ k <= its.length /\ (o.size : Int) <= 60000 /\ Hid (o = bt (P0 ++ jn imT (its.take k))) /\ Hid (Fr [] wb wr)) (fun _ u _ _ => its.length - (intOf u).toNat)
    case atStart => exact ⟨0, _, rfl, rfl, Nat.zero_le _, by rw [bt_size]; omega, Hd (by simp [jn]), Hd (Fr.refl [] wb)⟩
    case round =>
      obtain ⟨k, o, rfl, rfl, hk, ho, HOT, HF⟩ := hrel
      have hBr := HB.out.keep HF.out (by simp)
      have hB6 := hBr.cell 6
      simp only [List.getElem?_cons_zero, List.getElem?_cons_succ] at hB6
      have HBr := Hd hBr
      clear hBr
      by_cases hkl : k < its.length
      · have hkl' : (k : Int) < its.length := by omega
        obtain ⟨g, off, rfl, _, hg, hcap, x0, x1, x2⟩ := HIC.out k (by simpa using hkl)
        have frw : Fr [] w wr := HF0.out.trans HF.out
        have x0 := (frw.cell (p := ⟨g, off + k * 3, none⟩) hg (by simp)).trans x0
        have x1 := (frw.cell (p := ⟨g, off + k * 3 + 1, none⟩) hg (by simp)).trans x1
        have x2 := (frw.cell (p := ⟨g, off + k * 3 + 2, none⟩) hg (by simp)).trans x2
        obtain ⟨x, hx⟩ : ∃ x, its[k] = x := ⟨_, rfl⟩
        rw [List.getElem_map, hx] at x0 x1 x2
        have hxok : x.ok = true := by rw [<- hx]; exact List.all_eq_true.1 HOI.out _ (List.getElem_mem _)
        have hst : P0 ++ jn imT (its.take (k + 1)) = P0 ++ jn imT (its.take k) ++ (if k = 0 then [] else [44, 32]) ++ imT x := by rw [items_take _ _ hkl, hx]; simp only [List.append_assoc]
        have hnl := HLT.out (k + 1)
        have hnb : ((bt (P0 ++ jn imT (its.take (k + 1)))).size : Int) <= 60000 := by rw [bt_size]; omega
        have hcl : (its.length : Int) <= c6 := by rw [List.length_map] at hcap; omega
        have hgw : ¬ g = wr.heap.size := by have := frw.size; omega
        have HST : Hid (o ++ (if k = 0 then bt [] else bt [44, 32]) ++ bt (imT x) = bt (P0 ++ jn imT (its.take (k + 1)))) := Hd (by
          rw [HOT.out, hst]
          split <;> simp only [bt_cat])
        have hil : (imT x).length <= 60000 := by rw [hst, List.length_append] at hnl; omega
        clear frw hx hst hnl HOT hcap
        cases x with
        | col c =>
          have hd : imT (.col c) = colT c.table c.name := (clT_col hxok).symm
          rw [hd] at HST hil
          obtain ⟨z1, z2⟩ := cl_lens hxok
          have HC := Hd (fun w => column_q c.table c.name z1 z2 w)
          have hds : ((bt (colT c.table c.name)).size : Int) <= 60000 := by rw [bt_size]; omega
          simp only [Im.it] at x0 x1 x2
          clear hd z1 z2 hxok
          generalize bt (colT c.table c.name) = d at HC HST hds
          by_cases hk0 : k = 0
          · subst hk0
            simp only [Nat.zero_mul, Nat.add_zero] at x0 x1 x2
            have HS : Hid (o ++ d = bt (P0 ++ jn imT (its.take (0 + 1)))) := Hd (by rw [<- HST.out, if_pos rfl, show bt [] = ByteArray.empty from rfl, ByteArray.append_empty]; first | done | rfl)
            go_wp2_with fail
            refine (HC.out _).mono ?_
            rintro e w3 ⟨rfl, rfl⟩
            have HFz := Hd (HF.out.alloc (.cells #[.int .i64 0, .string ⟨c.table.toArray⟩, .string ⟨c.name.toArray⟩] 60))
            go_wp2_with fail
            go_roundw
            case rel => exact ⟨0 + 1, _, congrArg Value.string HS.out, by go_num, by omega, by omega, Hd rfl, Hd (HFz.out)⟩
            case measure => simp only [intOf]; omega
          · have hk1 : (0 : Int) < k := by omega
            have HS : Hid (o ++ ⟨#[44, 32]⟩ ++ d = bt (P0 ++ jn imT (its.take (k + 1)))) := Hd (by rw [<- HST.out, if_neg hk0]; first | done | rfl)
            go_wp2_with fail
            refine (HC.out _).mono ?_
            rintro e w3 ⟨rfl, rfl⟩
            have HFz := Hd (HF.out.alloc (.cells #[.int .i64 0, .string ⟨c.table.toArray⟩, .string ⟨c.name.toArray⟩] 60))
            go_wp2_with fail
            go_roundw
            case rel => exact ⟨k + 1, _, congrArg Value.string HS.out, by go_num, by omega, by omega, Hd rfl, Hd (HFz.out)⟩
            case measure => simp only [intOf]; omega
        | count =>
          simp only [Im.it] at x0 x1 x2
          by_cases hk0 : k = 0
          · subst hk0
            simp only [Nat.zero_mul, Nat.add_zero] at x0 x1 x2
            have HS : Hid (o ++ ⟨#[99, 111, 117, 110, 116, 40, 42, 41]⟩ = bt (P0 ++ jn imT (its.take (0 + 1)))) := Hd (by rw [<- HST.out, if_pos rfl, show bt [] = ByteArray.empty from rfl, ByteArray.append_empty]; first | done | rfl)
            have HFz := Hd (HF.out.alloc (.cells #[.int .i64 1, .string ⟨#[]⟩, .string ⟨#[]⟩] 60))
            go_wp2_with fail
            go_roundw
            case rel => exact ⟨0 + 1, _, congrArg Value.string HS.out, by go_num, by omega, by omega, Hd rfl, Hd (HFz.out)⟩
            case measure => simp only [intOf]; omega
          · have hk1 : (0 : Int) < k := by omega
            have HS : Hid (o ++ ⟨#[44, 32]⟩ ++ ⟨#[99, 111, 117, 110, 116, 40, 42, 41]⟩ = bt (P0 ++ jn imT (its.take (k + 1)))) := Hd (by rw [<- HST.out, if_neg hk0]; first | done | rfl)
            have HFz := Hd (HF.out.alloc (.cells #[.int .i64 1, .string ⟨#[]⟩, .string ⟨#[]⟩] 60))
            go_wp2_with fail
            go_roundw
            case rel => exact ⟨k + 1, _, congrArg Value.string HS.out, by go_num, by omega, by omega, Hd rfl, Hd (HFz.out)⟩
            case measure => simp only [intOf]; omega
        | agg j c =>
          simp only [Im.ok, Bool.and_eq_true, decide_eq_true_eq] at hxok
          have hd := imT_agg j c
          rw [hd, <- clT_col hxok.2] at HST hil
          obtain ⟨z1, z2⟩ := cl_lens hxok.2
          have hj := hxok.1
          simp only [List.length_append, List.length_cons, List.length_nil] at hil
          have hds : ((bt (colT c.table c.name)).size : Int) <= 60000 := by rw [bt_size]; omega
          have HC : Hid (∀ w, Calls Tryz.prog 75 #[.string ⟨c.table.toArray⟩, .string ⟨c.name.toArray⟩] w fun e w' => e = .returned (.string (bt (colT c.table c.name))) /\ w' = w) := Hd (fun w => column_q c.table c.name z1 z2 w)
          simp only [Im.it] at x0 x1 x2
          clear hd z1 z2 hxok
          have HST2 : Hid (o ++ (if k = 0 then bt [] else bt [44, 32]) ++ (bt (CM.aggW j) ++ bt [40] ++ bt (colT c.table c.name) ++ bt [41]) = bt (P0 ++ jn imT (its.take (k + 1)))) := Hd (by rw [<- HST.out]; simp only [bt_cat])
          clear HST
          generalize bt (colT c.table c.name) = d at HC HST2 hds
          have hj3 : j = 0 \/ j = 1 \/ j = 2 := by omega
          clear hj
          rcases hj3 with rfl | rfl | rfl
          · have x0 : wr.cell? ⟨g, off + k * 3, none⟩ = some (.int .i64 2) := x0
            by_cases hk0 : k = 0
            · subst hk0
              simp only [Nat.zero_mul, Nat.add_zero] at x0 x1 x2
              have HS : Hid (o ++ ⟨#[115, 117, 109]⟩ ++ ⟨#[40]⟩ ++ d ++ ⟨#[41]⟩ = bt (P0 ++ jn imT (its.take (0 + 1)))) := Hd (by rw [<- HST2.out, if_pos rfl, show bt [] = ByteArray.empty from rfl, ByteArray.append_empty]; simp only [ext3]; first | done | rfl)
              go_upto_region 11 with fail
              have HXB := Hd (Blk.new wr 60 [.int .i64 2, .string ⟨c.table.toArray⟩, .string ⟨c.name.toArray⟩])
              have HFx : Hid (Fr [] wb (wr.alloc (.cells #[.int .i64 2, .string ⟨c.table.toArray⟩, .string ⟨c.name.toArray⟩] 60))) := Hd (HF.out.alloc _)
              generalize wr.alloc (.cells #[.int .i64 2, .string ⟨c.table.toArray⟩, .string ⟨c.name.toArray⟩] 60) = wy at HXB HFx ⊢
              have ss0 : ¬ 9223372036854775807 < o.size + 3 := by omega
              have ss1 : ¬ 9223372036854775807 < o.size + 3 + 1 := by omega
              have ss2 : ¬ 9223372036854775807 < o.size + 3 + 1 + d.size := by omega
              have ss3 : ¬ 9223372036854775807 < o.size + 3 + 1 + d.size + 1 := by omega
              have hI0 : wy.drew.cell? ⟨wr.heap.size, 0, none⟩ = some (.int .i64 2) /\ wy.drew.cell? ⟨wr.heap.size, 1, none⟩ = some (.string ⟨c.table.toArray⟩) /\ wy.drew.cell? ⟨wr.heap.size, 2, none⟩ = some (.string ⟨c.name.toArray⟩) := ⟨HXB.out.drew.cell 0, HXB.out.drew.cell 1, HXB.out.drew.cell 2⟩
              have hI1 : (wy.drew.alloc (.cells #[.string ⟨#[115, 117, 109]⟩, .string ⟨#[109, 105, 110]⟩, .string ⟨#[109, 97, 120]⟩] 9)).cell? ⟨wr.heap.size, 0, none⟩ = some (.int .i64 2) /\ (wy.drew.alloc (.cells #[.string ⟨#[115, 117, 109]⟩, .string ⟨#[109, 105, 110]⟩, .string ⟨#[109, 97, 120]⟩] 9)).cell? ⟨wr.heap.size, 1, none⟩ = some (.string ⟨c.table.toArray⟩) /\ (wy.drew.alloc (.cells #[.string ⟨#[115, 117, 109]⟩, .string ⟨#[109, 105, 110]⟩, .string ⟨#[109, 97, 120]⟩] 9)).cell? ⟨wr.heap.size, 2, none⟩ = some (.string ⟨c.name.toArray⟩) := ⟨(Blk.alloc HXB.out.drew _).cell 0, (Blk.alloc HXB.out.drew _).cell 1, (Blk.alloc HXB.out.drew _).cell 2⟩
              have hwr : IntKind.i64.wrap (2 - 2) = 0 := by decide
              refine Seq3.wp_region_text (fun i => i != 1 && i != 6) (fun i => if i = 13 then some (.string d) else none) (fun _ => false) (fun w' => w'.cell? ⟨wr.heap.size, 0, none⟩ = some (.int .i64 2) /\ w'.cell? ⟨wr.heap.size, 1, none⟩ = some (.string ⟨c.table.toArray⟩) /\ w'.cell? ⟨wr.heap.size, 2, none⟩ = some (.string ⟨c.name.toArray⟩)) (by kernel_rfl) (by kernel_rfl) hI0 ?_
              (refine Seq3.wpL_quiet rfl rfl rfl (fun K hK => ?_); go_big_quiet_op; (first | refine hK _ ?_ | refine ⟨_, by intros; rfl, hK _ ?_⟩); clear hK K)
              refine Seq3.wpL_val (v := .slice (some ⟨wy.heap.size, 0, none⟩) 3 3) (w' := wy.drew.alloc (.cells #[.string ⟨#[115, 117, 109]⟩, .string ⟨#[109, 105, 110]⟩, .string ⟨#[109, 97, 120]⟩] 9)) rfl rfl (by simp [go_sem, execOp]) hI1 ?_
              simp only [Act.put, qA, qB, qC]
              (refine Seq3.wpL_quiet rfl rfl rfl (fun K hK => ?_); go_big_quiet_op; (first | refine hK _ ?_ | refine ⟨_, by intros; rfl, hK _ ?_⟩); clear hK K)
              refine Seq3.wpL_held (v := .int .i64 2) rfl rfl (fun w' hI => ?_) ?_
              · have hI' : w'.cell? ⟨wr.heap.size, 0, none⟩ = some (.int .i64 2) := hI.1
                simp [go_sem, execOp, hI']
              simp only [Act.put, qA, qB, qC]
              iterate 2 (refine Seq3.wpL_quiet rfl rfl rfl (fun K hK => ?_); go_big_quiet_op; (first | refine hK _ ?_ | refine ⟨_, by intros; rfl, hK _ ?_⟩); clear hK K)
              have hac : (wy.drew.alloc (.cells #[.string ⟨#[115, 117, 109]⟩, .string ⟨#[109, 105, 110]⟩, .string ⟨#[109, 97, 120]⟩] 9)).cell? ⟨wy.heap.size, 0, none⟩ = some (.string ⟨#[115, 117, 109]⟩) := (Blk.new wy.drew 9 [.string ⟨#[115, 117, 109]⟩, .string ⟨#[109, 105, 110]⟩, .string ⟨#[109, 97, 120]⟩]).cell 0
              refine Seq3.wpL_val (v := .string ⟨#[115, 117, 109]⟩) (w' := wy.drew.alloc (.cells #[.string ⟨#[115, 117, 109]⟩, .string ⟨#[109, 105, 110]⟩, .string ⟨#[109, 97, 120]⟩] 9)) rfl rfl (by simp [go_sem, execOp, hac]) hI1 ?_
              simp only [Act.put, qA, qB, qC]
              iterate 3 (refine Seq3.wpL_quiet rfl rfl rfl (fun K hK => ?_); go_big_quiet_op; (first | refine hK _ ?_ | refine ⟨_, by intros; rfl, hK _ ?_⟩); clear hK K)
              refine Seq3.wpL_held (v := .string ⟨c.table.toArray⟩) rfl rfl (fun w' hI => ?_) ?_
              · have hI' : w'.cell? ⟨wr.heap.size, 1, none⟩ = some (.string ⟨c.table.toArray⟩) := hI.2.1
                simp [go_sem, execOp, hI']
              simp only [Act.put, qA, qB, qC]
              (refine Seq3.wpL_quiet rfl rfl rfl (fun K hK => ?_); go_big_quiet_op; (first | refine hK _ ?_ | refine ⟨_, by intros; rfl, hK _ ?_⟩); clear hK K)
              refine Seq3.wpL_held (v := .string ⟨c.name.toArray⟩) rfl rfl (fun w' hI => ?_) ?_
              · have hI' : w'.cell? ⟨wr.heap.size, 2, none⟩ = some (.string ⟨c.name.toArray⟩) := hI.2.2
                simp [go_sem, execOp, hI']
              simp only [Act.put, qA, qB, qC]
              refine Seq3.wpL_qcall (v := .string d) rfl rfl rfl (fun w' _ => ⟨by kernel_rfl, HC.out w'⟩) ?_
              simp only [Act.put, qA, qB, qC]
              iterate 3 (refine Seq3.wpL_quiet rfl rfl rfl (fun K hK => ?_); go_big_quiet_op; (first | refine hK _ ?_ | refine ⟨_, by intros; rfl, hK _ ?_⟩); clear hK K)
              refine Seq3.wpL_nil ?_
              clear hI0 hI1 hac hwr
              have HFz : Hid (Fr [] wb (wy.drew.alloc (.cells #[.string ⟨#[115, 117, 109]⟩, .string ⟨#[109, 105, 110]⟩, .string ⟨#[109, 97, 120]⟩] 9))) := Hd (HFx.out.drew.alloc _)
              go_wp2_with fail
              go_roundw
              case rel => exact ⟨0 + 1, _, congrArg Value.string HS.out, by go_num, by omega, by omega, Hd rfl, HFz⟩
              case measure => simp only [intOf]; omega
            · have hk1 : (0 : Int) < k := by omega
              have HS : Hid (o ++ ⟨#[44, 32]⟩ ++ ⟨#[115, 117, 109]⟩ ++ ⟨#[40]⟩ ++ d ++ ⟨#[41]⟩ = bt (P0 ++ jn imT (its.take (k + 1)))) := Hd (by rw [<- HST2.out, if_neg hk0]; simp only [ext3]; first | done | rfl)
              go_upto_region 11 with fail
              have HXB := Hd (Blk.new wr 60 [.int .i64 2, .string ⟨c.table.toArray⟩, .string ⟨c.name.toArray⟩])
              have HFx : Hid (Fr [] wb (wr.alloc (.cells #[.int .i64 2, .string ⟨c.table.toArray⟩, .string ⟨c.name.toArray⟩] 60))) := Hd (HF.out.alloc _)
              generalize wr.alloc (.cells #[.int .i64 2, .string ⟨c.table.toArray⟩, .string ⟨c.name.toArray⟩] 60) = wy at HXB HFx ⊢
              have ss0 : ¬ 9223372036854775807 < o.size + 2 + 3 := by omega
              have ss1 : ¬ 9223372036854775807 < o.size + 2 + 3 + 1 := by omega
              have ss2 : ¬ 9223372036854775807 < o.size + 2 + 3 + 1 + d.size := by omega
              have ss3 : ¬ 9223372036854775807 < o.size + 2 + 3 + 1 + d.size + 1 := by omega
              have hI0 : wy.drew.cell? ⟨wr.heap.size, 0, none⟩ = some (.int .i64 2) /\ wy.drew.cell? ⟨wr.heap.size, 1, none⟩ = some (.string ⟨c.table.toArray⟩) /\ wy.drew.cell? ⟨wr.heap.size, 2, none⟩ = some (.string ⟨c.name.toArray⟩) := ⟨HXB.out.drew.cell 0, HXB.out.drew.cell 1, HXB.out.drew.cell 2⟩
              have hI1 : (wy.drew.alloc (.cells #[.string ⟨#[115, 117, 109]⟩, .string ⟨#[109, 105, 110]⟩, .string ⟨#[109, 97, 120]⟩] 9)).cell? ⟨wr.heap.size, 0, none⟩ = some (.int .i64 2) /\ (wy.drew.alloc (.cells #[.string ⟨#[115, 117, 109]⟩, .string ⟨#[109, 105, 110]⟩, .string ⟨#[109, 97, 120]⟩] 9)).cell? ⟨wr.heap.size, 1, none⟩ = some (.string ⟨c.table.toArray⟩) /\ (wy.drew.alloc (.cells #[.string ⟨#[115, 117, 109]⟩, .string ⟨#[109, 105, 110]⟩, .string ⟨#[109, 97, 120]⟩] 9)).cell? ⟨wr.heap.size, 2, none⟩ = some (.string ⟨c.name.toArray⟩) := ⟨(Blk.alloc HXB.out.drew _).cell 0, (Blk.alloc HXB.out.drew _).cell 1, (Blk.alloc HXB.out.drew _).cell 2⟩
              have hwr : IntKind.i64.wrap (2 - 2) = 0 := by decide
              refine Seq3.wp_region_text (fun i => i != 1 && i != 6) (fun i => if i = 13 then some (.string d) else none) (fun _ => false) (fun w' => w'.cell? ⟨wr.heap.size, 0, none⟩ = some (.int .i64 2) /\ w'.cell? ⟨wr.heap.size, 1, none⟩ = some (.string ⟨c.table.toArray⟩) /\ w'.cell? ⟨wr.heap.size, 2, none⟩ = some (.string ⟨c.name.toArray⟩)) (by kernel_rfl) (by kernel_rfl) hI0 ?_
              (refine Seq3.wpL_quiet rfl rfl rfl (fun K hK => ?_); go_big_quiet_op; (first | refine hK _ ?_ | refine ⟨_, by intros; rfl, hK _ ?_⟩); clear hK K)
              refine Seq3.wpL_val (v := .slice (some ⟨wy.heap.size, 0, none⟩) 3 3) (w' := wy.drew.alloc (.cells #[.string ⟨#[115, 117, 109]⟩, .string ⟨#[109, 105, 110]⟩, .string ⟨#[109, 97, 120]⟩] 9)) rfl rfl (by simp [go_sem, execOp]) hI1 ?_
              simp only [Act.put, qA, qB, qC]
              (refine Seq3.wpL_quiet rfl rfl rfl (fun K hK => ?_); go_big_quiet_op; (first | refine hK _ ?_ | refine ⟨_, by intros; rfl, hK _ ?_⟩); clear hK K)
              refine Seq3.wpL_held (v := .int .i64 2) rfl rfl (fun w' hI => ?_) ?_
              · have hI' : w'.cell? ⟨wr.heap.size, 0, none⟩ = some (.int .i64 2) := hI.1
                simp [go_sem, execOp, hI']
              simp only [Act.put, qA, qB, qC]
              iterate 2 (refine Seq3.wpL_quiet rfl rfl rfl (fun K hK => ?_); go_big_quiet_op; (first | refine hK _ ?_ | refine ⟨_, by intros; rfl, hK _ ?_⟩); clear hK K)
              have hac : (wy.drew.alloc (.cells #[.string ⟨#[115, 117, 109]⟩, .string ⟨#[109, 105, 110]⟩, .string ⟨#[109, 97, 120]⟩] 9)).cell? ⟨wy.heap.size, 0, none⟩ = some (.string ⟨#[115, 117, 109]⟩) := (Blk.new wy.drew 9 [.string ⟨#[115, 117, 109]⟩, .string ⟨#[109, 105, 110]⟩, .string ⟨#[109, 97, 120]⟩]).cell 0
              refine Seq3.wpL_val (v := .string ⟨#[115, 117, 109]⟩) (w' := wy.drew.alloc (.cells #[.string ⟨#[115, 117, 109]⟩, .string ⟨#[109, 105, 110]⟩, .string ⟨#[109, 97, 120]⟩] 9)) rfl rfl (by simp [go_sem, execOp, hac]) hI1 ?_
              simp only [Act.put, qA, qB, qC]
              iterate 3 (refine Seq3.wpL_quiet rfl rfl rfl (fun K hK => ?_); go_big_quiet_op; (first | refine hK _ ?_ | refine ⟨_, by intros; rfl, hK _ ?_⟩); clear hK K)
              refine Seq3.wpL_held (v := .string ⟨c.table.toArray⟩) rfl rfl (fun w' hI => ?_) ?_
              · have hI' : w'.cell? ⟨wr.heap.size, 1, none⟩ = some (.string ⟨c.table.toArray⟩) := hI.2.1
                simp [go_sem, execOp, hI']
              simp only [Act.put, qA, qB, qC]
              (refine Seq3.wpL_quiet rfl rfl rfl (fun K hK => ?_); go_big_quiet_op; (first | refine hK _ ?_ | refine ⟨_, by intros; rfl, hK _ ?_⟩); clear hK K)
              refine Seq3.wpL_held (v := .string ⟨c.name.toArray⟩) rfl rfl (fun w' hI => ?_) ?_
              · have hI' : w'.cell? ⟨wr.heap.size, 2, none⟩ = some (.string ⟨c.name.toArray⟩) := hI.2.2
                simp [go_sem, execOp, hI']
              simp only [Act.put, qA, qB, qC]
              refine Seq3.wpL_qcall (v := .string d) rfl rfl rfl (fun w' _ => ⟨by kernel_rfl, HC.out w'⟩) ?_
              simp only [Act.put, qA, qB, qC]
              iterate 3 (refine Seq3.wpL_quiet rfl rfl rfl (fun K hK => ?_); go_big_quiet_op; (first | refine hK _ ?_ | refine ⟨_, by intros; rfl, hK _ ?_⟩); clear hK K)
              refine Seq3.wpL_nil ?_
              clear hI0 hI1 hac hwr
              have HFz : Hid (Fr [] wb (wy.drew.alloc (.cells #[.string ⟨#[115, 117, 109]⟩, .string ⟨#[109, 105, 110]⟩, .string ⟨#[109, 97, 120]⟩] 9))) := Hd (HFx.out.drew.alloc _)
              go_wp2_with fail
              go_roundw
              case rel => exact ⟨k + 1, _, congrArg Value.string HS.out, by go_num, by omega, by omega, Hd rfl, HFz⟩
              case measure => simp only [intOf]; omega
          · have x0 : wr.cell? ⟨g, off + k * 3, none⟩ = some (.int .i64 3) := x0
            by_cases hk0 : k = 0
            · subst hk0
              simp only [Nat.zero_mul, Nat.add_zero] at x0 x1 x2
              have HS : Hid (o ++ ⟨#[109, 105, 110]⟩ ++ ⟨#[40]⟩ ++ d ++ ⟨#[41]⟩ = bt (P0 ++ jn imT (its.take (0 + 1)))) := Hd (by rw [<- HST2.out, if_pos rfl, show bt [] = ByteArray.empty from rfl, ByteArray.append_empty]; simp only [ext3]; first | done | rfl)
              go_upto_region 11 with fail
              have HXB := Hd (Blk.new wr 60 [.int .i64 3, .string ⟨c.table.toArray⟩, .string ⟨c.name.toArray⟩])
              have HFx : Hid (Fr [] wb (wr.alloc (.cells #[.int .i64 3, .string ⟨c.table.toArray⟩, .string ⟨c.name.toArray⟩] 60))) := Hd (HF.out.alloc _)
              generalize wr.alloc (.cells #[.int .i64 3, .string ⟨c.table.toArray⟩, .string ⟨c.name.toArray⟩] 60) = wy at HXB HFx ⊢
              have ss0 : ¬ 9223372036854775807 < o.size + 3 := by omega
              have ss1 : ¬ 9223372036854775807 < o.size + 3 + 1 := by omega
              have ss2 : ¬ 9223372036854775807 < o.size + 3 + 1 + d.size := by omega
              have ss3 : ¬ 9223372036854775807 < o.size + 3 + 1 + d.size + 1 := by omega
              have hI0 : wy.drew.cell? ⟨wr.heap.size, 0, none⟩ = some (.int .i64 3) /\ wy.drew.cell? ⟨wr.heap.size, 1, none⟩ = some (.string ⟨c.table.toArray⟩) /\ wy.drew.cell? ⟨wr.heap.size, 2, none⟩ = some (.string ⟨c.name.toArray⟩) := ⟨HXB.out.drew.cell 0, HXB.out.drew.cell 1, HXB.out.drew.cell 2⟩
              have hI1 : (wy.drew.alloc (.cells #[.string ⟨#[115, 117, 109]⟩, .string ⟨#[109, 105, 110]⟩, .string ⟨#[109, 97, 120]⟩] 9)).cell? ⟨wr.heap.size, 0, none⟩ = some (.int .i64 3) /\ (wy.drew.alloc (.cells #[.string ⟨#[115, 117, 109]⟩, .string ⟨#[109, 105, 110]⟩, .string ⟨#[109, 97, 120]⟩] 9)).cell? ⟨wr.heap.size, 1, none⟩ = some (.string ⟨c.table.toArray⟩) /\ (wy.drew.alloc (.cells #[.string ⟨#[115, 117, 109]⟩, .string ⟨#[109, 105, 110]⟩, .string ⟨#[109, 97, 120]⟩] 9)).cell? ⟨wr.heap.size, 2, none⟩ = some (.string ⟨c.name.toArray⟩) := ⟨(Blk.alloc HXB.out.drew _).cell 0, (Blk.alloc HXB.out.drew _).cell 1, (Blk.alloc HXB.out.drew _).cell 2⟩
              have hwr : IntKind.i64.wrap (3 - 2) = 1 := by decide
              refine Seq3.wp_region_text (fun i => i != 1 && i != 6) (fun i => if i = 13 then some (.string d) else none) (fun _ => false) (fun w' => w'.cell? ⟨wr.heap.size, 0, none⟩ = some (.int .i64 3) /\ w'.cell? ⟨wr.heap.size, 1, none⟩ = some (.string ⟨c.table.toArray⟩) /\ w'.cell? ⟨wr.heap.size, 2, none⟩ = some (.string ⟨c.name.toArray⟩)) (by kernel_rfl) (by kernel_rfl) hI0 ?_
              (refine Seq3.wpL_quiet rfl rfl rfl (fun K hK => ?_); go_big_quiet_op; (first | refine hK _ ?_ | refine ⟨_, by intros; rfl, hK _ ?_⟩); clear hK K)
              refine Seq3.wpL_val (v := .slice (some ⟨wy.heap.size, 0, none⟩) 3 3) (w' := wy.drew.alloc (.cells #[.string ⟨#[115, 117, 109]⟩, .string ⟨#[109, 105, 110]⟩, .string ⟨#[109, 97, 120]⟩] 9)) rfl rfl (by simp [go_sem, execOp]) hI1 ?_
              simp only [Act.put, qA, qB, qC]
              (refine Seq3.wpL_quiet rfl rfl rfl (fun K hK => ?_); go_big_quiet_op; (first | refine hK _ ?_ | refine ⟨_, by intros; rfl, hK _ ?_⟩); clear hK K)
              refine Seq3.wpL_held (v := .int .i64 3) rfl rfl (fun w' hI => ?_) ?_
              · have hI' : w'.cell? ⟨wr.heap.size, 0, none⟩ = some (.int .i64 3) := hI.1
                simp [go_sem, execOp, hI']
              simp only [Act.put, qA, qB, qC]
              iterate 2 (refine Seq3.wpL_quiet rfl rfl rfl (fun K hK => ?_); go_big_quiet_op; (first | refine hK _ ?_ | refine ⟨_, by intros; rfl, hK _ ?_⟩); clear hK K)
              have hac : (wy.drew.alloc (.cells #[.string ⟨#[115, 117, 109]⟩, .string ⟨#[109, 105, 110]⟩, .string ⟨#[109, 97, 120]⟩] 9)).cell? ⟨wy.heap.size, 1, none⟩ = some (.string ⟨#[109, 105, 110]⟩) := (Blk.new wy.drew 9 [.string ⟨#[115, 117, 109]⟩, .string ⟨#[109, 105, 110]⟩, .string ⟨#[109, 97, 120]⟩]).cell 1
              refine Seq3.wpL_val (v := .string ⟨#[109, 105, 110]⟩) (w' := wy.drew.alloc (.cells #[.string ⟨#[115, 117, 109]⟩, .string ⟨#[109, 105, 110]⟩, .string ⟨#[109, 97, 120]⟩] 9)) rfl rfl (by simp [go_sem, execOp, hac]) hI1 ?_
              simp only [Act.put, qA, qB, qC]
              iterate 3 (refine Seq3.wpL_quiet rfl rfl rfl (fun K hK => ?_); go_big_quiet_op; (first | refine hK _ ?_ | refine ⟨_, by intros; rfl, hK _ ?_⟩); clear hK K)
              refine Seq3.wpL_held (v := .string ⟨c.table.toArray⟩) rfl rfl (fun w' hI => ?_) ?_
              · have hI' : w'.cell? ⟨wr.heap.size, 1, none⟩ = some (.string ⟨c.table.toArray⟩) := hI.2.1
                simp [go_sem, execOp, hI']
              simp only [Act.put, qA, qB, qC]
              (refine Seq3.wpL_quiet rfl rfl rfl (fun K hK => ?_); go_big_quiet_op; (first | refine hK _ ?_ | refine ⟨_, by intros; rfl, hK _ ?_⟩); clear hK K)
              refine Seq3.wpL_held (v := .string ⟨c.name.toArray⟩) rfl rfl (fun w' hI => ?_) ?_
              · have hI' : w'.cell? ⟨wr.heap.size, 2, none⟩ = some (.string ⟨c.name.toArray⟩) := hI.2.2
                simp [go_sem, execOp, hI']
              simp only [Act.put, qA, qB, qC]
              refine Seq3.wpL_qcall (v := .string d) rfl rfl rfl (fun w' _ => ⟨by kernel_rfl, HC.out w'⟩) ?_
              simp only [Act.put, qA, qB, qC]
              iterate 3 (refine Seq3.wpL_quiet rfl rfl rfl (fun K hK => ?_); go_big_quiet_op; (first | refine hK _ ?_ | refine ⟨_, by intros; rfl, hK _ ?_⟩); clear hK K)
              refine Seq3.wpL_nil ?_
              clear hI0 hI1 hac hwr
              have HFz : Hid (Fr [] wb (wy.drew.alloc (.cells #[.string ⟨#[115, 117, 109]⟩, .string ⟨#[109, 105, 110]⟩, .string ⟨#[109, 97, 120]⟩] 9))) := Hd (HFx.out.drew.alloc _)
              go_wp2_with fail
              go_roundw
              case rel => exact ⟨0 + 1, _, congrArg Value.string HS.out, by go_num, by omega, by omega, Hd rfl, HFz⟩
              case measure => simp only [intOf]; omega
            · have hk1 : (0 : Int) < k := by omega
              have HS : Hid (o ++ ⟨#[44, 32]⟩ ++ ⟨#[109, 105, 110]⟩ ++ ⟨#[40]⟩ ++ d ++ ⟨#[41]⟩ = bt (P0 ++ jn imT (its.take (k + 1)))) := Hd (by rw [<- HST2.out, if_neg hk0]; simp only [ext3]; first | done | rfl)
              go_upto_region 11 with fail
              have HXB := Hd (Blk.new wr 60 [.int .i64 3, .string ⟨c.table.toArray⟩, .string ⟨c.name.toArray⟩])
              have HFx : Hid (Fr [] wb (wr.alloc (.cells #[.int .i64 3, .string ⟨c.table.toArray⟩, .string ⟨c.name.toArray⟩] 60))) := Hd (HF.out.alloc _)
              generalize wr.alloc (.cells #[.int .i64 3, .string ⟨c.table.toArray⟩, .string ⟨c.name.toArray⟩] 60) = wy at HXB HFx ⊢
              have ss0 : ¬ 9223372036854775807 < o.size + 2 + 3 := by omega
              have ss1 : ¬ 9223372036854775807 < o.size + 2 + 3 + 1 := by omega
              have ss2 : ¬ 9223372036854775807 < o.size + 2 + 3 + 1 + d.size := by omega
              have ss3 : ¬ 9223372036854775807 < o.size + 2 + 3 + 1 + d.size + 1 := by omega
              have hI0 : wy.drew.cell? ⟨wr.heap.size, 0, none⟩ = some (.int .i64 3) /\ wy.drew.cell? ⟨wr.heap.size, 1, none⟩ = some (.string ⟨c.table.toArray⟩) /\ wy.drew.cell? ⟨wr.heap.size, 2, none⟩ = some (.string ⟨c.name.toArray⟩) := ⟨HXB.out.drew.cell 0, HXB.out.drew.cell 1, HXB.out.drew.cell 2⟩
              have hI1 : (wy.drew.alloc (.cells #[.string ⟨#[115, 117, 109]⟩, .string ⟨#[109, 105, 110]⟩, .string ⟨#[109, 97, 120]⟩] 9)).cell? ⟨wr.heap.size, 0, none⟩ = some (.int .i64 3) /\ (wy.drew.alloc (.cells #[.string ⟨#[115, 117, 109]⟩, .string ⟨#[109, 105, 110]⟩, .string ⟨#[109, 97, 120]⟩] 9)).cell? ⟨wr.heap.size, 1, none⟩ = some (.string ⟨c.table.toArray⟩) /\ (wy.drew.alloc (.cells #[.string ⟨#[115, 117, 109]⟩, .string ⟨#[109, 105, 110]⟩, .string ⟨#[109, 97, 120]⟩] 9)).cell? ⟨wr.heap.size, 2, none⟩ = some (.string ⟨c.name.toArray⟩) := ⟨(Blk.alloc HXB.out.drew _).cell 0, (Blk.alloc HXB.out.drew _).cell 1, (Blk.alloc HXB.out.drew _).cell 2⟩
              have hwr : IntKind.i64.wrap (3 - 2) = 1 := by decide
              refine Seq3.wp_region_text (fun i => i != 1 && i != 6) (fun i => if i = 13 then some (.string d) else none) (fun _ => false) (fun w' => w'.cell? ⟨wr.heap.size, 0, none⟩ = some (.int .i64 3) /\ w'.cell? ⟨wr.heap.size, 1, none⟩ = some (.string ⟨c.table.toArray⟩) /\ w'.cell? ⟨wr.heap.size, 2, none⟩ = some (.string ⟨c.name.toArray⟩)) (by kernel_rfl) (by kernel_rfl) hI0 ?_
              (refine Seq3.wpL_quiet rfl rfl rfl (fun K hK => ?_); go_big_quiet_op; (first | refine hK _ ?_ | refine ⟨_, by intros; rfl, hK _ ?_⟩); clear hK K)
              refine Seq3.wpL_val (v := .slice (some ⟨wy.heap.size, 0, none⟩) 3 3) (w' := wy.drew.alloc (.cells #[.string ⟨#[115, 117, 109]⟩, .string ⟨#[109, 105, 110]⟩, .string ⟨#[109, 97, 120]⟩] 9)) rfl rfl (by simp [go_sem, execOp]) hI1 ?_
              simp only [Act.put, qA, qB, qC]
              (refine Seq3.wpL_quiet rfl rfl rfl (fun K hK => ?_); go_big_quiet_op; (first | refine hK _ ?_ | refine ⟨_, by intros; rfl, hK _ ?_⟩); clear hK K)
              refine Seq3.wpL_held (v := .int .i64 3) rfl rfl (fun w' hI => ?_) ?_
              · have hI' : w'.cell? ⟨wr.heap.size, 0, none⟩ = some (.int .i64 3) := hI.1
                simp [go_sem, execOp, hI']
              simp only [Act.put, qA, qB, qC]
              iterate 2 (refine Seq3.wpL_quiet rfl rfl rfl (fun K hK => ?_); go_big_quiet_op; (first | refine hK _ ?_ | refine ⟨_, by intros; rfl, hK _ ?_⟩); clear hK K)
              have hac : (wy.drew.alloc (.cells #[.string ⟨#[115, 117, 109]⟩, .string ⟨#[109, 105, 110]⟩, .string ⟨#[109, 97, 120]⟩] 9)).cell? ⟨wy.heap.size, 1, none⟩ = some (.string ⟨#[109, 105, 110]⟩) := (Blk.new wy.drew 9 [.string ⟨#[115, 117, 109]⟩, .string ⟨#[109, 105, 110]⟩, .string ⟨#[109, 97, 120]⟩]).cell 1
              refine Seq3.wpL_val (v := .string ⟨#[109, 105, 110]⟩) (w' := wy.drew.alloc (.cells #[.string ⟨#[115, 117, 109]⟩, .string ⟨#[109, 105, 110]⟩, .string ⟨#[109, 97, 120]⟩] 9)) rfl rfl (by simp [go_sem, execOp, hac]) hI1 ?_
              simp only [Act.put, qA, qB, qC]
              iterate 3 (refine Seq3.wpL_quiet rfl rfl rfl (fun K hK => ?_); go_big_quiet_op; (first | refine hK _ ?_ | refine ⟨_, by intros; rfl, hK _ ?_⟩); clear hK K)
              refine Seq3.wpL_held (v := .string ⟨c.table.toArray⟩) rfl rfl (fun w' hI => ?_) ?_
              · have hI' : w'.cell? ⟨wr.heap.size, 1, none⟩ = some (.string ⟨c.table.toArray⟩) := hI.2.1
                simp [go_sem, execOp, hI']
              simp only [Act.put, qA, qB, qC]
              (refine Seq3.wpL_quiet rfl rfl rfl (fun K hK => ?_); go_big_quiet_op; (first | refine hK _ ?_ | refine ⟨_, by intros; rfl, hK _ ?_⟩); clear hK K)
              refine Seq3.wpL_held (v := .string ⟨c.name.toArray⟩) rfl rfl (fun w' hI => ?_) ?_
              · have hI' : w'.cell? ⟨wr.heap.size, 2, none⟩ = some (.string ⟨c.name.toArray⟩) := hI.2.2
                simp [go_sem, execOp, hI']
              simp only [Act.put, qA, qB, qC]
              refine Seq3.wpL_qcall (v := .string d) rfl rfl rfl (fun w' _ => ⟨by kernel_rfl, HC.out w'⟩) ?_
              simp only [Act.put, qA, qB, qC]
              iterate 3 (refine Seq3.wpL_quiet rfl rfl rfl (fun K hK => ?_); go_big_quiet_op; (first | refine hK _ ?_ | refine ⟨_, by intros; rfl, hK _ ?_⟩); clear hK K)
              refine Seq3.wpL_nil ?_
              clear hI0 hI1 hac hwr
              have HFz : Hid (Fr [] wb (wy.drew.alloc (.cells #[.string ⟨#[115, 117, 109]⟩, .string ⟨#[109, 105, 110]⟩, .string ⟨#[109, 97, 120]⟩] 9))) := Hd (HFx.out.drew.alloc _)
              go_wp2_with fail
              go_roundw
              case rel => exact ⟨k + 1, _, congrArg Value.string HS.out, by go_num, by omega, by omega, Hd rfl, HFz⟩
              case measure => simp only [intOf]; omega
          · have x0 : wr.cell? ⟨g, off + k * 3, none⟩ = some (.int .i64 4) := x0
            by_cases hk0 : k = 0
            · subst hk0
              simp only [Nat.zero_mul, Nat.add_zero] at x0 x1 x2
              have HS : Hid (o ++ ⟨#[109, 97, 120]⟩ ++ ⟨#[40]⟩ ++ d ++ ⟨#[41]⟩ = bt (P0 ++ jn imT (its.take (0 + 1)))) := Hd (by rw [<- HST2.out, if_pos rfl, show bt [] = ByteArray.empty from rfl, ByteArray.append_empty]; simp only [ext3]; first | done | rfl)
              go_upto_region 11 with fail
              have HXB := Hd (Blk.new wr 60 [.int .i64 4, .string ⟨c.table.toArray⟩, .string ⟨c.name.toArray⟩])
              have HFx : Hid (Fr [] wb (wr.alloc (.cells #[.int .i64 4, .string ⟨c.table.toArray⟩, .string ⟨c.name.toArray⟩] 60))) := Hd (HF.out.alloc _)
              generalize wr.alloc (.cells #[.int .i64 4, .string ⟨c.table.toArray⟩, .string ⟨c.name.toArray⟩] 60) = wy at HXB HFx ⊢
              have ss0 : ¬ 9223372036854775807 < o.size + 3 := by omega
              have ss1 : ¬ 9223372036854775807 < o.size + 3 + 1 := by omega
              have ss2 : ¬ 9223372036854775807 < o.size + 3 + 1 + d.size := by omega
              have ss3 : ¬ 9223372036854775807 < o.size + 3 + 1 + d.size + 1 := by omega
              have hI0 : wy.drew.cell? ⟨wr.heap.size, 0, none⟩ = some (.int .i64 4) /\ wy.drew.cell? ⟨wr.heap.size, 1, none⟩ = some (.string ⟨c.table.toArray⟩) /\ wy.drew.cell? ⟨wr.heap.size, 2, none⟩ = some (.string ⟨c.name.toArray⟩) := ⟨HXB.out.drew.cell 0, HXB.out.drew.cell 1, HXB.out.drew.cell 2⟩
              have hI1 : (wy.drew.alloc (.cells #[.string ⟨#[115, 117, 109]⟩, .string ⟨#[109, 105, 110]⟩, .string ⟨#[109, 97, 120]⟩] 9)).cell? ⟨wr.heap.size, 0, none⟩ = some (.int .i64 4) /\ (wy.drew.alloc (.cells #[.string ⟨#[115, 117, 109]⟩, .string ⟨#[109, 105, 110]⟩, .string ⟨#[109, 97, 120]⟩] 9)).cell? ⟨wr.heap.size, 1, none⟩ = some (.string ⟨c.table.toArray⟩) /\ (wy.drew.alloc (.cells #[.string ⟨#[115, 117, 109]⟩, .string ⟨#[109, 105, 110]⟩, .string ⟨#[109, 97, 120]⟩] 9)).cell? ⟨wr.heap.size, 2, none⟩ = some (.string ⟨c.name.toArray⟩) := ⟨(Blk.alloc HXB.out.drew _).cell 0, (Blk.alloc HXB.out.drew _).cell 1, (Blk.alloc HXB.out.drew _).cell 2⟩
              have hwr : IntKind.i64.wrap (4 - 2) = 2 := by decide
              refine Seq3.wp_region_text (fun i => i != 1 && i != 6) (fun i => if i = 13 then some (.string d) else none) (fun _ => false) (fun w' => w'.cell? ⟨wr.heap.size, 0, none⟩ = some (.int .i64 4) /\ w'.cell? ⟨wr.heap.size, 1, none⟩ = some (.string ⟨c.table.toArray⟩) /\ w'.cell? ⟨wr.heap.size, 2, none⟩ = some (.string ⟨c.name.toArray⟩)) (by kernel_rfl) (by kernel_rfl) hI0 ?_
              (refine Seq3.wpL_quiet rfl rfl rfl (fun K hK => ?_); go_big_quiet_op; (first | refine hK _ ?_ | refine ⟨_, by intros; rfl, hK _ ?_⟩); clear hK K)
              refine Seq3.wpL_val (v := .slice (some ⟨wy.heap.size, 0, none⟩) 3 3) (w' := wy.drew.alloc (.cells #[.string ⟨#[115, 117, 109]⟩, .string ⟨#[109, 105, 110]⟩, .string ⟨#[109, 97, 120]⟩] 9)) rfl rfl (by simp [go_sem, execOp]) hI1 ?_
              simp only [Act.put, qA, qB, qC]
              (refine Seq3.wpL_quiet rfl rfl rfl (fun K hK => ?_); go_big_quiet_op; (first | refine hK _ ?_ | refine ⟨_, by intros; rfl, hK _ ?_⟩); clear hK K)
              refine Seq3.wpL_held (v := .int .i64 4) rfl rfl (fun w' hI => ?_) ?_
              · have hI' : w'.cell? ⟨wr.heap.size, 0, none⟩ = some (.int .i64 4) := hI.1
                simp [go_sem, execOp, hI']
              simp only [Act.put, qA, qB, qC]
              iterate 2 (refine Seq3.wpL_quiet rfl rfl rfl (fun K hK => ?_); go_big_quiet_op; (first | refine hK _ ?_ | refine ⟨_, by intros; rfl, hK _ ?_⟩); clear hK K)
              have hac : (wy.drew.alloc (.cells #[.string ⟨#[115, 117, 109]⟩, .string ⟨#[109, 105, 110]⟩, .string ⟨#[109, 97, 120]⟩] 9)).cell? ⟨wy.heap.size, 2, none⟩ = some (.string ⟨#[109, 97, 120]⟩) := (Blk.new wy.drew 9 [.string ⟨#[115, 117, 109]⟩, .string ⟨#[109, 105, 110]⟩, .string ⟨#[109, 97, 120]⟩]).cell 2
              refine Seq3.wpL_val (v := .string ⟨#[109, 97, 120]⟩) (w' := wy.drew.alloc (.cells #[.string ⟨#[115, 117, 109]⟩, .string ⟨#[109, 105, 110]⟩, .string ⟨#[109, 97, 120]⟩] 9)) rfl rfl (by simp [go_sem, execOp, hac]) hI1 ?_
              simp only [Act.put, qA, qB, qC]
              iterate 3 (refine Seq3.wpL_quiet rfl rfl rfl (fun K hK => ?_); go_big_quiet_op; (first | refine hK _ ?_ | refine ⟨_, by intros; rfl, hK _ ?_⟩); clear hK K)
              refine Seq3.wpL_held (v := .string ⟨c.table.toArray⟩) rfl rfl (fun w' hI => ?_) ?_
              · have hI' : w'.cell? ⟨wr.heap.size, 1, none⟩ = some (.string ⟨c.table.toArray⟩) := hI.2.1
                simp [go_sem, execOp, hI']
              simp only [Act.put, qA, qB, qC]
              (refine Seq3.wpL_quiet rfl rfl rfl (fun K hK => ?_); go_big_quiet_op; (first | refine hK _ ?_ | refine ⟨_, by intros; rfl, hK _ ?_⟩); clear hK K)
              refine Seq3.wpL_held (v := .string ⟨c.name.toArray⟩) rfl rfl (fun w' hI => ?_) ?_
              · have hI' : w'.cell? ⟨wr.heap.size, 2, none⟩ = some (.string ⟨c.name.toArray⟩) := hI.2.2
                simp [go_sem, execOp, hI']
              simp only [Act.put, qA, qB, qC]
              refine Seq3.wpL_qcall (v := .string d) rfl rfl rfl (fun w' _ => ⟨by kernel_rfl, HC.out w'⟩) ?_
              simp only [Act.put, qA, qB, qC]
              iterate 3 (refine Seq3.wpL_quiet rfl rfl rfl (fun K hK => ?_); go_big_quiet_op; (first | refine hK _ ?_ | refine ⟨_, by intros; rfl, hK _ ?_⟩); clear hK K)
              refine Seq3.wpL_nil ?_
              clear hI0 hI1 hac hwr
              have HFz : Hid (Fr [] wb (wy.drew.alloc (.cells #[.string ⟨#[115, 117, 109]⟩, .string ⟨#[109, 105, 110]⟩, .string ⟨#[109, 97, 120]⟩] 9))) := Hd (HFx.out.drew.alloc _)
              go_wp2_with fail
              go_roundw
              case rel => exact ⟨0 + 1, _, congrArg Value.string HS.out, by go_num, by omega, by omega, Hd rfl, HFz⟩
              case measure => simp only [intOf]; omega
            · have hk1 : (0 : Int) < k := by omega
              have HS : Hid (o ++ ⟨#[44, 32]⟩ ++ ⟨#[109, 97, 120]⟩ ++ ⟨#[40]⟩ ++ d ++ ⟨#[41]⟩ = bt (P0 ++ jn imT (its.take (k + 1)))) := Hd (by rw [<- HST2.out, if_neg hk0]; simp only [ext3]; first | done | rfl)
              go_upto_region 11 with fail
              have HXB := Hd (Blk.new wr 60 [.int .i64 4, .string ⟨c.table.toArray⟩, .string ⟨c.name.toArray⟩])
              have HFx : Hid (Fr [] wb (wr.alloc (.cells #[.int .i64 4, .string ⟨c.table.toArray⟩, .string ⟨c.name.toArray⟩] 60))) := Hd (HF.out.alloc _)
              generalize wr.alloc (.cells #[.int .i64 4, .string ⟨c.table.toArray⟩, .string ⟨c.name.toArray⟩] 60) = wy at HXB HFx ⊢
              have ss0 : ¬ 9223372036854775807 < o.size + 2 + 3 := by omega
              have ss1 : ¬ 9223372036854775807 < o.size + 2 + 3 + 1 := by omega
              have ss2 : ¬ 9223372036854775807 < o.size + 2 + 3 + 1 + d.size := by omega
              have ss3 : ¬ 9223372036854775807 < o.size + 2 + 3 + 1 + d.size + 1 := by omega
              have hI0 : wy.drew.cell? ⟨wr.heap.size, 0, none⟩ = some (.int .i64 4) /\ wy.drew.cell? ⟨wr.heap.size, 1, none⟩ = some (.string ⟨c.table.toArray⟩) /\ wy.drew.cell? ⟨wr.heap.size, 2, none⟩ = some (.string ⟨c.name.toArray⟩) := ⟨HXB.out.drew.cell 0, HXB.out.drew.cell 1, HXB.out.drew.cell 2⟩
              have hI1 : (wy.drew.alloc (.cells #[.string ⟨#[115, 117, 109]⟩, .string ⟨#[109, 105, 110]⟩, .string ⟨#[109, 97, 120]⟩] 9)).cell? ⟨wr.heap.size, 0, none⟩ = some (.int .i64 4) /\ (wy.drew.alloc (.cells #[.string ⟨#[115, 117, 109]⟩, .string ⟨#[109, 105, 110]⟩, .string ⟨#[109, 97, 120]⟩] 9)).cell? ⟨wr.heap.size, 1, none⟩ = some (.string ⟨c.table.toArray⟩) /\ (wy.drew.alloc (.cells #[.string ⟨#[115, 117, 109]⟩, .string ⟨#[109, 105, 110]⟩, .string ⟨#[109, 97, 120]⟩] 9)).cell? ⟨wr.heap.size, 2, none⟩ = some (.string ⟨c.name.toArray⟩) := ⟨(Blk.alloc HXB.out.drew _).cell 0, (Blk.alloc HXB.out.drew _).cell 1, (Blk.alloc HXB.out.drew _).cell 2⟩
              have hwr : IntKind.i64.wrap (4 - 2) = 2 := by decide
              refine Seq3.wp_region_text (fun i => i != 1 && i != 6) (fun i => if i = 13 then some (.string d) else none) (fun _ => false) (fun w' => w'.cell? ⟨wr.heap.size, 0, none⟩ = some (.int .i64 4) /\ w'.cell? ⟨wr.heap.size, 1, none⟩ = some (.string ⟨c.table.toArray⟩) /\ w'.cell? ⟨wr.heap.size, 2, none⟩ = some (.string ⟨c.name.toArray⟩)) (by kernel_rfl) (by kernel_rfl) hI0 ?_
              (refine Seq3.wpL_quiet rfl rfl rfl (fun K hK => ?_); go_big_quiet_op; (first | refine hK _ ?_ | refine ⟨_, by intros; rfl, hK _ ?_⟩); clear hK K)
              refine Seq3.wpL_val (v := .slice (some ⟨wy.heap.size, 0, none⟩) 3 3) (w' := wy.drew.alloc (.cells #[.string ⟨#[115, 117, 109]⟩, .string ⟨#[109, 105, 110]⟩, .string ⟨#[109, 97, 120]⟩] 9)) rfl rfl (by simp [go_sem, execOp]) hI1 ?_
              simp only [Act.put, qA, qB, qC]
              (refine Seq3.wpL_quiet rfl rfl rfl (fun K hK => ?_); go_big_quiet_op; (first | refine hK _ ?_ | refine ⟨_, by intros; rfl, hK _ ?_⟩); clear hK K)
              refine Seq3.wpL_held (v := .int .i64 4) rfl rfl (fun w' hI => ?_) ?_
              · have hI' : w'.cell? ⟨wr.heap.size, 0, none⟩ = some (.int .i64 4) := hI.1
                simp [go_sem, execOp, hI']
              simp only [Act.put, qA, qB, qC]
              iterate 2 (refine Seq3.wpL_quiet rfl rfl rfl (fun K hK => ?_); go_big_quiet_op; (first | refine hK _ ?_ | refine ⟨_, by intros; rfl, hK _ ?_⟩); clear hK K)
              have hac : (wy.drew.alloc (.cells #[.string ⟨#[115, 117, 109]⟩, .string ⟨#[109, 105, 110]⟩, .string ⟨#[109, 97, 120]⟩] 9)).cell? ⟨wy.heap.size, 2, none⟩ = some (.string ⟨#[109, 97, 120]⟩) := (Blk.new wy.drew 9 [.string ⟨#[115, 117, 109]⟩, .string ⟨#[109, 105, 110]⟩, .string ⟨#[109, 97, 120]⟩]).cell 2
              refine Seq3.wpL_val (v := .string ⟨#[109, 97, 120]⟩) (w' := wy.drew.alloc (.cells #[.string ⟨#[115, 117, 109]⟩, .string ⟨#[109, 105, 110]⟩, .string ⟨#[109, 97, 120]⟩] 9)) rfl rfl (by simp [go_sem, execOp, hac]) hI1 ?_
              simp only [Act.put, qA, qB, qC]
              iterate 3 (refine Seq3.wpL_quiet rfl rfl rfl (fun K hK => ?_); go_big_quiet_op; (first | refine hK _ ?_ | refine ⟨_, by intros; rfl, hK _ ?_⟩); clear hK K)
              refine Seq3.wpL_held (v := .string ⟨c.table.toArray⟩) rfl rfl (fun w' hI => ?_) ?_
              · have hI' : w'.cell? ⟨wr.heap.size, 1, none⟩ = some (.string ⟨c.table.toArray⟩) := hI.2.1
                simp [go_sem, execOp, hI']
              simp only [Act.put, qA, qB, qC]
              (refine Seq3.wpL_quiet rfl rfl rfl (fun K hK => ?_); go_big_quiet_op; (first | refine hK _ ?_ | refine ⟨_, by intros; rfl, hK _ ?_⟩); clear hK K)
              refine Seq3.wpL_held (v := .string ⟨c.name.toArray⟩) rfl rfl (fun w' hI => ?_) ?_
              · have hI' : w'.cell? ⟨wr.heap.size, 2, none⟩ = some (.string ⟨c.name.toArray⟩) := hI.2.2
                simp [go_sem, execOp, hI']
              simp only [Act.put, qA, qB, qC]
              refine Seq3.wpL_qcall (v := .string d) rfl rfl rfl (fun w' _ => ⟨by kernel_rfl, HC.out w'⟩) ?_
              simp only [Act.put, qA, qB, qC]
              iterate 3 (refine Seq3.wpL_quiet rfl rfl rfl (fun K hK => ?_); go_big_quiet_op; (first | refine hK _ ?_ | refine ⟨_, by intros; rfl, hK _ ?_⟩); clear hK K)
              refine Seq3.wpL_nil ?_
              clear hI0 hI1 hac hwr
              have HFz : Hid (Fr [] wb (wy.drew.alloc (.cells #[.string ⟨#[115, 117, 109]⟩, .string ⟨#[109, 105, 110]⟩, .string ⟨#[109, 97, 120]⟩] 9))) := Hd (HFx.out.drew.alloc _)
              go_wp2_with fail
              go_roundw
              case rel => exact ⟨k + 1, _, congrArg Value.string HS.out, by go_num, by omega, by omega, Hd rfl, HFz⟩
              case measure => simp only [intOf]; omega
      · obtain rfl : k = its.length := by omega
        have hb1 := HBr.out.cell 1
        have hb7 := HBr.out.cell 7
        simp only [List.getElem?_cons_zero, List.getElem?_cons_succ] at hb1 hb7
        have HOT2 : Hid (o = bt ([115, 101, 108, 101, 99, 116, 32] ++ itemsT its)) := Hd (by
          have := HOT.out
          rw [List.take_length, HP0.out, P0_ok] at this
          exact this)
        have htz : ((bt tb).size : Int) <= 16 := by rw [bt_size]; omega
        clear HOT
        change wr.cell? _ = some (.string (bt tb)) at hb1
        obtain ⟨ub, hub⟩ : ∃ ub, bt tb = ub := ⟨_, rfl⟩
        rw [hub] at hb1 htz
        have HUB := Hd hub
        obtain ⟨zj, hzj⟩ : ∃ zj, jnm.isEmpty = zj := ⟨_, rfl⟩
        have HZJ := Hd hzj
        have HO2 : Hid (o ++ ⟨#[32, 102, 114, 111, 109, 32]⟩ ++ ub = bt ([115, 101, 108, 101, 99, 116, 32] ++ itemsT its ++ [32, 102, 114, 111, 109, 32] ++ tb)) := Hd (by rw [HOT2.out, <- hub, show ⟨#[32, 102, 114, 111, 109, 32]⟩ = bt [32, 102, 114, 111, 109, 32] from rfl, bt_cat, bt_cat])
        have HFW : Hid (Fr [] w wr) := Hd (HF0.out.trans HF.out)
        clear hub HOT2
        go_upto_if 66 with fail
        generalize o ++ ⟨#[32, 102, 114, 111, 109, 32]⟩ ++ ub = o2 at HO2 ⊢
        have ho2 : (o2.size : Int) <= 60000 := by rw [HO2.out, bt_size]; have := HM.out.1; omega
        clear hb1 hb7 hzj
        go_cut [3] from 67 to 85 (fun s3 wx => ∃ o3 : ByteArray, s3 = .string o3 /\ (o3.size : Int) <= 60000 /\ Hid (o3 = bt ([115, 101, 108, 101, 99, 116, 32] ++ itemsT its ++ [32, 102, 114, 111, 109, 32] ++ tb ++ joinT jo)) /\ Hid (Fr [] wr wx))
        case first =>
          rw [<- HJN.out] at HZJ
          cases jo with
          | none =>
            obtain rfl : true = zj := HZJ.out
            go_wp2_with fail
            go_meet
            exact ⟨o2, rfl, ho2, Hd (by rw [HO2.out]; simp [joinT]), Hd (Fr.refl _ _)⟩
          | some x =>
            obtain ⟨j, ca, cb⟩ := x
            obtain ⟨q8, hoj⟩ := HJ.out
            simp only [CM.okJ, Bool.and_eq_true] at hoj
            obtain ⟨⟨hj, hca⟩, hcb⟩ := hoj
            have hjl := okName_len hj
            have hjn : zj = false := by rw [<- HZJ.out]; have := okName_ne hj; cases hjj : j with | nil => exact absurd hjj this | cons => rfl
            subst hjn
            obtain ⟨g8, o8, ys, zs, rfl, rfl, hc8, hg8, hE, hE2, hcell, hcell2⟩ := two_at q8
            obtain ⟨op, kind, int, text, table, name, args, b1, m1, d1, -, rfl, -⟩ := Sm.e_cells hE
            obtain ⟨op2, kind2, int2, text2, table2, name2, args2, b2, m2, d2, -, rfl, -⟩ := Sm.e_cells hE2
            have HC1 := Hd (sev hcell)
            have HC2 := Hd (sev hcell2)
            have hla := clT_le hca
            have hlb := clT_le hcb
            obtain ⟨s, hs⟩ : ∃ s, bt (clT ca) = s := ⟨_, rfl⟩
            obtain ⟨u, hu⟩ : ∃ u, bt (clT cb) = u := ⟨_, rfl⟩
            have hsz := bs hs hla
            have huz := bs hu hlb
            have HP : Hid (∀ W, Fr [] wr W -> Calls Tryz.prog 35 #[.agg #[.int .i64 op, .int .i64 kind, .int .i64 int, .string ⟨text.toArray⟩, .string ⟨table.toArray⟩, .string ⟨name.toArray⟩, .slice b1 m1 d1]] W fun e w'' => e = .returned (.string s) /\ Fr [] W w'') := Hd (fun W hf => by
              have h1 := hE
              rw [<- clPr_ex] at h1
              have h2 := shown_any (clPr ca) (clPr_ok hca) (by rw [clPr_sh]; omega) _ _ _ (Rep.E.keep (HFW.out.trans hf) (by simp) h1)
              rwa [clPr_sh, hs] at h2)
            have HQ : Hid (∀ W, Fr [] wr W -> Calls Tryz.prog 35 #[.agg #[.int .i64 op2, .int .i64 kind2, .int .i64 int2, .string ⟨text2.toArray⟩, .string ⟨table2.toArray⟩, .string ⟨name2.toArray⟩, .slice b2 m2 d2]] W fun e w'' => e = .returned (.string u) /\ Fr [] W w'') := Hd (fun W hf => by
              have h1 := hE2
              rw [<- clPr_ex] at h1
              have h2 := shown_any (clPr cb) (clPr_ok hcb) (by rw [clPr_sh]; omega) _ _ _ (Rep.E.keep (HFW.out.trans hf) (by simp) h1)
              rwa [clPr_sh, hu] at h2)
            obtain ⟨jb, hjb⟩ : ∃ jb, bt j = jb := ⟨_, rfl⟩
            have hjz : (jb.size : Int) <= 16 := bs hjb hjl
            have HEQ : Hid (o2 ++ ⟨#[32, 106, 111, 105, 110, 32]⟩ ++ jb ++ ⟨#[32, 111, 110, 32]⟩ ++ s ++ ⟨#[32, 61, 32]⟩ ++ u = bt ([115, 101, 108, 101, 99, 116, 32] ++ itemsT its ++ [32, 102, 114, 111, 109, 32] ++ tb ++ joinT (some (j, ca, cb)))) := Hd (by
              rw [HO2.out, <- hs, <- hu, <- hjb, show ⟨#[32, 106, 111, 105, 110, 32]⟩ = bt [32, 106, 111, 105, 110, 32] from rfl, show ⟨#[32, 111, 110, 32]⟩ = bt [32, 111, 110, 32] from rfl, show ⟨#[32, 61, 32]⟩ = bt [32, 61, 32] from rfl]
              simp only [bt_cat, joinT, List.append_assoc])
            have hlq := HM.out.2.1
            have HQQ : Hid (((bt ([115, 101, 108, 101, 99, 116, 32] ++ itemsT its ++ [32, 102, 114, 111, 109, 32] ++ tb ++ joinT (some (j, ca, cb)))).size : Int) <= 60000) := Hd (by rw [bt_size]; omega)
            clear q8 hE hE2 hcell hcell2 hla hlb hs hu hlq
            have hj7 := HBr.out.cell 7
            change wr.cell? _ = some (.string (bt jnm)) at hj7
            rw [<- HJN.out, show CM.joinN (some (j, ca, cb)) = j from rfl, hjb] at hj7
            have hj8 := HBr.out.cell 8
            simp only [List.getElem?_cons_zero, List.getElem?_cons_succ] at hj8
            have HJ78 := Hd (And.intro hj7 hj8)
            have hbl : w.heap.size < wr.heap.size := HBr.out.lt
            clear hjb hj7 hj8
            have ss0 : ¬ 9223372036854775807 < o2.size + 6 := by omega
            have ss1 : ¬ 9223372036854775807 < o2.size + 6 + jb.size := by omega
            have ss2 : ¬ 9223372036854775807 < o2.size + 6 + jb.size + 4 := by omega
            have ss3 : ¬ 9223372036854775807 < o2.size + 6 + jb.size + 4 + s.size := by omega
            have ss4 : ¬ 9223372036854775807 < o2.size + 6 + jb.size + 4 + s.size + 3 := by omega
            have ss5 : ¬ 9223372036854775807 < o2.size + 6 + jb.size + 4 + s.size + 3 + u.size := by omega
            have hc8i : (2 : Int) <= c8 := by omega
            go_wp2_with fail
            have HKEY : Hid (∀ W, Fr [] wr W -> W.cell? ⟨w.heap.size, 7, none⟩ = some (.string jb) /\ W.cell? ⟨w.heap.size, 8, none⟩ = some (.slice (some ⟨g8, o8, none⟩) 2 c8) /\ W.cell? ⟨g8, o8, none⟩ = some (.int .i64 op) /\ W.cell? ⟨g8, o8 + 1, none⟩ = some (.int .i64 kind) /\ W.cell? ⟨g8, o8 + 2, none⟩ = some (.int .i64 int) /\ W.cell? ⟨g8, o8 + 3, none⟩ = some (.string ⟨text.toArray⟩) /\ W.cell? ⟨g8, o8 + 4, none⟩ = some (.string ⟨table.toArray⟩) /\ W.cell? ⟨g8, o8 + 5, none⟩ = some (.string ⟨name.toArray⟩) /\ W.cell? ⟨g8, o8 + 6, none⟩ = some (.slice b1 m1 d1) /\ W.cell? ⟨g8, o8 + 7, none⟩ = some (.int .i64 op2) /\ W.cell? ⟨g8, o8 + 7 + 1, none⟩ = some (.int .i64 kind2) /\ W.cell? ⟨g8, o8 + 7 + 2, none⟩ = some (.int .i64 int2) /\ W.cell? ⟨g8, o8 + 7 + 3, none⟩ = some (.string ⟨text2.toArray⟩) /\ W.cell? ⟨g8, o8 + 7 + 4, none⟩ = some (.string ⟨table2.toArray⟩) /\ W.cell? ⟨g8, o8 + 7 + 5, none⟩ = some (.string ⟨name2.toArray⟩) /\ W.cell? ⟨g8, o8 + 7 + 6, none⟩ = some (.slice b2 m2 d2)) := Hd fun W hW => ⟨(hW.cell (p := ⟨w.heap.size, 7, none⟩) hbl (by simp)).trans HJ78.out.1, (hW.cell (p := ⟨w.heap.size, 8, none⟩) hbl (by simp)).trans HJ78.out.2, ((HFW.out.trans hW).cell (p := ⟨g8, o8, none⟩) hg8 (by simp)).trans HC1.out.1, ((HFW.out.trans hW).cell (p := ⟨g8, o8 + 1, none⟩) hg8 (by simp)).trans HC1.out.2.1, ((HFW.out.trans hW).cell (p := ⟨g8, o8 + 2, none⟩) hg8 (by simp)).trans HC1.out.2.2.1, ((HFW.out.trans hW).cell (p := ⟨g8, o8 + 3, none⟩) hg8 (by simp)).trans HC1.out.2.2.2.1, ((HFW.out.trans hW).cell (p := ⟨g8, o8 + 4, none⟩) hg8 (by simp)).trans HC1.out.2.2.2.2.1, ((HFW.out.trans hW).cell (p := ⟨g8, o8 + 5, none⟩) hg8 (by simp)).trans HC1.out.2.2.2.2.2.1, ((HFW.out.trans hW).cell (p := ⟨g8, o8 + 6, none⟩) hg8 (by simp)).trans HC1.out.2.2.2.2.2.2, ((HFW.out.trans hW).cell (p := ⟨g8, o8 + 7, none⟩) hg8 (by simp)).trans HC2.out.1, ((HFW.out.trans hW).cell (p := ⟨g8, o8 + 7 + 1, none⟩) hg8 (by simp)).trans HC2.out.2.1, ((HFW.out.trans hW).cell (p := ⟨g8, o8 + 7 + 2, none⟩) hg8 (by simp)).trans HC2.out.2.2.1, ((HFW.out.trans hW).cell (p := ⟨g8, o8 + 7 + 3, none⟩) hg8 (by simp)).trans HC2.out.2.2.2.1, ((HFW.out.trans hW).cell (p := ⟨g8, o8 + 7 + 4, none⟩) hg8 (by simp)).trans HC2.out.2.2.2.2.1, ((HFW.out.trans hW).cell (p := ⟨g8, o8 + 7 + 5, none⟩) hg8 (by simp)).trans HC2.out.2.2.2.2.2.1, ((HFW.out.trans hW).cell (p := ⟨g8, o8 + 7 + 6, none⟩) hg8 (by simp)).trans HC2.out.2.2.2.2.2.2⟩
            have HFa : Hid (Fr [] wr wr) := Hd (Fr.refl [] wr)
            go_region_held3 (fun W => W.cell? ⟨w.heap.size, 7, none⟩ = some (.string jb) /\ W.cell? ⟨w.heap.size, 8, none⟩ = some (.slice (some ⟨g8, o8, none⟩) 2 c8) /\ W.cell? ⟨g8, o8, none⟩ = some (.int .i64 op) /\ W.cell? ⟨g8, o8 + 1, none⟩ = some (.int .i64 kind) /\ W.cell? ⟨g8, o8 + 2, none⟩ = some (.int .i64 int) /\ W.cell? ⟨g8, o8 + 3, none⟩ = some (.string ⟨text.toArray⟩) /\ W.cell? ⟨g8, o8 + 4, none⟩ = some (.string ⟨table.toArray⟩) /\ W.cell? ⟨g8, o8 + 5, none⟩ = some (.string ⟨name.toArray⟩) /\ W.cell? ⟨g8, o8 + 6, none⟩ = some (.slice b1 m1 d1) /\ W.cell? ⟨g8, o8 + 7, none⟩ = some (.int .i64 op2) /\ W.cell? ⟨g8, o8 + 7 + 1, none⟩ = some (.int .i64 kind2) /\ W.cell? ⟨g8, o8 + 7 + 2, none⟩ = some (.int .i64 int2) /\ W.cell? ⟨g8, o8 + 7 + 3, none⟩ = some (.string ⟨text2.toArray⟩) /\ W.cell? ⟨g8, o8 + 7 + 4, none⟩ = some (.string ⟨table2.toArray⟩) /\ W.cell? ⟨g8, o8 + 7 + 5, none⟩ = some (.string ⟨name2.toArray⟩) /\ W.cell? ⟨g8, o8 + 7 + 6, none⟩ = some (.slice b2 m2 d2))
              ((refine HKEY.out _ ?_; repeat (first | with_reducible exact HFa.out | with_reducible refine Fr.drew ?_ | with_reducible refine Fr.alloc ?_ _)))
              (first
                | (go_at_call 35
                   with_reducible refine Calls.mono (HP.out _ ?hf0) ?_
                   case hf0 => (repeat (first | with_reducible exact HFa.out | with_reducible refine Fr.drew ?_ | with_reducible refine Fr.alloc ?_ _))
                   rintro e wz ⟨rfl, hf⟩
                   replace HFa : Hid (Fr [] wr wz) := Hd (Fr.trans (b := _) (by repeat (first | with_reducible exact HFa.out | with_reducible refine Fr.drew ?_ | with_reducible refine Fr.alloc ?_ _)) hf)
                   clear hf)
                | (go_at_call 35
                   with_reducible refine Calls.mono (HQ.out _ ?hf0) ?_
                   case hf0 => (repeat (first | with_reducible exact HFa.out | with_reducible refine Fr.drew ?_ | with_reducible refine Fr.alloc ?_ _))
                   rintro e wz ⟨rfl, hf⟩
                   replace HFa : Hid (Fr [] wr wz) := Hd (Fr.trans (b := _) (by repeat (first | with_reducible exact HFa.out | with_reducible refine Fr.drew ?_ | with_reducible refine Fr.alloc ?_ _)) hf)
                   clear hf))
            all_goals
              go_wp2_with fail
              go_meet
              exact ⟨_, congrArg Value.string HEQ.out, HQQ.out, Hd rfl, Hd (by repeat (first | with_reducible exact HFa.out | with_reducible refine Fr.drew ?_ | with_reducible refine Fr.alloc ?_ _))⟩
        case rest =>
          obtain ⟨o3, rfl, ho3, HO3, HF3⟩ := hcut
          obtain ⟨wd, hwd⟩ : ∃ wd, wd = wc := ⟨_, rfl⟩
          subst hwd
          have HBd := Hd (HBr.out.keep HF3.out (by simp))
          have HFD := Hd (HFW.out.trans HF3.out)
          have hb9 := HBd.out.cell 9
          simp only [List.getElem?_cons_zero, List.getElem?_cons_succ] at hb9
          have HWC := Hd (where_any wo (fun p hp => by have := HW.out.2; rw [hp] at this; exact CM.okPr_ok this) HM.out.2.2.2.1 A wd _ (Rep.Es.keep HFD.out (by simp) HW.out.1))
          have hws : ((bt (whereT wo)).size : Int) <= 60000 := by rw [bt_size]; have := HM.out.2.2.2.1; omega
          have HO4 : Hid (o3 ++ bt (whereT wo) = bt ([115, 101, 108, 101, 99, 116, 32] ++ itemsT its ++ [32, 102, 114, 111, 109, 32] ++ tb ++ joinT jo ++ whereT wo)) := Hd (by rw [HO3.out, bt_cat])
          generalize bt (whereT wo) = dw at HWC HO4 hws
          go_wp2_with fail
          refine HWC.out.mono ?_
          rintro e w5 ⟨rfl, hf5⟩
          have HB5 := Hd (HBd.out.keep hf5 (by simp))
          have HF5 := Hd (HFD.out.trans hf5)
          clear hf5 hb9 HWC
          have hb10 := HB5.out.cell 10
          have hb11 := HB5.out.cell 11
          simp only [List.getElem?_cons_zero, List.getElem?_cons_succ] at hb10 hb11
          have ho4 : ((o3 ++ dw).size : Int) <= 60000 := by rw [HO4.out, bt_size]; have := HM.out.2.2.1; omega
          cases oo with
          | none =>
            obtain rfl : l10 = 0 := Px.es_len HO.out.1
            obtain rfl : false = od := HOD.out
            have HE : Hid (o3 ++ dw = bt (selT ⟨its, tb, jo, wo, none⟩)) := Hd (by rw [HO4.out]; simp [selT, orderT])
            go_wp2_with fail
            go_ret
            exact ⟨congrArg (fun z => Ending.returned (.string z)) HE.out, HF5.out⟩
          | some x =>
            obtain ⟨c, d⟩ := x
            obtain ⟨q10, hoc⟩ := HO.out
            obtain rfl : d = od := HOD.out
            obtain ⟨g, off, ys, rfl, rfl, hc10, hg, hE, hcell⟩ := one_at q10
            rw [<- clPr_ex] at hE
            obtain ⟨op, kind, int, text, table, name, args, b1, m1, d1, -, rfl, -⟩ := Sm.e_cells hE
            have hla := clT_le hoc
            have HE := Hd (shown_any (clPr c) (clPr_ok hoc) (by rw [clPr_sh]; omega) _ _ _ (Rep.E.keep HF5.out (by simp) hE))
            rw [clPr_sh] at HE
            have hfw := HF5.out
            obtain ⟨y0, y1, y2, y3, y4, y5, y6⟩ := sev hcell
            have y0 := (hfw.cell (p := ⟨g, off, none⟩) hg (by simp)).trans y0
            have y1 := (hfw.cell (p := ⟨g, off + 1, none⟩) hg (by simp)).trans y1
            have y2 := (hfw.cell (p := ⟨g, off + 2, none⟩) hg (by simp)).trans y2
            have y3 := (hfw.cell (p := ⟨g, off + 3, none⟩) hg (by simp)).trans y3
            have y4 := (hfw.cell (p := ⟨g, off + 4, none⟩) hg (by simp)).trans y4
            have y5 := (hfw.cell (p := ⟨g, off + 5, none⟩) hg (by simp)).trans y5
            have y6 := (hfw.cell (p := ⟨g, off + 6, none⟩) hg (by simp)).trans y6
            have hds : ((bt (clT c)).size : Int) <= 40 := by rw [bt_size]; omega
            have HS : Hid (o3 ++ dw ++ (bt [32, 111, 114, 100, 101, 114, 32, 98, 121, 32] ++ bt (clT c) ++ (if d then bt [32, 100, 101, 115, 99] else bt [])) = bt (selT ⟨its, tb, jo, wo, some (c, d)⟩)) := Hd (by
              rw [HO4.out]
              cases d <;> simp [selT, orderT, bt_cat])
            have hc10i : (1 : Int) <= c10 := by omega
            clear q10 hE hcell hla hfw
            generalize bt (clT c) = dc at HE HS hds
            cases d
            · have HZ : Hid (o3 ++ dw ++ ⟨#[32, 111, 114, 100, 101, 114, 32, 98, 121, 32]⟩ ++ dc = bt (selT ⟨its, tb, jo, wo, some (c, false)⟩)) := Hd (by
                rw [<- HS.out]
                simp only [if_true, if_false, Bool.false_eq_true, ext3]
                first | done | rfl | (rw [show bt [] = ByteArray.empty from rfl, ByteArray.append_empty]; done) | (rw [show bt [] = ByteArray.empty from rfl, ByteArray.append_empty]; rfl))
              go_wp2_with fail
              refine HE.out.mono ?_
              rintro e w7 ⟨rfl, hf7⟩
              have HF7 := Hd (HF5.out.trans hf7)
              have hb11 := (hf7.cell (p := ⟨w.heap.size, 11, none⟩) HB5.out.lt (by simp)).trans hb11
              clear hf7
              go_wp2_with fail
              go_ret
              exact ⟨congrArg (fun z => Ending.returned (.string z)) HZ.out, HF7.out⟩
            · have HZ : Hid (o3 ++ dw ++ ⟨#[32, 111, 114, 100, 101, 114, 32, 98, 121, 32]⟩ ++ dc ++ ⟨#[32, 100, 101, 115, 99]⟩ = bt (selT ⟨its, tb, jo, wo, some (c, true)⟩)) := Hd (by
                rw [<- HS.out]
                simp only [if_true, if_false, Bool.false_eq_true, ext3]
                first | done | rfl | (rw [show bt [] = ByteArray.empty from rfl, ByteArray.append_empty]; done) | (rw [show bt [] = ByteArray.empty from rfl, ByteArray.append_empty]; rfl))
              go_wp2_with fail
              refine HE.out.mono ?_
              rintro e w7 ⟨rfl, hf7⟩
              have HF7 := Hd (HF5.out.trans hf7)
              have hb11 := (hf7.cell (p := ⟨w.heap.size, 11, none⟩) HB5.out.lt (by simp)).trans hb11
              clear hf7
              go_wp2_with fail
              go_ret
              exact ⟨congrArg (fun z => Ending.returned (.string z)) HZ.out, HF7.out⟩
end Sh
end Go.Proofs.YtmdnhinpaflamaaGreatDoor
