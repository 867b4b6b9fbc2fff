/- show: the law ShowBack: what is shown says just this statement. -/
import Derived.Test.YtmdnhinpaflamaaGreatDoorGst
import Derived.Test.YtmdnhinpaflamaaGreatDoorSwD
import Derived.Test.YtmdnhinpaflamaaGreatDoorShK
import Derived.Test.YtmdnhinpaflamaaGreatDoorRfJ
import Derived.Test.YtmdnhinpaflamaaGreatDoorPcF
import Derived.Test.YtmdnhinpaflamaaGreatDoorSS
import Derived.Test.YtmdnhinpaflamaaGreatDoorL8b
namespace Go.Proofs.YtmdnhinpaflamaaGreatDoor
open Go.RowKit
set_option linter.unusedVariables false
set_option linter.unusedSimpArgs false
namespace Sb
open PM (Ex B)
open Px (SR)
open CM (Pr Qs)
open Gn (PK OkS)
open Sh (bt bt_cat bt_size qsT)
theorem shown_inj {q q' : Qs} (h : q.ok 64 = true) (h' : q'.ok 64 = true) (e : qsT q = qsT q') : q = q' := by
 have e2 : Pc.render q.line = Pc.render q'.line := by rw [Sh.qs_text, Sh.qs_text]; exact e
 have l1 := Pc.LS_line (S := Pc.render q.line) 0 q.line 0 (Nat.zero_le _) (CM.qs_fits h) (by simp [Pc.blanks])
 have l2 := Pc.LS_line (S := Pc.render q.line) 0 q'.line 0 (Nat.zero_le _) (CM.qs_fits h') (by simp [Pc.blanks, e2])
 rw [l1] at l2
 have l3 := Sum.inr.inj l2
 have k1 := CM.parseL_keys h rfl 0 (Pc.render q.line).length
 have k2 := CM.parseL_keys h' rfl 0 (Pc.render q.line).length
 rw [l3] at k1
 exact CM.qs_inj h h' (Sum.inr.inj (k1.symm.trans k2))
theorem shown_parse {q : Qs} (h : q.ok 64 = true) : if (qsT q).length <= 400 then CM.parse (qsT q) = .inr q.st else CM.parse (qsT q) = .inl (0, 7) := by
 split
 ·rename_i hl
  have := CM.parse_shown h (by rw [Sh.qs_text]; exact hl)
  rwa [CM.parse_eq, Sh.qs_text] at this
 ·rename_i hl
  have := CM.parse_long (S := qsT q) (by omega)
  rwa [CM.parse_eq] at this
theorem st_iff {q q' : Qs} (h : q.ok 64 = true) (h' : q'.ok 64 = true) (b : Bool) (hb : b = true ↔ q.st = q'.st) : ((bt (qsT q)).toList == (bt (qsT q')).toList) = b := by
 by_cases hq : q = q'
 ·subst hq
  rw [hb.2 rfl]
  exact beq_self_eq_true _
 ·have hb' : b = false := by
   cases b with
   |false => rfl
   |true => exact absurd (CM.qs_inj h h' (hb.1 rfl)) hq
  rw [hb']
  have hne : bt (qsT q) ≠ bt (qsT q') := fun h2 => hq (shown_inj h h' (by have := congrArg ByteArray.data h2; simpa [bt] using this))
  simpa [Lib.bytes_beq_false_iff] using hne
set_option maxRecDepth 4000000 in
set_option maxHeartbeats 16000000 in
theorem showback_law (a : Option Addr) (len cap : Nat) (b : Option Addr) (bn bc : Nat) (w : World) (hE : Sw.Env w) (hlen : len <= maxLen) (hbn : bn <= maxLen)
  (h : ∀ j, j < len -> ∃ (g off k : Nat), a = some ⟨g, off, none⟩ /\ g < w.heap.size /\ k <= 255 /\ w.cell? ⟨g, off + j, none⟩ = some (.int .u8 k))
  (hb : ∀ j, j < bn -> ∃ (g off k : Nat), b = some ⟨g, off, none⟩ /\ g < w.heap.size /\ k <= 255 /\ w.cell? ⟨g, off + j, none⟩ = some (.int .u8 k)) :
  Calls Tryz.prog 7 #[.slice a len cap, .slice b bn bc] w fun e w' => e = .returned (.bool true) /\ Fr [] w w' := by
 have HB := Hd (Rf.begun8p_any w hE)
 have HEN := Hd hE
 have HH := Hd h
 have HV := Hd hb
 clear hE h hb
 go_enter Tryz.func7, Tryz.ntmps7
 go_wp2_with fail
 refine HB.out.mono ?_
 rintro e w1 ⟨rfl, hf1⟩
 have HF1 := Hd hf1
 clear hf1 HB
 by_cases hl : len > 60
 ·have hl' : (60 : Int) < len := by omega
  go_wp2_with fail
  go_ret
  exact ⟨rfl, HF1.out⟩
 have hl' : (len : Int) <= 60 := by omega
 by_cases hvl : bn > 60
 ·have hvl' : (60 : Int) < bn := by omega
  go_wp2_with fail
  go_ret
  exact ⟨rfl, HF1.out⟩
 have hvl' : (bn : Int) <= 60 := by omega
 go_wp2_with fail
 refine (Gn.made_any w1 a len cap (by omega) (fun j hj => ?_)).mono ?_
 ·obtain ⟨g, off, k, e1, e2, e3, e4⟩ := HH.out j hj
  exact ⟨g, off, k, e1, Nat.lt_of_lt_of_le e2 HF1.out.size, e3, (HF1.out.cell (p := ⟨g, off + j, none⟩) e2 (by simp)).trans e4⟩
 rintro e w2 ⟨rfl, hk, hf⟩
 have HK2 := Hd hk
 have HF2 := Hd (HF1.out.trans hf)
 clear hk hf HH
 go_wp2_with fail
 refine (Gn.stmt_any w1.heap.size w2 HK2.out).mono ?_
 rintro e w3 ⟨⟨q, hok, hst⟩, hk3, hf3⟩
 have HF3 : Hid (Fr [] w w3) := Hd (HF2.out.trans' hf3 (fun i hi => by simp at hi; have := HF1.out.size; omega))
 obtain ⟨xk, xt, xn, xj, xa3, xa4, xa5, xa6, xa8, xa9, xa10, xa12, xl3, xl4, xl5, xl6, xl8, xl9, xl10, xl12, xc3, xc4, xc5, xc6, xc8, xc9, xc10, xc12, xd, rfl, hsr⟩ := Px.st_cells hst
 have HSX := Hd (Gn.SR_live hsr)
 have HOK := Hd hok
 have hs3 := hf3.size
 clear hst hsr hok hk3 hf3 HK2
 go_wp2_with fail
 refine (Gn.made_any w3 b bn bc (by omega) (fun j hj => ?_)).mono ?_
 ·obtain ⟨g, off, k, e1, e2, e3, e4⟩ := HV.out j hj
  exact ⟨g, off, k, e1, Nat.lt_of_lt_of_le e2 HF3.out.size, e3, (HF3.out.cell (p := ⟨g, off + j, none⟩) e2 (by simp)).trans e4⟩
 rintro e w4 ⟨rfl, hk, hf⟩
 have HK4 := Hd hk
 have HF4 := Hd (HF3.out.trans hf)
 have HSX4 := Hd (Px.SR.keep hf (by simp) HSX.out)
 have hs4 := hf.size
 clear hk hf HV HSX
 go_wp2_with fail
 refine (Gn.stmt_any w3.heap.size w4 HK4.out).mono ?_
 rintro e w5 ⟨⟨q', hok, hst⟩, hk5, hf5⟩
 have HF5 : Hid (Fr [] w w5) := Hd (HF4.out.trans' hf5 (fun i hi => by simp at hi; have := HF3.out.size; omega))
 obtain ⟨yk, yt, yn, yj, ya3, ya4, ya5, ya6, ya8, ya9, ya10, ya12, yl3, yl4, yl5, yl6, yl8, yl9, yl10, yl12, yc3, yc4, yc5, yc6, yc8, yc9, yc10, yc12, yd, rfl, hsr⟩ := Px.st_cells hst
 have HSX5 := Hd (Px.SR.keep hf5 (fun g hg => by simp; omega) HSX4.out)
 have HSY5 := Hd hsr
 have HOK2 := Hd hok
 have hs5 := hf5.size
 clear hst hsr hok hk5 hf5 HK4 HSX4
 go_upto_region 6 with fail
 have hfb : Fr [] w5 ((w5.alloc (.cells #[.int .i64 xk, .string ⟨xt.toArray⟩, .string ⟨xn.toArray⟩, .slice xa3 xl3 xc3, .slice xa4 xl4 xc4, .slice xa5 xl5 xc5, .slice xa6 xl6 xc6, .string ⟨xj.toArray⟩, .slice xa8 xl8 xc8, .slice xa9 xl9 xc9, .slice xa10 xl10 xc10, .bool xd, .slice xa12 xl12 xc12] 29)).alloc (.cells #[.int .i64 yk, .string ⟨yt.toArray⟩, .string ⟨yn.toArray⟩, .slice ya3 yl3 yc3, .slice ya4 yl4 yc4, .slice ya5 yl5 yc5, .slice ya6 yl6 yc6, .string ⟨yj.toArray⟩, .slice ya8 yl8 yc8, .slice ya9 yl9 yc9, .slice ya10 yl10 yc10, .bool yd, .slice ya12 yl12 yc12] 29)) := ((Fr.refl [] w5).alloc _).alloc _
 have HBX := Hd ((Blk.new w5 29 [.int .i64 xk, .string ⟨xt.toArray⟩, .string ⟨xn.toArray⟩, .slice xa3 xl3 xc3, .slice xa4 xl4 xc4, .slice xa5 xl5 xc5, .slice xa6 xl6 xc6, .string ⟨xj.toArray⟩, .slice xa8 xl8 xc8, .slice xa9 xl9 xc9, .slice xa10 xl10 xc10, .bool xd, .slice xa12 xl12 xc12]).alloc (.cells #[.int .i64 yk, .string ⟨yt.toArray⟩, .string ⟨yn.toArray⟩, .slice ya3 yl3 yc3, .slice ya4 yl4 yc4, .slice ya5 yl5 yc5, .slice ya6 yl6 yc6, .string ⟨yj.toArray⟩, .slice ya8 yl8 yc8, .slice ya9 yl9 yc9, .slice ya10 yl10 yc10, .bool yd, .slice ya12 yl12 yc12] 29))
 have HBY : Hid (Blk ((w5.alloc (.cells #[.int .i64 xk, .string ⟨xt.toArray⟩, .string ⟨xn.toArray⟩, .slice xa3 xl3 xc3, .slice xa4 xl4 xc4, .slice xa5 xl5 xc5, .slice xa6 xl6 xc6, .string ⟨xj.toArray⟩, .slice xa8 xl8 xc8, .slice xa9 xl9 xc9, .slice xa10 xl10 xc10, .bool xd, .slice xa12 xl12 xc12] 29)).alloc (.cells #[.int .i64 yk, .string ⟨yt.toArray⟩, .string ⟨yn.toArray⟩, .slice ya3 yl3 yc3, .slice ya4 yl4 yc4, .slice ya5 yl5 yc5, .slice ya6 yl6 yc6, .string ⟨yj.toArray⟩, .slice ya8 yl8 yc8, .slice ya9 yl9 yc9, .slice ya10 yl10 yc10, .bool yd, .slice ya12 yl12 yc12] 29)) (w5.heap.size + 1) 29 [.int .i64 yk, .string ⟨yt.toArray⟩, .string ⟨yn.toArray⟩, .slice ya3 yl3 yc3, .slice ya4 yl4 yc4, .slice ya5 yl5 yc5, .slice ya6 yl6 yc6, .string ⟨yj.toArray⟩, .slice ya8 yl8 yc8, .slice ya9 yl9 yc9, .slice ya10 yl10 yc10, .bool yd, .slice ya12 yl12 yc12]) := Hd (by have := Blk.new (w5.alloc (.cells #[.int .i64 xk, .string ⟨xt.toArray⟩, .string ⟨xn.toArray⟩, .slice xa3 xl3 xc3, .slice xa4 xl4 xc4, .slice xa5 xl5 xc5, .slice xa6 xl6 xc6, .string ⟨xj.toArray⟩, .slice xa8 xl8 xc8, .slice xa9 xl9 xc9, .slice xa10 xl10 xc10, .bool xd, .slice xa12 xl12 xc12] 29)) 29 [.int .i64 yk, .string ⟨yt.toArray⟩, .string ⟨yn.toArray⟩, .slice ya3 yl3 yc3, .slice ya4 yl4 yc4, .slice ya5 yl5 yc5, .slice ya6 yl6 yc6, .string ⟨yj.toArray⟩, .slice ya8 yl8 yc8, .slice ya9 yl9 yc9, .slice ya10 yl10 yc10, .bool yd, .slice ya12 yl12 yc12]; rwa [World.size_alloc] at this)
 have HSX6 := Hd (Px.SR.keep hfb (by simp) HSX5.out)
 have HSY6 := Hd (Px.SR.keep hfb (by simp) HSY5.out)
 have HF6 := Hd (HF5.out.trans hfb)
 clear hfb HSX5 HSY5 HF5
 generalize ((w5.alloc (.cells #[.int .i64 xk, .string ⟨xt.toArray⟩, .string ⟨xn.toArray⟩, .slice xa3 xl3 xc3, .slice xa4 xl4 xc4, .slice xa5 xl5 xc5, .slice xa6 xl6 xc6, .string ⟨xj.toArray⟩, .slice xa8 xl8 xc8, .slice xa9 xl9 xc9, .slice xa10 xl10 xc10, .bool xd, .slice xa12 xl12 xc12] 29)).alloc (.cells #[.int .i64 yk, .string ⟨yt.toArray⟩, .string ⟨yn.toArray⟩, .slice ya3 yl3 yc3, .slice ya4 yl4 yc4, .slice ya5 yl5 yc5, .slice ya6 yl6 yc6, .string ⟨yj.toArray⟩, .slice ya8 yl8 yc8, .slice ya9 yl9 yc9, .slice ya10 yl10 yc10, .bool yd, .slice ya12 yl12 yc12] 29)) = w6 at HBX HBY HSX6 HSY6 HF6 ⊢
 have hqn : (qsT q).length <= 9000 := by have h1 := HOK.out.2; rw [Sh.qs_text] at h1; have h2 : Gn.bndS q <= 9000 := (by cases q <;> simp [Gn.bndS]); omega
 have hqn2 : (qsT q').length <= 9000 := by have h1 := HOK2.out.2; rw [Sh.qs_text] at h1; have h2 : Gn.bndS q' <= 9000 := (by cases q' <;> simp [Gn.bndS]); omega
 have HI := Hd (fun (b : Bool) (hb : b = true ↔ q.st = q'.st) => st_iff HOK.out.1 HOK2.out.1 b hb)
 have HPA := Hd (shown_parse HOK.out.1)
 have hsl : (bt (qsT q)).size = (qsT q).length := bt_size _
 have HSH : Hid (∀ W, Fr [] w6 W -> Calls Tryz.prog 17 #[.agg #[.int .i64 xk, .string ⟨xt.toArray⟩, .string ⟨xn.toArray⟩, .slice xa3 xl3 xc3, .slice xa4 xl4 xc4, .slice xa5 xl5 xc5, .slice xa6 xl6 xc6, .string ⟨xj.toArray⟩, .slice xa8 xl8 xc8, .slice xa9 xl9 xc9, .slice xa10 xl10 xc10, .bool xd, .slice xa12 xl12 xc12]] W fun e w' => e = .returned (.string (bt (qsT q))) /\ Fr [] W w') := Hd (fun W hf => Sw.show_any q 64 HOK.out.1 (by omega) _ W _ (HEN.out.keep (HF6.out.trans hf)) (Px.SR.keep hf (by simp) HSX6.out))
 have HSH2 : Hid (∀ W, Fr [] w6 W -> Calls Tryz.prog 17 #[.agg #[.int .i64 yk, .string ⟨yt.toArray⟩, .string ⟨yn.toArray⟩, .slice ya3 yl3 yc3, .slice ya4 yl4 yc4, .slice ya5 yl5 yc5, .slice ya6 yl6 yc6, .string ⟨yj.toArray⟩, .slice ya8 yl8 yc8, .slice ya9 yl9 yc9, .slice ya10 yl10 yc10, .bool yd, .slice ya12 yl12 yc12]] W fun e w' => e = .returned (.string (bt (qsT q'))) /\ Fr [] W w') := Hd (fun W hf => Sw.show_any q' 64 HOK2.out.1 (by omega) _ W _ (HEN.out.keep (HF6.out.trans hf)) (Px.SR.keep hf (by simp) HSY6.out))
 have HPP : Hid (∀ W, Calls Tryz.prog 10 #[.string (bt (qsT q))] W (Rf.PaO (qsT q) W)) := Hd (fun W => Rf.parse_any (qsT q) W (by omega))
 obtain ⟨s, hs⟩ : ∃ s, bt (qsT q) = s := ⟨_, rfl⟩
 obtain ⟨s2, hs2⟩ : ∃ s, bt (qsT q') = s := ⟨_, rfl⟩
 rw [hs] at HI HSH HPP hsl
 rw [hs2] at HI HSH2
 clear hs hs2 hqn hqn2
 obtain ⟨x0, x1, x2, x3, x4, x5, x6, x7, x8, x9, x10, x11, x12, -⟩ := Px.c13_of HBX.out
 have hxl := HBX.out.lt
 go_wp2_with fail
 refine (HSH.out _ (Fr.refl [] w6)).mono ?_
 rintro e w7 ⟨rfl, hf7⟩
 have HF7 := Hd hf7
 clear hf7 HSH x0 x1 x2 x3 x4 x5 x6 x7 x8 x9 x10 x11 x12 hxl
 go_wp2_with fail
 refine (HPP.out _).mono ?_
 rintro e w8 ⟨x, q0, z0, cs, rfl, hsr, hm, hf8⟩
 obtain ⟨y, hy⟩ := Px.sr_cells hsr
 obtain ⟨zk, zt, zn, zj, za3, za4, za5, za6, za8, za9, za10, za12, zl3, zl4, zl5, zl6, zl8, zl9, zl10, zl12, zc3, zc4, zc5, zc6, zc8, zc9, zc10, zc12, zd⟩ := y
 simp only [Px.Cells13.list] at hy
 subst hy
 have hfz : Fr [] w8 (w8.alloc (.cells #[.int .i64 zk, .string ⟨zt.toArray⟩, .string ⟨zn.toArray⟩, .slice za3 zl3 zc3, .slice za4 zl4 zc4, .slice za5 zl5 zc5, .slice za6 zl6 zc6, .string ⟨zj.toArray⟩, .slice za8 zl8 zc8, .slice za9 zl9 zc9, .slice za10 zl10 zc10, .bool zd, .slice za12 zl12 zc12] 29)) := (Fr.refl [] w8).alloc _
 have HBZ := Hd (Blk.new w8 29 [.int .i64 zk, .string ⟨zt.toArray⟩, .string ⟨zn.toArray⟩, .slice za3 zl3 zc3, .slice za4 zl4 zc4, .slice za5 zl5 zc5, .slice za6 zl6 zc6, .string ⟨zj.toArray⟩, .slice za8 zl8 zc8, .slice za9 zl9 zc9, .slice za10 zl10 zc10, .bool zd, .slice za12 zl12 zc12])
 have HSZ := Hd (Px.SR.keep hfz (by simp) hsr)
 have hg := (HF7.out.trans hf8).trans hfz
 have HBX9 := Hd (HBX.out.keep hg (by simp))
 have HBY9 := Hd (HBY.out.keep hg (by simp))
 have HSX9 := Hd (Px.SR.keep hg (by simp) HSX6.out)
 have HSY9 := Hd (Px.SR.keep hg (by simp) HSY6.out)
 have HG := Hd hg
 have HM := Hd hm
 clear hsr hm hf8 hfz hg HPP HBX HBY HSX6 HSY6 HF7
 go_upto_region 8 with fail
 generalize (w8.alloc (.cells #[.int .i64 zk, .string ⟨zt.toArray⟩, .string ⟨zn.toArray⟩, .slice za3 zl3 zc3, .slice za4 zl4 zc4, .slice za5 zl5 zc5, .slice za6 zl6 zc6, .string ⟨zj.toArray⟩, .slice za8 zl8 zc8, .slice za9 zl9 zc9, .slice za10 zl10 zc10, .bool zd, .slice za12 zl12 zc12] 29)) = w9 at HBZ HSZ HBX9 HBY9 HSX9 HSY9 HG ⊢
 have HSXY : Hid (∀ W, Fr [] w9 W -> Calls Tryz.prog 11 #[.agg #[.int .i64 xk, .string ⟨xt.toArray⟩, .string ⟨xn.toArray⟩, .slice xa3 xl3 xc3, .slice xa4 xl4 xc4, .slice xa5 xl5 xc5, .slice xa6 xl6 xc6, .string ⟨xj.toArray⟩, .slice xa8 xl8 xc8, .slice xa9 xl9 xc9, .slice xa10 xl10 xc10, .bool xd, .slice xa12 xl12 xc12], .agg #[.int .i64 yk, .string ⟨yt.toArray⟩, .string ⟨yn.toArray⟩, .slice ya3 yl3 yc3, .slice ya4 yl4 yc4, .slice ya5 yl5 yc5, .slice ya6 yl6 yc6, .string ⟨yj.toArray⟩, .slice ya8 yl8 yc8, .slice ya9 yl9 yc9, .slice ya10 yl10 yc10, .bool yd, .slice ya12 yl12 yc12]] W fun e w' => (∃ b, e = .returned (.bool b) /\ (b = true ↔ q.st = q'.st)) /\ Fr [] W w') := Hd (fun W hf => Sx.same_s q.st q'.st _ _ W _ _ (Px.SR.keep hf (by simp) HSX9.out) (Px.SR.keep hf (by simp) HSY9.out))
 refine Seq3.wp_region_text (fun i => i != 2 && i != 6 && i != 22) (fun _ => none) (fun i => false) (fun W => Fr [] w9 W) (by kernel_rfl) (by kernel_rfl) ((Fr.refl [] w9).drew) ?_
 (refine Seq3.wpL_quiet rfl rfl rfl (fun K hK => ?_); go_big_quiet_op; (first | refine hK _ ?_ | refine ⟨_, by intros; rfl, hK _ ?_⟩); clear hK K)
 refine Seq3.wpL_held (v := .agg #[.int .i64 yk, .string ⟨yt.toArray⟩, .string ⟨yn.toArray⟩, .slice ya3 yl3 yc3, .slice ya4 yl4 yc4, .slice ya5 yl5 yc5, .slice ya6 yl6 yc6, .string ⟨yj.toArray⟩, .slice ya8 yl8 yc8, .slice ya9 yl9 yc9, .slice ya10 yl10 yc10, .bool yd, .slice ya12 yl12 yc12]) rfl rfl (fun wz hz => ?_) ?_
 ·have l0 := (HBY9.out.keep hz (by simp)).cell 0
  have l1 := (HBY9.out.keep hz (by simp)).cell 1
  have l2 := (HBY9.out.keep hz (by simp)).cell 2
  have l3 := (HBY9.out.keep hz (by simp)).cell 3
  have l4 := (HBY9.out.keep hz (by simp)).cell 4
  have l5 := (HBY9.out.keep hz (by simp)).cell 5
  have l6 := (HBY9.out.keep hz (by simp)).cell 6
  have l7 := (HBY9.out.keep hz (by simp)).cell 7
  have l8 := (HBY9.out.keep hz (by simp)).cell 8
  have l9 := (HBY9.out.keep hz (by simp)).cell 9
  have l10 := (HBY9.out.keep hz (by simp)).cell 10
  have l11 := (HBY9.out.keep hz (by simp)).cell 11
  have l12 := (HBY9.out.keep hz (by simp)).cell 12
  simp [go_sem, execOp, l0, l1, l2, l3, l4, l5, l6, l7, l8, l9, l10, l11, l12]
 simp only [Act.put, List.setIfInBounds_toArray, List.set_cons_succ, List.set_cons_zero]
 refine Seq3.wpL_call rfl rfl (by first | kernel_rfl | simp [go_sem, execOp]) (HSH2.out _ (HG.out.trans (Fr.refl [] w9).drew)) ?_
 rintro e w10 ⟨rfl, hf10⟩
 have HF10 := Hd ((Fr.drew (Fr.refl [] w9)).trans hf10)
 clear hf10
 refine ⟨_, rfl, HF10.out, ?_⟩
 simp only [Act.put, List.setIfInBounds_toArray, List.set_cons_succ, List.set_cons_zero]
 refine Seq3.wpL_held (v := .bool (s.toList == s2.toList)) rfl rfl (fun wz hz => ?_) ?_
 ·simp [go_sem, execOp]
 simp only [Act.put, List.setIfInBounds_toArray, List.set_cons_succ, List.set_cons_zero]
 refine Seq3.wpL_held (v := .agg #[.int .i64 xk, .string ⟨xt.toArray⟩, .string ⟨xn.toArray⟩, .slice xa3 xl3 xc3, .slice xa4 xl4 xc4, .slice xa5 xl5 xc5, .slice xa6 xl6 xc6, .string ⟨xj.toArray⟩, .slice xa8 xl8 xc8, .slice xa9 xl9 xc9, .slice xa10 xl10 xc10, .bool xd, .slice xa12 xl12 xc12]) rfl rfl (fun wz hz => ?_) ?_
 ·have l0 := (HBX9.out.keep hz (by simp)).cell 0
  have l1 := (HBX9.out.keep hz (by simp)).cell 1
  have l2 := (HBX9.out.keep hz (by simp)).cell 2
  have l3 := (HBX9.out.keep hz (by simp)).cell 3
  have l4 := (HBX9.out.keep hz (by simp)).cell 4
  have l5 := (HBX9.out.keep hz (by simp)).cell 5
  have l6 := (HBX9.out.keep hz (by simp)).cell 6
  have l7 := (HBX9.out.keep hz (by simp)).cell 7
  have l8 := (HBX9.out.keep hz (by simp)).cell 8
  have l9 := (HBX9.out.keep hz (by simp)).cell 9
  have l10 := (HBX9.out.keep hz (by simp)).cell 10
  have l11 := (HBX9.out.keep hz (by simp)).cell 11
  have l12 := (HBX9.out.keep hz (by simp)).cell 12
  simp [go_sem, execOp, l0, l1, l2, l3, l4, l5, l6, l7, l8, l9, l10, l11, l12]
 simp only [Act.put, List.setIfInBounds_toArray, List.set_cons_succ, List.set_cons_zero]
 refine Seq3.wpL_held (v := .agg #[.int .i64 yk, .string ⟨yt.toArray⟩, .string ⟨yn.toArray⟩, .slice ya3 yl3 yc3, .slice ya4 yl4 yc4, .slice ya5 yl5 yc5, .slice ya6 yl6 yc6, .string ⟨yj.toArray⟩, .slice ya8 yl8 yc8, .slice ya9 yl9 yc9, .slice ya10 yl10 yc10, .bool yd, .slice ya12 yl12 yc12]) rfl rfl (fun wz hz => ?_) ?_
 ·have l0 := (HBY9.out.keep hz (by simp)).cell 0
  have l1 := (HBY9.out.keep hz (by simp)).cell 1
  have l2 := (HBY9.out.keep hz (by simp)).cell 2
  have l3 := (HBY9.out.keep hz (by simp)).cell 3
  have l4 := (HBY9.out.keep hz (by simp)).cell 4
  have l5 := (HBY9.out.keep hz (by simp)).cell 5
  have l6 := (HBY9.out.keep hz (by simp)).cell 6
  have l7 := (HBY9.out.keep hz (by simp)).cell 7
  have l8 := (HBY9.out.keep hz (by simp)).cell 8
  have l9 := (HBY9.out.keep hz (by simp)).cell 9
  have l10 := (HBY9.out.keep hz (by simp)).cell 10
  have l11 := (HBY9.out.keep hz (by simp)).cell 11
  have l12 := (HBY9.out.keep hz (by simp)).cell 12
  simp [go_sem, execOp, l0, l1, l2, l3, l4, l5, l6, l7, l8, l9, l10, l11, l12]
 simp only [Act.put, List.setIfInBounds_toArray, List.set_cons_succ, List.set_cons_zero]
 refine Seq3.wpL_call rfl rfl (by first | kernel_rfl | simp [go_sem, execOp]) (HSXY.out _ HF10.out) ?_
 rintro e w11 ⟨⟨bb, rfl, hbb⟩, hf11⟩
 have HF11 := Hd (HF10.out.trans hf11)
 have hss := HI.out bb hbb
 clear hf11 hbb
 refine ⟨_, rfl, HF11.out, ?_⟩
 simp only [Act.put, List.setIfInBounds_toArray, List.set_cons_succ, List.set_cons_zero]
 refine Seq3.wpL_held (v := .bool true) rfl rfl (fun wz hz => ?_) ?_
 ·simp [go_sem, execOp, hss]
 simp only [Act.put, List.setIfInBounds_toArray, List.set_cons_succ, List.set_cons_zero]
 (refine Seq3.wpL_quiet rfl rfl rfl (fun K hK => ?_); go_big_quiet_op; (first | refine hK _ ?_ | refine ⟨_, by intros; rfl, hK _ ?_⟩); clear hK K)
 clear hss
 by_cases h400 : (qsT q).length <= 400
 case pos =>
  have hpa := HPA.out
  rw [if_pos h400] at hpa
  have hm := HM.out
  skip
  rw [hpa] at hm
  obtain ⟨rfl, rfl, rfl⟩ := hm
  have HXZ : Hid (∀ W, Fr [] w9 W -> Calls Tryz.prog 11 #[.agg #[.int .i64 xk, .string ⟨xt.toArray⟩, .string ⟨xn.toArray⟩, .slice xa3 xl3 xc3, .slice xa4 xl4 xc4, .slice xa5 xl5 xc5, .slice xa6 xl6 xc6, .string ⟨xj.toArray⟩, .slice xa8 xl8 xc8, .slice xa9 xl9 xc9, .slice xa10 xl10 xc10, .bool xd, .slice xa12 xl12 xc12], .agg #[.int .i64 zk, .string ⟨zt.toArray⟩, .string ⟨zn.toArray⟩, .slice za3 zl3 zc3, .slice za4 zl4 zc4, .slice za5 zl5 zc5, .slice za6 zl6 zc6, .string ⟨zj.toArray⟩, .slice za8 zl8 zc8, .slice za9 zl9 zc9, .slice za10 zl10 zc10, .bool zd, .slice za12 zl12 zc12]] W fun e w' => e = .returned (.bool true) /\ Fr [] W w') := Hd (fun W hf => (Sx.same_s q.st q.st _ _ W _ _ (Px.SR.keep hf (by simp) HSX9.out) (Px.SR.keep hf (by simp) HSZ.out)).mono (fun e w' h => by obtain ⟨⟨b, rfl, hb⟩, hf⟩ := h; exact ⟨by rw [hb.2 rfl], hf⟩))
  (refine Seq3.wpL_quiet rfl rfl rfl (fun K hK => ?_); go_big_quiet_op; (first | refine hK _ ?_ | refine ⟨_, by intros; rfl, hK _ ?_⟩); clear hK K)
  refine Seq3.wpL_held (v := .bool false) rfl rfl (fun wz hz => ?_) ?_
  ·simp [go_sem, execOp]
  simp only [Act.put, List.setIfInBounds_toArray, List.set_cons_succ, List.set_cons_zero]
  (refine Seq3.wpL_quiet rfl rfl rfl (fun K hK => ?_); go_big_quiet_op; (first | refine hK _ ?_ | refine ⟨_, by intros; rfl, hK _ ?_⟩); clear hK K)
  refine Seq3.wpL_skip (HF11.out) rfl ?_
  simp only [Act.put, List.setIfInBounds_toArray, List.set_cons_succ, List.set_cons_zero]
  refine Seq3.wpL_skip (HF11.out) rfl ?_
  simp only [Act.put, List.setIfInBounds_toArray, List.set_cons_succ, List.set_cons_zero]
  refine Seq3.wpL_skip (HF11.out) rfl ?_
  simp only [Act.put, List.setIfInBounds_toArray, List.set_cons_succ, List.set_cons_zero]
  refine Seq3.wpL_held (v := .bool false) rfl rfl (fun wz hz => ?_) ?_
  ·simp [go_sem, execOp]
  simp only [Act.put, List.setIfInBounds_toArray, List.set_cons_succ, List.set_cons_zero]
  iterate 2 (refine Seq3.wpL_quiet rfl rfl rfl (fun K hK => ?_); go_big_quiet_op; (first | refine hK _ ?_ | refine ⟨_, by intros; rfl, hK _ ?_⟩); clear hK K)
  refine Seq3.wpL_held (v := .bool true) rfl rfl (fun wz hz => ?_) ?_
  ·simp [go_sem, execOp]
  simp only [Act.put, List.setIfInBounds_toArray, List.set_cons_succ, List.set_cons_zero]
  (refine Seq3.wpL_quiet rfl rfl rfl (fun K hK => ?_); go_big_quiet_op; (first | refine hK _ ?_ | refine ⟨_, by intros; rfl, hK _ ?_⟩); clear hK K)
  refine Seq3.wpL_held (v := .agg #[.int .i64 xk, .string ⟨xt.toArray⟩, .string ⟨xn.toArray⟩, .slice xa3 xl3 xc3, .slice xa4 xl4 xc4, .slice xa5 xl5 xc5, .slice xa6 xl6 xc6, .string ⟨xj.toArray⟩, .slice xa8 xl8 xc8, .slice xa9 xl9 xc9, .slice xa10 xl10 xc10, .bool xd, .slice xa12 xl12 xc12]) rfl rfl (fun wz hz => ?_) ?_
  ·have l0 := (HBX9.out.keep hz (by simp)).cell 0
   have l1 := (HBX9.out.keep hz (by simp)).cell 1
   have l2 := (HBX9.out.keep hz (by simp)).cell 2
   have l3 := (HBX9.out.keep hz (by simp)).cell 3
   have l4 := (HBX9.out.keep hz (by simp)).cell 4
   have l5 := (HBX9.out.keep hz (by simp)).cell 5
   have l6 := (HBX9.out.keep hz (by simp)).cell 6
   have l7 := (HBX9.out.keep hz (by simp)).cell 7
   have l8 := (HBX9.out.keep hz (by simp)).cell 8
   have l9 := (HBX9.out.keep hz (by simp)).cell 9
   have l10 := (HBX9.out.keep hz (by simp)).cell 10
   have l11 := (HBX9.out.keep hz (by simp)).cell 11
   have l12 := (HBX9.out.keep hz (by simp)).cell 12
   simp [go_sem, execOp, l0, l1, l2, l3, l4, l5, l6, l7, l8, l9, l10, l11, l12]
  simp only [Act.put, List.setIfInBounds_toArray, List.set_cons_succ, List.set_cons_zero]
  refine Seq3.wpL_held (v := .agg #[.int .i64 zk, .string ⟨zt.toArray⟩, .string ⟨zn.toArray⟩, .slice za3 zl3 zc3, .slice za4 zl4 zc4, .slice za5 zl5 zc5, .slice za6 zl6 zc6, .string ⟨zj.toArray⟩, .slice za8 zl8 zc8, .slice za9 zl9 zc9, .slice za10 zl10 zc10, .bool zd, .slice za12 zl12 zc12]) rfl rfl (fun wz hz => ?_) ?_
  ·have l0 := (HBZ.out.keep hz (by simp)).cell 0
   have l1 := (HBZ.out.keep hz (by simp)).cell 1
   have l2 := (HBZ.out.keep hz (by simp)).cell 2
   have l3 := (HBZ.out.keep hz (by simp)).cell 3
   have l4 := (HBZ.out.keep hz (by simp)).cell 4
   have l5 := (HBZ.out.keep hz (by simp)).cell 5
   have l6 := (HBZ.out.keep hz (by simp)).cell 6
   have l7 := (HBZ.out.keep hz (by simp)).cell 7
   have l8 := (HBZ.out.keep hz (by simp)).cell 8
   have l9 := (HBZ.out.keep hz (by simp)).cell 9
   have l10 := (HBZ.out.keep hz (by simp)).cell 10
   have l11 := (HBZ.out.keep hz (by simp)).cell 11
   have l12 := (HBZ.out.keep hz (by simp)).cell 12
   simp [go_sem, execOp, l0, l1, l2, l3, l4, l5, l6, l7, l8, l9, l10, l11, l12]
  simp only [Act.put, List.setIfInBounds_toArray, List.set_cons_succ, List.set_cons_zero]
  refine Seq3.wpL_call rfl rfl (by first | kernel_rfl | simp [go_sem, execOp]) (HXZ.out _ HF11.out) ?_
  rintro e w12 ⟨rfl, hf12⟩
  have HF12 := Hd (HF11.out.trans hf12)
  clear hf12
  refine ⟨_, rfl, HF12.out, ?_⟩
  simp only [Act.put, List.setIfInBounds_toArray, List.set_cons_succ, List.set_cons_zero]
  refine Seq3.wpL_held (v := .bool true) rfl rfl (fun wz hz => ?_) ?_
  ·simp [go_sem, execOp]
  simp only [Act.put, List.setIfInBounds_toArray, List.set_cons_succ, List.set_cons_zero]
  refine Seq3.wpL_held (v := .bool true) rfl rfl (fun wz hz => ?_) ?_
  ·simp [go_sem, execOp]
  simp only [Act.put, List.setIfInBounds_toArray, List.set_cons_succ, List.set_cons_zero]
  refine Seq3.wpL_held (v := .bool true) rfl rfl (fun wz hz => ?_) ?_
  ·simp [go_sem, execOp]
  simp only [Act.put, List.setIfInBounds_toArray, List.set_cons_succ, List.set_cons_zero]
  (refine Seq3.wpL_quiet rfl rfl rfl (fun K hK => ?_); go_big_quiet_op; (first | refine hK _ ?_ | refine ⟨_, by intros; rfl, hK _ ?_⟩); clear hK K)
  refine Seq3.wpL_nil ?_
  go_wp2_with fail
  go_ret
  exact ⟨rfl, HF6.out.trans (HG.out.trans HF12.out)⟩
 case neg =>
  have hpa := HPA.out
  rw [if_neg h400] at hpa
  have hm := HM.out
  rw [hpa] at hm
  obtain ⟨rfl, rfl, hst⟩ := hm
  have hsz : (400 : Int) < s.size := by omega
  (refine Seq3.wpL_quiet rfl rfl rfl (fun K hK => ?_); go_big_quiet_op; (first | refine hK _ ?_ | refine ⟨_, by intros; rfl, hK _ ?_⟩); clear hK K)
  refine Seq3.wpL_held (v := .bool true) rfl rfl (fun wz hz => ?_) ?_
  ·simp [go_sem, execOp]
  simp only [Act.put, List.setIfInBounds_toArray, List.set_cons_succ, List.set_cons_zero]
  iterate 2 (refine Seq3.wpL_quiet rfl rfl rfl (fun K hK => ?_); go_big_quiet_op; (first | refine hK _ ?_ | refine ⟨_, by intros; rfl, hK _ ?_⟩); clear hK K)
  refine Seq3.wpL_held (v := .int .i64 s.size) rfl rfl (fun wz hz => ?_) ?_
  ·simp [go_sem, execOp]
  simp only [Act.put, List.setIfInBounds_toArray, List.set_cons_succ, List.set_cons_zero]
  refine Seq3.wpL_held (v := .bool true) rfl rfl (fun wz hz => ?_) ?_
  ·simp [go_sem, execOp, hsz]
  simp only [Act.put, List.setIfInBounds_toArray, List.set_cons_succ, List.set_cons_zero]
  refine Seq3.wpL_held (v := .bool true) rfl rfl (fun wz hz => ?_) ?_
  ·simp [go_sem, execOp]
  simp only [Act.put, List.setIfInBounds_toArray, List.set_cons_succ, List.set_cons_zero]
  (refine Seq3.wpL_quiet rfl rfl rfl (fun K hK => ?_); go_big_quiet_op; (first | refine hK _ ?_ | refine ⟨_, by intros; rfl, hK _ ?_⟩); clear hK K)
  refine Seq3.wpL_skip (HF11.out) rfl ?_
  simp only [Act.put, List.setIfInBounds_toArray, List.set_cons_succ, List.set_cons_zero]
  refine Seq3.wpL_skip (HF11.out) rfl ?_
  simp only [Act.put, List.setIfInBounds_toArray, List.set_cons_succ, List.set_cons_zero]
  refine Seq3.wpL_skip (HF11.out) rfl ?_
  simp only [Act.put, List.setIfInBounds_toArray, List.set_cons_succ, List.set_cons_zero]
  refine Seq3.wpL_skip (HF11.out) rfl ?_
  simp only [Act.put, List.setIfInBounds_toArray, List.set_cons_succ, List.set_cons_zero]
  refine Seq3.wpL_skip (HF11.out) rfl ?_
  simp only [Act.put, List.setIfInBounds_toArray, List.set_cons_succ, List.set_cons_zero]
  refine Seq3.wpL_skip (HF11.out) rfl ?_
  simp only [Act.put, List.setIfInBounds_toArray, List.set_cons_succ, List.set_cons_zero]
  refine Seq3.wpL_skip (HF11.out) rfl ?_
  simp only [Act.put, List.setIfInBounds_toArray, List.set_cons_succ, List.set_cons_zero]
  refine Seq3.wpL_held (v := .bool true) rfl rfl (fun wz hz => ?_) ?_
  ·simp [go_sem, execOp]
  simp only [Act.put, List.setIfInBounds_toArray, List.set_cons_succ, List.set_cons_zero]
  refine Seq3.wpL_held (v := .bool true) rfl rfl (fun wz hz => ?_) ?_
  ·simp [go_sem, execOp]
  simp only [Act.put, List.setIfInBounds_toArray, List.set_cons_succ, List.set_cons_zero]
  (refine Seq3.wpL_quiet rfl rfl rfl (fun K hK => ?_); go_big_quiet_op; (first | refine hK _ ?_ | refine ⟨_, by intros; rfl, hK _ ?_⟩); clear hK K)
  refine Seq3.wpL_nil ?_
  go_wp2_with fail
  go_ret
  exact ⟨rfl, HF6.out.trans (HG.out.trans HF11.out)⟩
end Sb
end Go.Proofs.YtmdnhinpaflamaaGreatDoor
