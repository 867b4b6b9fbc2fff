/- parse: the law ParseShown: what is shown is parsed as it was. -/
import Derived.Test.YtmdnhinpaflamaaGreatDoorGst
import Derived.Test.YtmdnhinpaflamaaGreatDoorShE
import Derived.Test.YtmdnhinpaflamaaGreatDoorSq
import Derived.Test.YtmdnhinpaflamaaGreatDoorPaF
import Derived.Test.YtmdnhinpaflamaaGreatDoorLin
import Derived.Deep.RegionHeld3
namespace Go.Proofs.YtmdnhinpaflamaaGreatDoor
open Go.RowKit
set_option linter.unusedVariables false
set_option linter.unusedSimpArgs false
namespace Gn
open PM (Ex B)
open Px (SR StR)
open CM (Pr Qs)
open Sh (bt bt_cat bt_size qsT)
set_option maxRecDepth 1000000 in
set_option maxHeartbeats 16000000 in
theorem parseshown_law (a : Option Addr) (len cap : Nat) (w : World) (m : Int) (hm : w.cell? ⟨1, 0, none⟩ = some (.int .i64 m)) (h00 : 1 < w.heap.size) (hlen : len <= maxLen)
  (h : ∀ j, j < len -> ∃ (g off k : Nat), a = some ⟨g, off, none⟩ /\ g < w.heap.size /\ k <= 255 /\ w.cell? ⟨g, off + j, none⟩ = some (.int .u8 k)) :
  Calls Tryz.prog 4 #[.slice a len cap] w fun e w' => e = .returned (.bool true) /\ Fr [] w w' := by
 have HB := Hd (Px.begun_any w m hm h00)
 have HM := Hd hm
 have HH := Hd h
 clear hm h
 go_enter Tryz.func4, Tryz.ntmps4
 go_wp2_with fail
 refine HB.out.mono ?_
 rintro e w1 ⟨rfl, hf1⟩
 have HF1 := Hd hf1
 clear hf1 HB
 by_cases hl : len > 80
 ·have hl' : (80 : Int) < len := by omega
  go_wp2_with fail
  go_ret
  exact ⟨rfl, HF1.out⟩
 have hl' : (len : Int) <= 80 := by omega
 go_wp2_with fail
 refine (made_any w1 a len cap (by omega) (fun j hj => ?_)).mono ?_
 ·obtain ⟨g, off, k, e1, e2, e3, e4⟩ := HH.out j hj
  exact ⟨g, off, k, e1, Nat.lt_of_lt_of_le e2 HF1.out.size, e3, (HF1.out.cell (p := ⟨g, off + j, none⟩) e2 (by simp)).trans e4⟩
 rintro e w2 ⟨rfl, hk2, hf2⟩
 have HK2 := Hd hk2
 have HF2 := Hd (HF1.out.trans hf2)
 clear hk2 hf2 HH
 go_wp2_with fail
 refine (stmt_any w1.heap.size w2 HK2.out).mono ?_
 rintro e w3 ⟨⟨q, hok, hst⟩, hk3, hf3⟩
 have HF3 : Hid (Fr [] w w3) := Hd (HF2.out.trans' hf3 (fun i hi => by simp at hi; have := HF1.out.size; omega))
 obtain ⟨kind, table, name, join, a3, a4, a5, a6, a8, a9, a10, a12, l3, l4, l5, l6, l8, l9, l10, l12, c3, c4, c5, c6, c8, c9, c10, c12, desc, rfl, hsr⟩ := Px.st_cells hst
 have HSR := Hd hsr
 have HOK := Hd hok
 clear hst hsr hok hk3 hf3 HK2
 obtain ⟨s, hs⟩ : ∃ s, bt (qsT q) = s := ⟨_, rfl⟩
 have hqn : (qsT q).length <= 9000 := by have := HOK.out.len; rwa [Sh.qs_text] at this
 have hss : (s.size : Int) <= 9000 := by rw [<- hs, bt_size]; omega
 have hsl : s.size = (qsT q).length := by rw [<- hs, bt_size]
 have HE : Hid (∀ W, Fr [] w3 W -> Calls Tryz.prog 14 #[.agg #[.int .i64 kind, .string ⟨table.toArray⟩, .string ⟨name.toArray⟩, .slice a3 l3 c3, .slice a4 l4 c4, .slice a5 l5 c5, .slice a6 l6 c6, .string ⟨join.toArray⟩, .slice a8 l8 c8, .slice a9 l9 c9, .slice a10 l10 c10, .bool desc, .slice a12 l12 c12]] W fun e w' => e = .returned (.string s) /\ Fr [] W w') := Hd (fun W hf => by
  have := Sh.show_any q 64 HOK.out.1 (by omega) _ W _ (Px.SR.keep hf (by simp) HSR.out)
  rwa [hs] at this)
 have HS := Hd hs
 have HQN := Hd hqn
 have HSL := Hd hsl
 clear hs hqn hsl
 go_wp2_with fail
 refine (HE.out _ ((Fr.refl [] w3).alloc _)).mono ?_
 rintro e w4 ⟨rfl, hf4⟩
 have hfx := ((Fr.refl [] w3).alloc (.cells #[.int .i64 kind, .string ⟨table.toArray⟩, .string ⟨name.toArray⟩, .slice a3 l3 c3, .slice a4 l4 c4, .slice a5 l5 c5, .slice a6 l6 c6, .string ⟨join.toArray⟩, .slice a8 l8 c8, .slice a9 l9 c9, .slice a10 l10 c10, .bool desc, .slice a12 l12 c12] 29)).trans hf4
 have HSB := Hd ((Blk.new w3 29 [.int .i64 kind, .string ⟨table.toArray⟩, .string ⟨name.toArray⟩, .slice a3 l3 c3, .slice a4 l4 c4, .slice a5 l5 c5, .slice a6 l6 c6, .string ⟨join.toArray⟩, .slice a8 l8 c8, .slice a9 l9 c9, .slice a10 l10 c10, .bool desc, .slice a12 l12 c12]).keep hf4 (by simp))
 have HSR4 := Hd (Px.SR.keep hfx (by simp) HSR.out)
 have HF4 := Hd (HF3.out.trans hfx)
 clear hfx hf4 HSR HE
 have hmW := (HF4.out.cell (p := ⟨1, 0, none⟩) h00 (by simp)).trans HM.out
 have h0W : 1 < w4.heap.size := Nat.lt_of_lt_of_le h00 HF4.out.size
 have HP := Hd (Px.parse_told (qsT q) w4 m hmW h0W (by have := HQN.out; omega))
 clear hmW h0W
 by_cases h400 : (400 : Int) < s.size
 ·have HPL : Hid (Calls Tryz.prog 9 #[.string s] w4 fun e w' => ∃ c : Px.Cells13, e = .returned (.tuple #[.agg #[.int .i64 c.kind, .string ⟨c.table.toArray⟩, .string ⟨c.name.toArray⟩, .slice c.a3 c.l3 c.c3, .slice c.a4 c.l4 c.c4, .slice c.a5 c.l5 c.c5, .slice c.a6 c.l6 c.c6, .string ⟨c.join.toArray⟩, .slice c.a8 c.l8 c.c8, .slice c.a9 c.l9 c.c9, .slice c.a10 c.l10 c.c10, .bool c.desc, .slice c.a12 c.l12 c.c12], .int .i64 0, .int .i64 7]) /\ Fr [] w4 w') := Hd (by
   rw [<- HS.out]
   refine HP.out.mono ?_
   rintro e w' ⟨c, rfl, _, hf⟩
   rw [CM.parse_long (by have := HSL.out; omega)]
   exact ⟨c, rfl, hf⟩)
  clear HP
  go_wp2_with fail
  refine HPL.out.mono ?_
  rintro e w5 ⟨c, rfl, hf5⟩
  have HF5 := Hd (HF4.out.trans hf5)
  clear hf5 HPL
  obtain ⟨kind', table', name', join', a3', a4', a5', a6', a8', a9', a10', a12', l3', l4', l5', l6', l8', l9', l10', l12', c3', c4', c5', c6', c8', c9', c10', c12', desc'⟩ := c
  go_wp2_with fail
  go_ret
  exact ⟨rfl, HF5.out.alloc _⟩
 ·have h400' : (s.size : Int) <= 400 := by omega
  have HPS : Hid (Calls Tryz.prog 9 #[.string s] w4 fun e w' => ∃ (c : Px.Cells13) (z : Int), e = .returned (.tuple #[.agg #[.int .i64 c.kind, .string ⟨c.table.toArray⟩, .string ⟨c.name.toArray⟩, .slice c.a3 c.l3 c.c3, .slice c.a4 c.l4 c.c4, .slice c.a5 c.l5 c.c5, .slice c.a6 c.l6 c.c6, .string ⟨c.join.toArray⟩, .slice c.a8 c.l8 c.c8, .slice c.a9 c.l9 c.c9, .slice c.a10 c.l10 c.c10, .bool c.desc, .slice c.a12 c.l12 c.c12], .int .i64 z, .int .i64 0]) /\ SR (fun b => w4.heap.size <= b) w' q.st c.list /\ Fr [] w4 w') := Hd (by
   have hq : PM.parse (qsT q) = .inr q.st := by rw [<- Sh.qs_text]; exact CM.parse_shown HOK.out.1 (by rw [Sh.qs_text]; have := HSL.out; omega)
   rw [<- HS.out]
   refine HP.out.mono ?_
   rintro e w' ⟨c, rfl, hs, hf⟩
   have hs := hs _ hq
   rw [hq]
   exact ⟨c, _, rfl, hs, hf⟩)
  clear HP
  go_wp2_with fail
  refine HPS.out.mono ?_
  rintro e w5 ⟨c, z, rfl, hs5, hf5⟩
  have HF5 := Hd (HF4.out.trans hf5)
  have HSB5 := Hd (HSB.out.keep hf5 (by simp))
  have HSR5 := Hd (Px.SR.keep hf5 (by simp) HSR4.out)
  have HS5 := Hd hs5
  clear hs5 hf5 HPS HSB HSR4
  obtain ⟨kind', table', name', join', a3', a4', a5', a6', a8', a9', a10', a12', l3', l4', l5', l6', l8', l9', l10', l12', c3', c4', c5', c6', c8', c9', c10', c12', desc'⟩ := c
  have HSB6 := Hd (HSB5.out.alloc (.cells #[.int .i64 kind', .string ⟨table'.toArray⟩, .string ⟨name'.toArray⟩, .slice a3' l3' c3', .slice a4' l4' c4', .slice a5' l5' c5', .slice a6' l6' c6', .string ⟨join'.toArray⟩, .slice a8' l8' c8', .slice a9' l9' c9', .slice a10' l10' c10', .bool desc', .slice a12' l12' c12'] 29))
  obtain ⟨k0, k1, k2, k3, k4, k5, k6, k7, k8, k9, k10, k11, k12, f0, f1, f2, f3, f4, f5, f6, f7, f8, f9, f10, f11, f12⟩ := Px.c13_of HSB5.out
  have hlb := HSB5.out.lt
  have hnb : ¬ w3.heap.size = w5.heap.size := by omega
  go_wp2_with fail
  refine (Sx.same_q q.st _ _ _ _ _ (Px.SR.keep ((Fr.refl [] w5).alloc _) (by simp) HS5.out) (Px.SR.keep ((Fr.refl [] w5).alloc _) (by simp) HSR5.out)).mono ?_
  rintro e w6 ⟨rfl, hf6⟩
  have HF6 := Hd ((HF5.out.alloc _).trans hf6)
  clear hf6
  go_wp2_with fail
  go_ret
  exact ⟨rfl, HF6.out⟩
end Gn
end Go.Proofs.YtmdnhinpaflamaaGreatDoor
