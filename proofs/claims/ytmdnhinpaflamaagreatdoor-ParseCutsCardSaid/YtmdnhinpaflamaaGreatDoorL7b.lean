/- parse: the law ParseShown: what is shown is parsed as it was. -/
import Derived.Test.YtmdnhinpaflamaaGreatDoorGst
import Derived.Test.YtmdnhinpaflamaaGreatDoorShE
import Derived.Test.YtmdnhinpaflamaaGreatDoorPaF
import Derived.Test.YtmdnhinpaflamaaGreatDoorL7p
import Derived.Test.YtmdnhinpaflamaaGreatDoorLxD
import Derived.Deep.RegionHeld3
namespace Go.Proofs.YtmdnhinpaflamaaGreatDoor
open Go.RowKit
set_option linter.unusedVariables false
set_option linter.unusedSimpArgs false
namespace Gn
open PM (Ex B)
open Px (SR StR)
open CM (Pr Qs)
open Sh (bt bt_cat bt_size qsT)
theorem toks_at {l : List LexM.Tok} {i : Nat} {t : LexM.Tok} (h : l[i]? = some t) : (Lx.toksC l).getD (i * 4 + 3) undef = .int .i64 t.pos := by
 induction l generalizing i with
 |nil => simp at h
 |cons x l ih =>
  show (Lx.tokC x ++ Lx.toksC l).getD (i * 4 + 3) undef = _
  cases i with
  |zero =>
   cases h
   rfl
  |succ i =>
   have := ih (by simpa using h)
   rw [List.getD_eq_getElem?_getD] at this ⊢
   rw [List.getElem?_append_right (by show 4 <= _; omega), show (i + 1) * 4 + 3 - (Lx.tokC x).length = i * 4 + 3 by show (i + 1) * 4 + 3 - 4 = _; omega]
   exact this
set_option maxRecDepth 1000000 in
set_option maxHeartbeats 16000000 in
theorem parsecuts_law (a : Option Addr) (len cap : Nat) (cut : Int) (hc0 : 0 <= cut) (hc255 : cut <= 255) (w : World) (m : Int) (hm : w.cell? ⟨1, 0, none⟩ = some (.int .i64 m)) (h00 : 1 < w.heap.size) (hlen : len <= maxLen)
  (h : ∀ j, j < len -> ∃ (g off k : Nat), a = some ⟨g, off, none⟩ /\ g < w.heap.size /\ k <= 255 /\ w.cell? ⟨g, off + j, none⟩ = some (.int .u8 k)) :
  Calls Tryz.prog 6 #[.slice a len cap, .int .u8 cut] w fun e w' => e = .returned (.bool true) /\ Fr [] w w' := by
 have HB := Hd (Px.begun_any w m hm h00)
 have HM := Hd hm
 have HH := Hd h
 clear hm h
 go_enter Tryz.func6, Tryz.ntmps6
 go_wp2_with fail
 refine HB.out.mono ?_
 rintro e w1 ⟨rfl, hf1⟩
 have HF1 := Hd hf1
 clear hf1 HB
 by_cases hl : len > 60
 ·have hl' : (60 : Int) < len := by omega
  go_wp2_with fail
  go_ret
  exact ⟨rfl, HF1.out⟩
 have hl' : (len : Int) <= 60 := by omega
 go_wp2_with fail
 refine (made_any w1 a len cap (by omega) (fun j hj => ?_)).mono ?_
 ·obtain ⟨g, off, k, e1, e2, e3, e4⟩ := HH.out j hj
  exact ⟨g, off, k, e1, Nat.lt_of_lt_of_le e2 HF1.out.size, e3, (HF1.out.cell (p := ⟨g, off + j, none⟩) e2 (by simp)).trans e4⟩
 rintro e w2 ⟨rfl, hk2, hf2⟩
 have HK2 := Hd hk2
 have HF2 := Hd (HF1.out.trans hf2)
 clear hk2 hf2 HH
 go_wp2_with fail
 refine (stmt_any w1.heap.size w2 HK2.out).mono ?_
 rintro e w3 ⟨⟨q, hok, hst⟩, hk3, hf3⟩
 have HF3 : Hid (Fr [] w w3) := Hd (HF2.out.trans' hf3 (fun i hi => by simp at hi; have := HF1.out.size; omega))
 obtain ⟨kind, table, name, join, a3, a4, a5, a6, a8, a9, a10, a12, l3, l4, l5, l6, l8, l9, l10, l12, c3, c4, c5, c6, c8, c9, c10, c12, desc, rfl, hsr⟩ := Px.st_cells hst
 have HSR := Hd hsr
 have HOK := Hd hok
 clear hst hsr hok hk3 hf3 HK2
 obtain ⟨s, hs⟩ : ∃ s, bt (qsT q) = s := ⟨_, rfl⟩
 have hqn : (qsT q).length <= 9000 := by have := HOK.out.len; rwa [Sh.qs_text] at this
 have hss : (s.size : Int) <= 9000 := by rw [<- hs, bt_size]; omega
 have hsl : s.size = (qsT q).length := by rw [<- hs, bt_size]
 have HE : Hid (∀ W, Fr [] w3 W -> Calls Tryz.prog 14 #[.agg #[.int .i64 kind, .string ⟨table.toArray⟩, .string ⟨name.toArray⟩, .slice a3 l3 c3, .slice a4 l4 c4, .slice a5 l5 c5, .slice a6 l6 c6, .string ⟨join.toArray⟩, .slice a8 l8 c8, .slice a9 l9 c9, .slice a10 l10 c10, .bool desc, .slice a12 l12 c12]] W fun e w' => e = .returned (.string s) /\ Fr [] W w') := Hd (fun W hf => by
  have := Sh.show_any q 64 HOK.out.1 (by omega) _ W _ (Px.SR.keep hf (by simp) HSR.out)
  rwa [hs] at this)
 have HS := Hd hs
 have HQN := Hd hqn
 have HSL := Hd hsl
 clear hs hqn hsl
 go_wp2_with fail
 refine (HE.out _ (Fr.refl [] w3)).mono ?_
 rintro e w4 ⟨rfl, hf4⟩
 have HF4 := Hd (HF3.out.trans hf4)
 clear hf4 HSR HE
 have HLX := Hd (Lx.doclex_any (qsT q) w4 (by have := HQN.out; omega))
 have HL : Hid (Calls Tryz.prog 15 #[.string s] w4 fun e w' => Lx.DxR w4 w' e (LexM.lex (qsT q))) := Hd (by rw [<- HS.out]; exact HLX.out)
 clear HLX
 by_cases h400 : (400 : Int) < s.size
 ·have hlx : LexM.lex (qsT q) = .inl (0, 7) := Pc.lex_long (by have := HSL.out; omega)
  rw [hlx] at HL
  clear hlx
  go_wp2_with fail
  refine HL.out.mono ?_
  rintro e w5 ⟨rfl, hf5⟩
  have HF5 := Hd (HF4.out.trans hf5)
  clear hf5 HL
  go_wp2_with fail
  go_ret
  exact ⟨rfl, HF5.out⟩
 have h400' : (s.size : Int) <= 400 := by omega
 have hlx : LexM.lex (qsT q) = .inr (Pc.toks 0 q.line ++ [⟨6, [], 0, (qsT q).length⟩]) := by
  have h := Pc.lex_line q.line 0 (CM.qs_fits HOK.out.1) (by rw [Sh.qs_text]; simp [Pc.blanks]; have := HSL.out; omega)
  simp only [Pc.blanks, List.replicate_zero, List.append_nil] at h
  rw [Sh.qs_text] at h
  exact h
 rw [hlx] at HL
 clear hlx
 obtain ⟨tk, htk⟩ : ∃ tk, Pc.toks 0 q.line ++ [⟨6, [], 0, (qsT q).length⟩] = tk := ⟨_, rfl⟩
 rw [htk] at HL
 have HTK := Hd htk
 obtain ⟨N, HN, hN1⟩ : ∃ N, Hid (tk.length = N) /\ 1 <= N := ⟨tk.length, Hd rfl, by rw [<- htk]; simp⟩
 clear htk
 go_wp2_with fail
 refine HL.out.mono ?_
 rintro e w5 ⟨v, rfl, hrow, hf5⟩
 rw [HN.out] at hrow
 have HF5 := Hd (HF4.out.trans hf5)
 clear hf5 HL
 obtain ⟨g, off, cap, rfl, hcap⟩ : ∃ g off cap, v = .slice (some ⟨g, off, none⟩) N cap /\ N <= cap := by
  rcases hrow.form with ⟨_, h0, _⟩ | ⟨g, off, cap, rfl, hc, _⟩
  ·omega
  ·exact ⟨g, off, cap, rfl, hc⟩
 have HROW := Hd hrow
 clear hrow
 by_cases h398 : (400 : Int) < s.size + 2
 ·go_wp2_with fail
  go_ret
  exact ⟨rfl, HF5.out⟩
 have h398' : (s.size : Int) <= 398 := by omega
 obtain ⟨ix, hix⟩ : ∃ ix : Nat, cut % (N : Int) = ix := ⟨(cut % (N : Int)).toNat, by have := Int.emod_nonneg cut (show (N : Int) ≠ 0 by omega); omega⟩
 have hixl : ix < N := by have := Int.emod_lt_of_pos cut (show (0 : Int) < N by omega); omega
 have hixl2 : (ix : Int) < N := by omega
 have hix0 : (0 : Int) <= ix := by omega
 have hn0 : ¬ (N : Int) = 0 := by omega
 have hnp : (0 : Int) <= N := by omega
 have HIX := Hd hix
 obtain ⟨t, ht⟩ : ∃ t, tk[ix]? = some t := ⟨_, List.getElem?_eq_getElem (by rw [HN.out]; exact hixl)⟩
 have hcell : w5.cell? ⟨g, off + ix * 4 + 3, none⟩ = some (.int .i64 t.pos) := by
  have hlt : ix * 4 + 3 < (Lx.toksC tk).length := by rw [HROW.out.1]; omega
  rw [Nat.add_assoc, HROW.out.cells _ hlt]
  congr 1
  exact toks_at ht
 obtain ⟨k, hk, hkl, hcut⟩ := CM.parse_cut HOK.out.1 (Sh.qs_text q) (by have := HSL.out; omega) (by rw [HTK.out]; exact ht)
 rw [hk] at hcell
 have HCUT := Hd hcut
 have hks : (k : Int) <= s.size := by have := HSL.out; omega
 clear hcut hk ht hkl
 go_wp2_with fail
 have hmW := (HF5.out.cell (p := ⟨1, 0, none⟩) h00 (by simp)).trans HM.out
 have h0W : 1 < w5.heap.size := Nat.lt_of_lt_of_le h00 HF5.out.size
 have HPC : Hid (Calls Tryz.prog 9 #[.string (s.extract 0 k)] w5 fun e w' => ∃ (c : Px.Cells13) (z ex : Int), e = .returned (.tuple #[.agg #[.int .i64 c.kind, .string ⟨c.table.toArray⟩, .string ⟨c.name.toArray⟩, .slice c.a3 c.l3 c.c3, .slice c.a4 c.l4 c.c4, .slice c.a5 c.l5 c.c5, .slice c.a6 c.l6 c.c6, .string ⟨c.join.toArray⟩, .slice c.a8 c.l8 c.c8, .slice c.a9 c.l9 c.c9, .slice c.a10 c.l10 c.c10, .bool c.desc, .slice c.a12 c.l12 c.c12], .int .i64 z, .int .i64 ex]) /\ (ex = 0 \/ ex = 5 /\ z = k) /\ Fr [] w5 w') := Hd (by
  have hsx : s.extract 0 k = ⟨((qsT q).take k).toArray⟩ := by rw [<- HS.out, show bt (qsT q) = ByteArray.mk (qsT q).toArray from rfl, Lx.extract_eq]; simp
  rw [hsx]
  refine (Px.parse_told ((qsT q).take k) w5 m hmW h0W (by simp; omega)).mono ?_
  rintro e w' ⟨c, rfl, _, hf⟩
  rcases HCUT.out with ⟨st, hst⟩ | hst
  ·rw [hst]; exact ⟨c, _, _, rfl, .inl rfl, hf⟩
  ·rw [hst]; exact ⟨c, _, _, rfl, .inr ⟨rfl, rfl⟩, hf⟩)
 clear hmW h0W
 refine HPC.out.mono ?_
 rintro e w6 ⟨c, z, ex, rfl, hex, hf6⟩
 have HF6 := Hd (HF5.out.trans hf6)
 clear hf6 HPC
 obtain ⟨kind', table', name', join', a3', a4', a5', a6', a8', a9', a10', a12', l3', l4', l5', l6', l8', l9', l10', l12', c3', c4', c5', c6', c8', c9', c10', c12', desc'⟩ := c
 have HPM : Hid (∀ W, Fr [] w W -> Calls Tryz.prog 9 #[.string (s ++ ⟨#[32, 41]⟩)] W fun e w' => ∃ (c : Px.Cells13), e = .returned (.tuple #[.agg #[.int .i64 c.kind, .string ⟨c.table.toArray⟩, .string ⟨c.name.toArray⟩, .slice c.a3 c.l3 c.c3, .slice c.a4 c.l4 c.c4, .slice c.a5 c.l5 c.c5, .slice c.a6 c.l6 c.c6, .string ⟨c.join.toArray⟩, .slice c.a8 c.l8 c.c8, .slice c.a9 c.l9 c.c9, .slice c.a10 c.l10 c.c10, .bool c.desc, .slice c.a12 c.l12 c.c12], .int .i64 ((s.size : Int) + 1), .int .i64 5]) /\ Fr [] W w') := Hd (fun W hW => by
  have hsx : s ++ ⟨#[32, 41]⟩ = ⟨(qsT q ++ [32, 41]).toArray⟩ := by rw [<- HS.out]; exact bt_cat (qsT q) [32, 41]
  rw [hsx]
  have hmW := (hW.cell (p := ⟨1, 0, none⟩) h00 (by simp)).trans HM.out
  refine (Px.parse_told (qsT q ++ [32, 41]) W m hmW (Nat.lt_of_lt_of_le h00 hW.size) (by have := HQN.out; simp; omega)).mono ?_
  rintro e w' ⟨c, rfl, _, hf⟩
  rw [CM.parse_more HOK.out.1 (Sh.qs_text q) (by have := HSL.out; omega)]
  refine ⟨c, ?_, hf⟩
  have := HSL.out
  show Ending.returned (.tuple #[_, .int .i64 (((qsT q).length + 1 : Nat) : Int), .int .i64 5]) = _
  rw [<- this]
  congr 4
 )
 rcases hex with rfl | ⟨rfl, rfl⟩
 all_goals go_wp2_with fail
 all_goals refine (HPM.out _ (HF6.out.alloc _)).mono ?_
 all_goals rintro e w7 ⟨c, rfl, hf7⟩
 all_goals have HF7 := Hd ((HF6.out.alloc _).trans hf7)
 all_goals clear hf7 HPM
 all_goals obtain ⟨kind'', table'', name'', join'', a3'', a4'', a5'', a6'', a8'', a9'', a10'', a12'', l3'', l4'', l5'', l6'', l8'', l9'', l10'', l12'', c3'', c4'', c5'', c6'', c8'', c9'', c10'', c12'', desc''⟩ := c
 all_goals go_wp2_with fail
 all_goals go_ret
 all_goals exact ⟨rfl, HF7.out.alloc _⟩
end Gn
end Go.Proofs.YtmdnhinpaflamaaGreatDoor
