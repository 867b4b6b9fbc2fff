/- parse: the law ParseShown: what is shown is parsed as it was. -/
import Derived.Test.YtmdnhinpaflamaaGreatDoorGst
import Derived.Test.YtmdnhinpaflamaaGreatDoorShE
import Derived.Test.YtmdnhinpaflamaaGreatDoorSq
import Derived.Test.YtmdnhinpaflamaaGreatDoorPaF
import Derived.Test.YtmdnhinpaflamaaGreatDoorL7q
import Derived.Test.YtmdnhinpaflamaaGreatDoorLxD
import Derived.Deep.RegionHeld3
namespace Go.Proofs.YtmdnhinpaflamaaGreatDoor
open Go.RowKit
set_option linter.unusedVariables false
set_option linter.unusedSimpArgs false
namespace Gn
open PM (Ex B)
open Px (SR StR)
open CM (Pr Qs)
open Sh (bt bt_cat bt_size qsT)
theorem toks_at {l : List LexM.Tok} {i : Nat} {t : LexM.Tok} (h : l[i]? = some t) : (Lx.toksC l).getD (i * 4 + 3) undef = .int .i64 t.pos := by
 induction l generalizing i with
 |nil => simp at h
 |cons x l ih =>
  show (Lx.tokC x ++ Lx.toksC l).getD (i * 4 + 3) undef = _
  cases i with
  |zero =>
   cases h
   rfl
  |succ i =>
   have := ih (by simpa using h)
   rw [List.getD_eq_getElem?_getD] at this ⊢
   rw [List.getElem?_append_right (by show 4 <= _; omega), show (i + 1) * 4 + 3 - (Lx.tokC x).length = i * 4 + 3 by show (i + 1) * 4 + 3 - 4 = _; omega]
   exact this
def posL (tk : List LexM.Tok) : List Nat := tk.map (·.pos)
def outB (NN : Nat) (S : B) (tk : List LexM.Tok) (k : Nat) : B := Pc.blanks NN ++ CM.spread NN S ((posL tk).take (k + 1))
theorem outB_0 (NN : Nat) (S : B) (tk : List LexM.Tok) : outB NN S tk 0 = Pc.blanks NN := by
 unfold outB
 cases posL tk <;> simp [CM.spread]
theorem outB_next {NN : Nat} {S : B} {tk : List LexM.Tok} {k : Nat} {x y : LexM.Tok} (hx : tk[k]? = some x) (hy : tk[k + 1]? = some y) : outB NN S tk (k + 1) = outB NN S tk k ++ (S.drop x.pos).take (y.pos - x.pos) ++ Pc.blanks NN := by
 unfold outB posL
 rw [CM.spread_take (a := x.pos) (b := y.pos) (by simp [hx]) (by simp [hy])]
 simp only [List.append_assoc]
theorem outB_len {NN : Nat} {S : B} {tk : List LexM.Tok} (hN : NN <= 3) (hS : S.length <= 400) : ∀ k, k + 1 <= tk.length -> (outB NN S tk k).length <= 3 + k * 403
 |0, _ => by rw [outB_0]; simp [Pc.blanks]; omega
 |k + 1, h => by
  have ih := outB_len (tk := tk) hN hS k (by omega)
  rw [outB_next (List.getElem?_eq_getElem (show k < tk.length by omega)) (List.getElem?_eq_getElem (show k + 1 < tk.length by omega))]
  simp only [List.length_append, List.length_take, List.length_drop, Pc.blanks, List.length_replicate]
  omega
theorem outB_end {NN : Nat} {S : B} {q : Qs} {tk : List LexM.Tok} (hq : Pc.render q.line = S) (htk : Pc.toks 0 q.line ++ [⟨6, [], 0, S.length⟩] = tk) {k : Nat} (hk : k + 1 = tk.length) : outB NN S tk k = Pc.render (CM.wide NN q.line) ++ Pc.blanks NN := by
 unfold outB
 rw [hk, show tk.length = (posL tk).length by simp [posL], List.take_length, <- CM.spread_all hq NN, <- htk]
 rfl
theorem line_short (L : Pc.Line) (h : Pc.fits L = true) : L.length <= (Pc.render L).length := by
 induction L with
 |nil => exact Nat.zero_le _
 |cons x r ih =>
  obtain ⟨g, c⟩ := x
  simp only [Pc.fits, Bool.and_eq_true] at h
  obtain ⟨y, z, hb, _⟩ := Pc.bytes_head h.1.1
  have := ih h.2
  simp only [Pc.render, List.length_append, hb, List.length_cons, Pc.blanks, List.length_replicate]
  omega
theorem sp_cat (X S Z : B) (p q : Nat) : bt (X ++ (S.drop p).take (q - p) ++ Z) = bt X ++ (bt S).extract p q ++ bt Z := by
 rw [show (bt S).extract p q = bt ((S.drop p).take (q - p)) from Lx.extract_eq S p q, bt_cat, bt_cat]
set_option maxRecDepth 1000000 in
set_option maxHeartbeats 16000000 in
theorem parsespaces_law (a : Option Addr) (len cap : Nat) (nn : Int) (hc0 : 0 <= nn) (hc255 : nn <= 255) (w : World) (m : Int) (hm : w.cell? ⟨1, 0, none⟩ = some (.int .i64 m)) (h00 : 1 < w.heap.size) (hlen : len <= maxLen)
  (h : ∀ j, j < len -> ∃ (g off k : Nat), a = some ⟨g, off, none⟩ /\ g < w.heap.size /\ k <= 255 /\ w.cell? ⟨g, off + j, none⟩ = some (.int .u8 k)) :
  Calls Tryz.prog 5 #[.slice a len cap, .int .u8 nn] w fun e w' => e = .returned (.bool true) /\ Fr [] w w' := by
 have HB := Hd (Px.begun_any w m hm h00)
 have HM := Hd hm
 have HH := Hd h
 clear hm h
 go_enter Tryz.func5, Tryz.ntmps5
 go_wp2_with fail
 refine HB.out.mono ?_
 rintro e w1 ⟨rfl, hf1⟩
 have HF1 := Hd hf1
 clear hf1 HB
 by_cases hl : len > 40
 ·have hl' : (40 : Int) < len := by omega
  go_wp2_with fail
  go_ret
  exact ⟨rfl, HF1.out⟩
 have hl' : (len : Int) <= 40 := by omega
 go_wp2_with fail
 refine (made_any w1 a len cap (by omega) (fun j hj => ?_)).mono ?_
 ·obtain ⟨g, off, k, e1, e2, e3, e4⟩ := HH.out j hj
  exact ⟨g, off, k, e1, Nat.lt_of_lt_of_le e2 HF1.out.size, e3, (HF1.out.cell (p := ⟨g, off + j, none⟩) e2 (by simp)).trans e4⟩
 rintro e w2 ⟨rfl, hk2, hf2⟩
 have HK2 := Hd hk2
 have HF2 := Hd (HF1.out.trans hf2)
 clear hk2 hf2 HH
 go_wp2_with fail
 refine (stmt_any w1.heap.size w2 HK2.out).mono ?_
 rintro e w3 ⟨⟨q, hok, hst⟩, hk3, hf3⟩
 have HF3 : Hid (Fr [] w w3) := Hd (HF2.out.trans' hf3 (fun i hi => by simp at hi; have := HF1.out.size; omega))
 obtain ⟨kind, table, name, join, a3, a4, a5, a6, a8, a9, a10, a12, l3, l4, l5, l6, l8, l9, l10, l12, c3, c4, c5, c6, c8, c9, c10, c12, desc, rfl, hsr⟩ := Px.st_cells hst
 have HSR := Hd hsr
 have HOK := Hd hok
 clear hst hsr hok hk3 hf3 HK2
 obtain ⟨s, hs⟩ : ∃ s, bt (qsT q) = s := ⟨_, rfl⟩
 have hqn : (qsT q).length <= 9000 := by have := HOK.out.len; rwa [Sh.qs_text] at this
 have hss : (s.size : Int) <= 9000 := by rw [<- hs, bt_size]; omega
 have hsl : s.size = (qsT q).length := by rw [<- hs, bt_size]
 have HE : Hid (∀ W, Fr [] w3 W -> Calls Tryz.prog 14 #[.agg #[.int .i64 kind, .string ⟨table.toArray⟩, .string ⟨name.toArray⟩, .slice a3 l3 c3, .slice a4 l4 c4, .slice a5 l5 c5, .slice a6 l6 c6, .string ⟨join.toArray⟩, .slice a8 l8 c8, .slice a9 l9 c9, .slice a10 l10 c10, .bool desc, .slice a12 l12 c12]] W fun e w' => e = .returned (.string s) /\ Fr [] W w') := Hd (fun W hf => by
  have := Sh.show_any q 64 HOK.out.1 (by omega) _ W _ (Px.SR.keep hf (by simp) HSR.out)
  rwa [hs] at this)
 have HS := Hd hs
 have HQN := Hd hqn
 have HSL := Hd hsl
 clear hs hqn hsl
 go_wp2_with fail
 refine (HE.out _ (Fr.refl [] w3)).mono ?_
 rintro e w4 ⟨rfl, hf4⟩
 have HF4 := Hd (HF3.out.trans hf4)
 clear hf4 HSR HE
 obtain ⟨NN, hNN⟩ : ∃ NN : Nat, nn % 4 = NN := ⟨(nn % 4).toNat, by omega⟩
 have hN3 : NN <= 3 := by omega
 have hN3i : (NN : Int) <= 3 := by omega
 go_wp2_with fail
 go_loopw [6, 7] (fun mo i wr => ∃ k : Nat, i = .int .i64 k /\ k <= NN /\ mo = .string (bt (Pc.blanks k)) /\ Hid (Fr [] w4 wr)) (fun _ i _ => (NN - intOf i).toNat)
 case atStart => exact ⟨0, rfl, Nat.zero_le _, rfl, Hd (Fr.refl _ _)⟩
 case round =>
  obtain ⟨k, rfl, hk, rfl, HFL⟩ := hrel
  by_cases hkN : (k : Int) < nn % 4
  case pos =>
   have hsb : (bt (Pc.blanks k)).size = k := by rw [bt_size]; simp [Pc.blanks]
   have hsb3 : ((bt (Pc.blanks k)).size : Int) <= 3 := by omega
   obtain ⟨mb, hmb⟩ : ∃ b, bt (Pc.blanks k) = b := ⟨_, rfl⟩
   rw [hmb] at hsb3 ⊢
   have HMB := Hd hmb
   clear hmb hsb
   go_wp2_with fail
   go_roundw
   case rel => exact ⟨k + 1, by go_num, by omega, congrArg Value.string (by rw [<- HMB.out]; exact (bt_cat (Pc.blanks k) [32]).trans (congrArg bt (by simp [Pc.blanks, List.replicate_succ']))), HFL⟩
   case measure => simp only [intOf]; omega
  case neg =>
   have hkk : NN = k := by omega
   subst hkk
   obtain ⟨mb, hmb⟩ : ∃ b, bt (Pc.blanks NN) = b := ⟨_, rfl⟩
   have hsb : (mb.size : Int) <= 3 := by rw [<- hmb, bt_size]; simp [Pc.blanks]; omega
   rw [hmb]
   have HMB := Hd hmb
   clear hmb
   have HF4 := Hd (HF4.out.trans HFL.out)
   clear HFL hNN
   have hkN : ¬ ((NN : Int) < nn % 4) := by omega
   obtain ⟨w4, hw4⟩ : ∃ w4, w4 = wr := ⟨_, rfl⟩
   subst hw4
   have HLX := Hd (Lx.doclex_any (qsT q) w4 (by have := HQN.out; omega))
   have HL : Hid (Calls Tryz.prog 15 #[.string s] w4 fun e w' => Lx.DxR w4 w' e (LexM.lex (qsT q))) := Hd (by rw [<- HS.out]; exact HLX.out)
   clear HLX
   by_cases h400 : (400 : Int) < s.size
   ·have hlx : LexM.lex (qsT q) = .inl (0, 7) := Pc.lex_long (by have := HSL.out; omega)
    rw [hlx] at HL
    clear hlx
    go_wp2_with fail
    refine HL.out.mono ?_
    rintro e w5 ⟨rfl, hf5⟩
    have HF5 := Hd (HF4.out.trans hf5)
    clear hf5 HL
    go_wp2_with fail
    go_ret
    exact ⟨rfl, HF5.out⟩
   have h400' : (s.size : Int) <= 400 := by omega
   have hlx : LexM.lex (qsT q) = .inr (Pc.toks 0 q.line ++ [⟨6, [], 0, (qsT q).length⟩]) := by
    have h := Pc.lex_line q.line 0 (CM.qs_fits HOK.out.1) (by rw [Sh.qs_text]; simp [Pc.blanks]; have := HSL.out; omega)
    simp only [Pc.blanks, List.replicate_zero, List.append_nil] at h
    rw [Sh.qs_text] at h
    exact h
   rw [hlx] at HL
   clear hlx
   obtain ⟨tk, htk⟩ : ∃ tk, Pc.toks 0 q.line ++ [⟨6, [], 0, (qsT q).length⟩] = tk := ⟨_, rfl⟩
   rw [htk] at HL
   have HTK := Hd htk
   obtain ⟨N, HN, hN1⟩ : ∃ N, Hid (tk.length = N) /\ 1 <= N := ⟨tk.length, Hd rfl, by rw [<- htk]; simp⟩
   clear htk
   go_wp2_with fail
   refine HL.out.mono ?_
   rintro e w5 ⟨v, rfl, hrow, hf5⟩
   rw [HN.out] at hrow
   have HF5 := Hd (HF4.out.trans hf5)
   clear hf5 HL
   obtain ⟨g, off, cap, rfl, hcap⟩ : ∃ g off cap, v = .slice (some ⟨g, off, none⟩) N cap /\ N <= cap := by
    rcases hrow.form with ⟨_, h0, _⟩ | ⟨g, off, cap, rfl, hc, _⟩
    ·omega
    ·exact ⟨g, off, cap, rfl, hc⟩
   have HROW := Hd hrow
   clear hrow
   have hSl : (qsT q).length <= 400 := by have := HSL.out; omega
   have HSl := Hd hSl
   clear hSl
   have hN401 : N <= 500 := by
    rw [<- HN.out, <- HTK.out]
    simp only [List.length_append, List.length_cons, List.length_nil, CM.toks_len]
    have := line_short q.line (CM.qs_fits HOK.out.1)
    rw [Sh.qs_text] at this
    have := HSl.out
    omega
   go_wp2_with fail
   go_loopw [11, 12] (fun t i wr => ∃ (k : Nat) (b : ByteArray), i = .int .i64 k /\ k + 1 <= N /\ t = .string b /\ Hid (bt (outB NN (qsT q) tk k) = b) /\ Hid (Fr [] w wr) /\ Hid (Fr [] w5 wr)) (fun _ i _ => (N - intOf i).toNat)
   case atStart => exact ⟨0, mb, rfl, hN1, rfl, Hd (by rw [outB_0]; exact HMB.out), HF5, Hd (Fr.refl _ _)⟩
   case round =>
    obtain ⟨k, b, rfl, hk, rfl, HB, HFL, HF5L⟩ := hrel
    have hbs : (b.size : Int) <= 300000 := by
     have := outB_len (tk := tk) (NN := NN) hN3 HSl.out k (by rw [HN.out]; exact hk)
     rw [<- HB.out, bt_size]
     have : k * 403 <= 500 * 403 := Nat.mul_le_mul_right _ (by omega)
     omega
    by_cases hkN : (k : Int) + 1 < N
    case pos =>
     obtain ⟨x, hx⟩ : ∃ x, tk[k]? = some x := ⟨_, List.getElem?_eq_getElem (by rw [HN.out]; omega)⟩
     obtain ⟨y, hy⟩ : ∃ y, tk[k + 1]? = some y := ⟨_, List.getElem?_eq_getElem (by rw [HN.out]; omega)⟩
     have hxy := CM.tok_next q.line 0 (qsT q).length k (by rw [Sh.qs_text]; omega) x y (by rw [HTK.out]; exact hx) (by rw [HTK.out]; exact hy)
     have hnx := outB_next (NN := NN) (S := qsT q) hx hy
     have HNX := Hd hnx
     clear hnx
     have hROW := HROW.out.keep HF5L.out (by simp)
     have hcx : wr.cell? ⟨g, off + k * 4 + 3, none⟩ = some (.int .i64 x.pos) := by
      have hlt : k * 4 + 3 < (Lx.toksC tk).length := by rw [hROW.1]; omega
      rw [Nat.add_assoc, hROW.cells _ hlt]
      congr 1
      exact toks_at hx
     have hcy : wr.cell? ⟨g, off + (k + 1) * 4 + 3, none⟩ = some (.int .i64 y.pos) := by
      have hlt : (k + 1) * 4 + 3 < (Lx.toksC tk).length := by rw [hROW.1]; omega
      rw [Nat.add_assoc, hROW.cells _ hlt]
      congr 1
      exact toks_at hy
     obtain ⟨px, hpx⟩ : ∃ p, p = x.pos := ⟨_, rfl⟩
     obtain ⟨py, hpy⟩ : ∃ p, p = y.pos := ⟨_, rfl⟩
     rw [<- hpx] at hcx hxy HNX
     rw [<- hpy] at hcy hxy HNX
     have hsz : s.size = (qsT q).length := HSL.out
     have hpy2 : py <= s.size := by omega
     have HCX := Hd hcx
     have HCY := Hd hcy
     clear hx hy hpx hpy hROW hsz hcx hcy
     obtain ⟨w6, hw6⟩ : ∃ w6, w6 = wr := ⟨_, rfl⟩
     subst hw6
     have hpxy : px <= py := by omega
     obtain ⟨nb, hnb⟩ : ∃ nb, b ++ s.extract px py ++ mb = nb := ⟨_, rfl⟩
     have HNB := Hd hnb
     clear hnb
     go_upto_region 18 with fail
     refine Rg.wp_region [[], [], [], [], [2, 3], [4], [5], [], [], [8], [7, 9], [10], [11], [1, 6, 12], [0, 13], [], [14, 15], [16]] [some 53, some 54, some 55, some 56, some 57, some 58, some 59, some 60, some 61, some 62, some 63, some 64, some 65, some 66, some 67, some 68, some 69, some 11] 17 (fun j v wz => match j with | 0 => v = .string b | 1 => v = .string s | 2 => v = .slice (some ⟨g, off, none⟩) N cap | 3 => v = .int .i64 (k : Int) | 4 => v = .pointer (some ⟨g, off + k * 4, none⟩) | 5 => v = .pointer (some ⟨g, off + k * 4 + 3, none⟩) | 6 => v = .int .i64 (px : Int) | 7 => v = .slice (some ⟨g, off, none⟩) N cap | 8 => v = .int .i64 (k : Int) | 9 => v = .int .i64 ((k + 1 : Nat) : Int) | 10 => v = .pointer (some ⟨g, off + (k + 1) * 4, none⟩) | 11 => v = .pointer (some ⟨g, off + (k + 1) * 4 + 3, none⟩) | 12 => v = .int .i64 (py : Int) | 13 => v = .string (s.extract px py) | 14 => v = .string (b ++ (s.extract px py)) | 15 => v = .string mb | 16 => v = .string nb | _ => True) (fun wz => wz = w6.drew) (fun wz wz' => wz' = wz) (by kernel_rfl) (by kernel_rfl) (by kernel_rfl) (by kernel_rfl) rfl ?_ ?_
     ·intro j hj v wz wz' hR
      match j, hj with
      |0, _ => exact fun h => h
      |1, _ => exact fun h => h
      |2, _ => exact fun h => h
      |3, _ => exact fun h => h
      |4, _ => exact fun h => h
      |5, _ => exact fun h => h
      |6, _ => exact fun h => h
      |7, _ => exact fun h => h
      |8, _ => exact fun h => h
      |9, _ => exact fun h => h
      |10, _ => exact fun h => h
      |11, _ => exact fun h => h
      |12, _ => exact fun h => h
      |13, _ => exact fun h => h
      |14, _ => exact fun h => h
      |15, _ => exact fun h => h
      |16, _ => exact fun h => h
      |j + 17, hj => exact absurd hj (by omega)
     refine Rg.Each.cons (fun vals wr hI hφ => ?_) ?_
     ·change Rg.Does _ _ _ _ (fun v wz => (wz = w6.drew) /\ (wz = wr) /\ (v = .string b))
      clear hφ
      simp only [Rg.putsD, qD, qE]
      exact Rg.Does.val (v := .string b) (by simp [go_sem, execOp, Act.put, Act.eval]) ⟨hI, rfl, rfl⟩
     refine Rg.Each.cons (fun vals wr hI hφ => ?_) ?_
     ·change Rg.Does _ _ _ _ (fun v wz => (wz = w6.drew) /\ (wz = wr) /\ (v = .string s))
      clear hφ
      simp only [Rg.putsD, qD, qE]
      exact Rg.Does.val (v := .string s) (by simp [go_sem, execOp, Act.put, Act.eval]) ⟨hI, rfl, rfl⟩
     refine Rg.Each.cons (fun vals wr hI hφ => ?_) ?_
     ·change Rg.Does _ _ _ _ (fun v wz => (wz = w6.drew) /\ (wz = wr) /\ (v = .slice (some ⟨g, off, none⟩) N cap))
      clear hφ
      simp only [Rg.putsD, qD, qE]
      exact Rg.Does.val (v := .slice (some ⟨g, off, none⟩) N cap) (by simp [go_sem, execOp, Act.put, Act.eval]) ⟨hI, rfl, rfl⟩
     refine Rg.Each.cons (fun vals wr hI hφ => ?_) ?_
     ·change Rg.Does _ _ _ _ (fun v wz => (wz = w6.drew) /\ (wz = wr) /\ (v = .int .i64 (k : Int)))
      clear hφ
      simp only [Rg.putsD, qD, qE]
      exact Rg.Does.val (v := .int .i64 (k : Int)) (by simp [go_sem, execOp, Act.put, Act.eval]) ⟨hI, rfl, rfl⟩
     refine Rg.Each.cons (fun vals wr hI hφ => ?_) ?_
     ·change Rg.Does _ _ _ _ (fun v wz => (wz = w6.drew) /\ (wz = wr) /\ (v = .pointer (some ⟨g, off + k * 4, none⟩)))
      have h2 : _ = _ := hφ 2 (by decide)
      have h3 : _ = _ := hφ 3 (by decide)
      clear hφ
      simp only [Rg.putsD, qD, qE]
      rw [h2, h3]
      have hk0 : (0 : Int) <= k := by omega
      have hk1 : (k : Int) < N := by omega
      exact Rg.Does.val (v := .pointer (some ⟨g, off + k * 4, none⟩)) (by simp [go_sem, execOp, Act.put, Act.eval]; omega) ⟨hI, rfl, rfl⟩
     refine Rg.Each.cons (fun vals wr hI hφ => ?_) ?_
     ·change Rg.Does _ _ _ _ (fun v wz => (wz = w6.drew) /\ (wz = wr) /\ (v = .pointer (some ⟨g, off + k * 4 + 3, none⟩)))
      have h4 : _ = _ := hφ 4 (by decide)
      clear hφ
      simp only [Rg.putsD, qD, qE]
      rw [h4]
      exact Rg.Does.val (v := .pointer (some ⟨g, off + k * 4 + 3, none⟩)) (by simp [go_sem, execOp, Act.put, Act.eval]) ⟨hI, rfl, rfl⟩
     refine Rg.Each.cons (fun vals wr hI hφ => ?_) ?_
     ·change Rg.Does _ _ _ _ (fun v wz => (wz = w6.drew) /\ (wz = wr) /\ (v = .int .i64 (px : Int)))
      have h5 : _ = _ := hφ 5 (by decide)
      clear hφ
      simp only [Rg.putsD, qD, qE]
      rw [h5]
      subst hI
      have hc := HCX.out
      exact Rg.Does.val (v := .int .i64 (px : Int)) (by simp [go_sem, execOp, Act.put, Act.eval, hc]) ⟨rfl, rfl, rfl⟩
     refine Rg.Each.cons (fun vals wr hI hφ => ?_) ?_
     ·change Rg.Does _ _ _ _ (fun v wz => (wz = w6.drew) /\ (wz = wr) /\ (v = .slice (some ⟨g, off, none⟩) N cap))
      clear hφ
      simp only [Rg.putsD, qD, qE]
      exact Rg.Does.val (v := .slice (some ⟨g, off, none⟩) N cap) (by simp [go_sem, execOp, Act.put, Act.eval]) ⟨hI, rfl, rfl⟩
     refine Rg.Each.cons (fun vals wr hI hφ => ?_) ?_
     ·change Rg.Does _ _ _ _ (fun v wz => (wz = w6.drew) /\ (wz = wr) /\ (v = .int .i64 (k : Int)))
      clear hφ
      simp only [Rg.putsD, qD, qE]
      exact Rg.Does.val (v := .int .i64 (k : Int)) (by simp [go_sem, execOp, Act.put, Act.eval]) ⟨hI, rfl, rfl⟩
     refine Rg.Each.cons (fun vals wr hI hφ => ?_) ?_
     ·change Rg.Does _ _ _ _ (fun v wz => (wz = w6.drew) /\ (wz = wr) /\ (v = .int .i64 ((k + 1 : Nat) : Int)))
      have h8 : _ = _ := hφ 8 (by decide)
      clear hφ
      simp only [Rg.putsD, qD, qE]
      rw [h8]
      have hw : IntKind.i64.wrap ((k : Int) + 1) = ((k + 1 : Nat) : Int) := IntWalk.i64_in _ (by omega)
      exact Rg.Does.val (v := .int .i64 ((k + 1 : Nat) : Int)) (by simp only [go_sem, execOp, Act.put, Act.eval]; simp [go_sem, hw]) ⟨hI, rfl, rfl⟩
     refine Rg.Each.cons (fun vals wr hI hφ => ?_) ?_
     ·change Rg.Does _ _ _ _ (fun v wz => (wz = w6.drew) /\ (wz = wr) /\ (v = .pointer (some ⟨g, off + (k + 1) * 4, none⟩)))
      have h7 : _ = _ := hφ 7 (by decide)
      have h9 : _ = _ := hφ 9 (by decide)
      clear hφ
      simp only [Rg.putsD, qD, qE]
      rw [h7, h9]
      have hk0 : (0 : Int) <= ((k + 1 : Nat) : Int) := by omega
      have hk1 : ((k + 1 : Nat) : Int) < N := by omega
      exact Rg.Does.val (v := .pointer (some ⟨g, off + (k + 1) * 4, none⟩)) (by simp [go_sem, execOp, Act.put, Act.eval]; omega) ⟨hI, rfl, rfl⟩
     refine Rg.Each.cons (fun vals wr hI hφ => ?_) ?_
     ·change Rg.Does _ _ _ _ (fun v wz => (wz = w6.drew) /\ (wz = wr) /\ (v = .pointer (some ⟨g, off + (k + 1) * 4 + 3, none⟩)))
      have h10 : _ = _ := hφ 10 (by decide)
      clear hφ
      simp only [Rg.putsD, qD, qE]
      rw [h10]
      exact Rg.Does.val (v := .pointer (some ⟨g, off + (k + 1) * 4 + 3, none⟩)) (by simp [go_sem, execOp, Act.put, Act.eval]) ⟨hI, rfl, rfl⟩
     refine Rg.Each.cons (fun vals wr hI hφ => ?_) ?_
     ·change Rg.Does _ _ _ _ (fun v wz => (wz = w6.drew) /\ (wz = wr) /\ (v = .int .i64 (py : Int)))
      have h11 : _ = _ := hφ 11 (by decide)
      clear hφ
      simp only [Rg.putsD, qD, qE]
      rw [h11]
      subst hI
      have hc := HCY.out
      exact Rg.Does.val (v := .int .i64 (py : Int)) (by simp [go_sem, execOp, Act.put, Act.eval, hc]) ⟨rfl, rfl, rfl⟩
     refine Rg.Each.cons (fun vals wr hI hφ => ?_) ?_
     ·change Rg.Does _ _ _ _ (fun v wz => (wz = w6.drew) /\ (wz = wr) /\ (v = .string (s.extract px py)))
      have h1 : _ = _ := hφ 1 (by decide)
      have h6 : _ = _ := hφ 6 (by decide)
      have h12 : _ = _ := hφ 12 (by decide)
      clear hφ
      simp only [Rg.putsD, qD, qE]
      rw [h1, h6, h12]
      exact Rg.Does.val (v := .string (s.extract px py)) (by simp [go_sem, execOp, Act.put, Act.eval, hpy2, hpxy]) ⟨hI, rfl, rfl⟩
     refine Rg.Each.cons (fun vals wr hI hφ => ?_) ?_
     ·change Rg.Does _ _ _ _ (fun v wz => (wz = w6.drew) /\ (wz = wr) /\ (v = .string (b ++ (s.extract px py))))
      have h0 : _ = _ := hφ 0 (by decide)
      have h13 : _ = _ := hφ 13 (by decide)
      clear hφ
      simp only [Rg.putsD, qD, qE]
      rw [h0, h13]
      exact Rg.Does.val (v := .string (b ++ (s.extract px py))) (by simp [go_sem, execOp, Act.put, Act.eval]; omega) ⟨hI, rfl, rfl⟩
     refine Rg.Each.cons (fun vals wr hI hφ => ?_) ?_
     ·change Rg.Does _ _ _ _ (fun v wz => (wz = w6.drew) /\ (wz = wr) /\ (v = .string mb))
      clear hφ
      simp only [Rg.putsD, qD, qE]
      exact Rg.Does.val (v := .string mb) (by simp [go_sem, execOp, Act.put, Act.eval]) ⟨hI, rfl, rfl⟩
     refine Rg.Each.cons (fun vals wr hI hφ => ?_) ?_
     ·change Rg.Does _ _ _ _ (fun v wz => (wz = w6.drew) /\ (wz = wr) /\ (v = .string nb))
      have h14 : _ = _ := hφ 14 (by decide)
      have h15 : _ = _ := hφ 15 (by decide)
      clear hφ
      simp only [Rg.putsD, qD, qE]
      rw [h14, h15]
      exact Rg.Does.val (v := .string (b ++ s.extract px py ++ mb)) (by simp [go_sem, execOp, Act.put, Act.eval]; omega) ⟨hI, rfl, congrArg Value.string HNB.out⟩
     refine Rg.Each.one (fun vals wr hI hφ => ?_)
     have h16 : _ = _ := hφ 16 (by decide)
     clear hφ
     rw [show List.range 17 = [0, 1, 2, 3, 4, 5, 6, 7, 8, 9, 10, 11, 12, 13, 14, 15, 16] from rfl]
     simp only [Rg.putsD, qD, qE]
     rw [h16]
     subst hI
     refine Rg.Does.val (v := .string nb) (w' := w6.drew) (by simp [go_sem, execOp, Act.put, Act.eval]) ?_
     simp only [Act.put, qA, qB, qC]
     go_wp2_with fail
     go_roundw
     case rel => exact ⟨k + 1, _, by go_num, by omega, rfl, Hd (by rw [<- HNB.out, HNX.out, <- HB.out, <- HS.out, <- HMB.out]; exact sp_cat _ _ _ _ _), Hd HFL.out.drew, Hd HF5L.out.drew⟩
     case measure => simp only [intOf]; omega
    case neg =>
     have hke : k + 1 = tk.length := by rw [HN.out]; omega
     have hb : outB NN (qsT q) tk k = Pc.render (CM.wide NN q.line) ++ Pc.blanks NN := outB_end (Sh.qs_text q) HTK.out hke
     have hbl : b.size = (Pc.render (CM.wide NN q.line) ++ Pc.blanks NN).length := by rw [<- HB.out, bt_size, hb]
     have HBB : Hid (b = bt (Pc.render (CM.wide NN q.line) ++ Pc.blanks NN)) := Hd (by rw [<- HB.out, hb])
     have HBL := Hd hbl
     clear hb hbl hke
     by_cases h4b : (400 : Int) < b.size
     ·go_wp2_with fail
      go_ret
      exact ⟨rfl, HFL.out⟩
     have h4b' : (b.size : Int) <= 400 := by omega
     have HPA : Hid (∀ W, Fr [] w W -> Calls Tryz.prog 9 #[.string s] W fun e w' => ∃ (c : Px.Cells13) (z : Int), e = .returned (.tuple #[.agg #[.int .i64 c.kind, .string ⟨c.table.toArray⟩, .string ⟨c.name.toArray⟩, .slice c.a3 c.l3 c.c3, .slice c.a4 c.l4 c.c4, .slice c.a5 c.l5 c.c5, .slice c.a6 c.l6 c.c6, .string ⟨c.join.toArray⟩, .slice c.a8 c.l8 c.c8, .slice c.a9 c.l9 c.c9, .slice c.a10 c.l10 c.c10, .bool c.desc, .slice c.a12 c.l12 c.c12], .int .i64 z, .int .i64 0]) /\ SR (fun b => W.heap.size <= b) w' q.st c.list /\ Fr [] W w') := Hd (fun W hW => by
      have hmW := (hW.cell (p := ⟨1, 0, none⟩) h00 (by simp)).trans HM.out
      have hq : PM.parse (qsT q) = .inr q.st := by rw [<- Sh.qs_text]; exact CM.parse_shown HOK.out.1 (by rw [Sh.qs_text]; exact HSl.out)
      rw [<- HS.out]
      refine (Px.parse_told (qsT q) W m hmW (Nat.lt_of_lt_of_le h00 hW.size) (by have := HSl.out; omega)).mono ?_
      rintro e w' ⟨c, rfl, hs, hf⟩
      have hs := hs _ hq
      rw [hq]
      exact ⟨c, _, rfl, hs, hf⟩)
     have HPB : Hid (∀ W, Fr [] w W -> Calls Tryz.prog 9 #[.string b] W fun e w' => ∃ (c : Px.Cells13) (z : Int), e = .returned (.tuple #[.agg #[.int .i64 c.kind, .string ⟨c.table.toArray⟩, .string ⟨c.name.toArray⟩, .slice c.a3 c.l3 c.c3, .slice c.a4 c.l4 c.c4, .slice c.a5 c.l5 c.c5, .slice c.a6 c.l6 c.c6, .string ⟨c.join.toArray⟩, .slice c.a8 c.l8 c.c8, .slice c.a9 c.l9 c.c9, .slice c.a10 c.l10 c.c10, .bool c.desc, .slice c.a12 c.l12 c.c12], .int .i64 z, .int .i64 0]) /\ SR (fun b => W.heap.size <= b) w' q.st c.list /\ Fr [] W w') := Hd (fun W hW => by
      have hmW := (hW.cell (p := ⟨1, 0, none⟩) h00 (by simp)).trans HM.out
      have hq : PM.parse (Pc.render (CM.wide NN q.line) ++ Pc.blanks NN) = .inr q.st := CM.parse_wide NN HOK.out.1 (by have := HBL.out; omega)
      rw [HBB.out]
      refine (Px.parse_told _ W m hmW (Nat.lt_of_lt_of_le h00 hW.size) (by have := HBL.out; omega)).mono ?_
      rintro e w' ⟨c, rfl, hs, hf⟩
      have hs := hs _ hq
      rw [hq]
      exact ⟨c, _, rfl, hs, hf⟩)
     go_wp2_with fail
     refine (HPA.out _ HFL.out).mono ?_
     rintro e w6 ⟨c, z, rfl, hs6, hf6⟩
     have HF6 := Hd (HFL.out.trans hf6)
     have HS6 := Hd hs6
     clear hs6 hf6 HPA
     obtain ⟨kind', table', name', join', a3', a4', a5', a6', a8', a9', a10', a12', l3', l4', l5', l6', l8', l9', l10', l12', c3', c4', c5', c6', c8', c9', c10', c12', desc'⟩ := c
     have HB7 := Hd (Blk.new w6 29 [.int .i64 kind', .string ⟨table'.toArray⟩, .string ⟨name'.toArray⟩, .slice a3' l3' c3', .slice a4' l4' c4', .slice a5' l5' c5', .slice a6' l6' c6', .string ⟨join'.toArray⟩, .slice a8' l8' c8', .slice a9' l9' c9', .slice a10' l10' c10', .bool desc', .slice a12' l12' c12'])
     have HS7 := Hd (Px.SR.keep ((Fr.refl [] w6).alloc (.cells #[.int .i64 kind', .string ⟨table'.toArray⟩, .string ⟨name'.toArray⟩, .slice a3' l3' c3', .slice a4' l4' c4', .slice a5' l5' c5', .slice a6' l6' c6', .string ⟨join'.toArray⟩, .slice a8' l8' c8', .slice a9' l9' c9', .slice a10' l10' c10', .bool desc', .slice a12' l12' c12'] 29)) (by simp) HS6.out)
     go_wp2_with fail
     refine (HPB.out _ (HF6.out.alloc _)).mono ?_
     rintro e w8 ⟨c, z2, rfl, hs8, hf8⟩
     have HF8 := Hd ((HF6.out.alloc _).trans hf8)
     have HB8 := Hd (HB7.out.keep hf8 (by simp))
     have HS8 := Hd (Px.SR.keep hf8 (by simp) HS7.out)
     have HT8 := Hd hs8
     have hs8z := hf8.size
     simp only [qF] at hs8z
     clear hs8 hf8 HPB HB7 HS7 HS6
     obtain ⟨kind'', table'', name'', join'', a3'', a4'', a5'', a6'', a8'', a9'', a10'', a12'', l3'', l4'', l5'', l6'', l8'', l9'', l10'', l12'', c3'', c4'', c5'', c6'', c8'', c9'', c10'', c12'', desc''⟩ := c
     obtain ⟨k0, k1, k2, k3, k4, k5, k6, k7, k8, k9, k10, k11, k12, f0, f1, f2, f3, f4, f5, f6, f7, f8, f9, f10, f11, f12⟩ := Px.c13_of HB8.out
     have hlb := HB8.out.lt
     have hnb : ¬ w6.heap.size = w8.heap.size := by omega
     go_wp2_with fail
     refine (Sx.same_q q.st _ _ _ _ _ (Px.SR.keep ((Fr.refl [] w8).alloc _) (by simp) HS8.out) (Px.SR.keep ((Fr.refl [] w8).alloc _) (by simp) HT8.out)).mono ?_
     rintro e w9 ⟨rfl, hf9⟩
     have HF9 := Hd ((HF8.out.alloc _).trans hf9)
     clear hf9
     go_wp2_with fail
     go_ret
     exact ⟨rfl, HF9.out⟩
end Gn
end Go.Proofs.YtmdnhinpaflamaaGreatDoor
