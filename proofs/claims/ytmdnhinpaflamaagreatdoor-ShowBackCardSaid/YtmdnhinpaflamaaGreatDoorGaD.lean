/- An expression that is made. -/
import Derived.Test.YtmdnhinpaflamaaGreatDoorGaB
import Derived.Test.YtmdnhinpaflamaaGreatDoorPlA
import Derived.Test.YtmdnhinpaflamaaGreatDoorLex
import Derived.Deep.CutRange
import Derived.Deep.RegionHeld3
namespace Go.Proofs.YtmdnhinpaflamaaGreatDoor
open Go.RowKit
set_option linter.unusedVariables false
namespace Gn
open PM (Ex B)
open Px (z7 put7 frPut7 blkPut7 ret_cell7 c7_of ExR ItS itC kIt)
open CM (Pr)
theorem render_app : ∀ (a b : Pc.Line), Pc.render (a ++ b) = Pc.render a ++ Pc.render b
 |[], b => rfl
 |(g, c) :: a, b => by simp [Pc.render, render_app a b]
theorem line_gap (p : Pr) (g : Nat) : Pc.render (p.line g) = Pc.blanks g ++ Pc.render (p.line 0) := by cases p <;> simp [Pr.line, Pc.render, Pc.blanks]
def sh (p : Pr) : B := Pc.render (p.line 0)
theorem sh_one (p : Pr) : Pc.render (p.line 1) = 32 :: sh p := by rw [line_gap]; rfl
theorem sh_int (v : Nat) : sh (.int v) = Lib.decDigits v := by simp [sh, Pr.line, Pc.render, Pc.blanks, Pc.Pc.bytes]
theorem sh_text (t : B) : sh (.text t) = 39 :: (Pc.quo t ++ [39]) := by simp [sh, Pr.line, Pc.render, Pc.blanks, Pc.Pc.bytes]
theorem sh_col (n : B) : sh (.col n) = n := by simp [sh, Pr.line, Pc.render, Pc.blanks, Pc.Pc.bytes]
theorem sh_tcol (t n : B) : sh (.tcol t n) = t ++ [46] ++ n := by simp [sh, Pr.line, Pc.render, Pc.blanks, Pc.Pc.bytes]
theorem sh_neg (a : Pr) : sh (.neg a) = [40, 45] ++ sh a ++ [41] := by simp [sh, Pr.line, Pc.render, Pc.blanks, Pc.Pc.bytes, render_app]
theorem sh_not (a : Pr) : sh (.not a) = [40, 110, 111, 116, 32] ++ sh a ++ [41] := by
 have := sh_one a
 simp [sh, Pr.line, Pc.render, Pc.blanks, Pc.Pc.bytes, render_app] at this ⊢
 rw [this]; rfl
def opB (o : Nat) : B := (CM.opPc o).bytes
theorem sh_bin (o : Nat) (a b : Pr) : sh (.bin o a b) = [40] ++ sh a ++ [32] ++ opB o ++ [32] ++ sh b ++ [41] := by
 have := sh_one b
 simp [sh, Pr.line, Pc.render, Pc.blanks, Pc.Pc.bytes, render_app, opB] at this ⊢
 rw [this]
 rfl
theorem opB_len (o : Nat) : (opB o).length <= 3 := by unfold opB CM.opPc; split <;> decide
theorem dec_len {v : Nat} (h : v <= 9223372036854775807) : (Lib.decDigits v).length <= 21 := by
 have h1 := Lib.itoa_length_le (v : Int) (by omega) (by omega)
 rw [Lib.itoa, if_neg (by omega)] at h1
 simpa using h1
theorem quo_len : ∀ t : B, (Pc.quo t).length <= 2 * t.length
 |[] => by simp [Pc.quo]
 |c :: r => by
  have := quo_len r
  unfold Pc.quo
  split <;> simp <;> omega
structure Sz (k : Nat) (p : Pr) : Prop where
 ok : p.ok = true
 nest : p.nest <= 2 * k
 len : (sh p).length + 20 <= 40 * 2 ^ k
theorem pow_pos' {k : Nat} (h : 1 <= k) : 80 <= 40 * 2 ^ k := by
 obtain ⟨k, rfl⟩ : ∃ j, k = j + 1 := ⟨k - 1, by omega⟩
 have : 1 <= 2 ^ k := Nat.one_le_two_pow
 rw [Nat.pow_succ]; omega
theorem Sz.neg {k : Nat} {p : Pr} (h : Sz k p) : Sz (k + 1) (.neg p) := ⟨h.ok, by have := h.nest; show p.nest + 2 <= _; omega, by have := h.len; rw [sh_neg, Nat.pow_succ]; simp; omega⟩
theorem Sz.not {k : Nat} {p : Pr} (h : Sz k p) : Sz (k + 1) (.not p) := ⟨h.ok, by have := h.nest; show p.nest + 2 <= _; omega, by have := h.len; rw [sh_not, Nat.pow_succ]; simp; omega⟩
theorem Sz.bin {k o : Nat} {p q : Pr} (ho : o < 11) (h : Sz k p) (h2 : Sz k q) : Sz (k + 1) (.bin o p q) := ⟨by simp [Pr.ok, ho, h.ok, h2.ok], by have := h.nest; have := h2.nest; show max p.nest q.nest + 1 <= _; omega, by have := h.len; have := h2.len; have := opB_len o; rw [sh_bin, Nat.pow_succ]; simp; omega⟩
def colPr (t n : B) : Pr := if t.isEmpty then .col n else .tcol t n
theorem colPr_ex (t n : B) : (colPr t n).ex = PM.colEx t n := by
 unfold colPr
 cases t <;> rfl
theorem Sz.col {k : Nat} {t n : B} (hk : 1 <= k) (h : ColTN t n) : Sz k (colPr t n) := by
 have hp := pow_pos' hk
 have h3 := h.lt
 have h4 := h.ln
 unfold colPr
 cases t with
 |nil => exact ⟨h.name, Nat.zero_le _, by show (sh (.col n)).length + 20 <= _; rw [sh_col]; omega⟩
 |cons c r =>
  refine ⟨?_, Nat.zero_le _, ?_⟩
  ·rcases h.table with h1 | h1
   ·cases h1
   ·show (Pc.okName (c :: r) && Pc.okName n) = true
    rw [h1, h.name]; rfl
  ·show (sh (.tcol (c :: r) n)).length + 20 <= _
   rw [sh_tcol]
   simp at h3 ⊢
   omega
def litPr (k i : Int) (t : B) : Pr := if k = 1 then .int i.toNat else .text t
theorem Sz.lit {j : Nat} {kind k i : Int} {t : B} (hj : 1 <= j) (h : Lit kind k i t) : Sz j (litPr k i t) /\ (litPr k i t).ex = .mk 1 k i t [] [] [] := by
 have hp := pow_pos' hj
 cases h with
 |int _ n hk h =>
  refine ⟨⟨?_, Nat.zero_le _, ?_⟩, rfl⟩
  ·show decide (_ <= _) = true
   simpa using h
  ·show (sh (.int n)).length + 20 <= _
   rw [sh_int]
   have := dec_len h
   omega
 |text r _ h hl =>
  refine ⟨⟨h, Nat.zero_le _, ?_⟩, rfl⟩
  show (sh (.text t)).length + 20 <= _
  rw [sh_text]
  have := quo_len t
  simp
  omega
theorem done_pk {B M P : Nat} {w w1 : World} {x : Ex} {z : List Value} {c0 c1 c2 c3 c4 c5 c6 : Value} (hB : Blk w1 w.heap.size 82 z) (hz : z.length = 7) (hF : Fr [some P] w w1) (hK : PK B M w1 P) (hle : B <= w.heap.size)
  (hx : Rep.E 82 (fun g => w.heap.size + 1 <= g) w1 x [c0, c1, c2, c3, c4, c5, c6]) :
  ExR w.heap.size (put7 w1 w.heap.size c0 c1 c2 c3 c4 c5 c6) (.returned (.agg #[c0, c1, c2, c3, c4, c5, c6])) x /\ PK B M (put7 w1 w.heap.size c0 c1 c2 c3 c4 c5 c6) P /\ Fr [some P] w (put7 w1 w.heap.size c0 c1 c2 c3 c4 c5 c6) := by
 have hf := frPut7 (T := w.heap.size) (Fr.refl [some w.heap.size] w1) (.inl (by simp)) c0 c1 c2 c3 c4 c5 c6
 exact ⟨⟨_, rfl, Rep.E.mono (fun g hg => by omega) (Rep.E.keep hf (fun g hg => by simp; omega) hx)⟩, hK.keep hf (by simp; omega), frPut7 hF (.inr (Nat.le_refl _)) _ _ _ _ _ _ _⟩
theorem put7_size (w : World) (T : Nat) (a b c d e f g : Value) : (put7 w T a b c d e f g).heap.size = w.heap.size := by simp [put7]
theorem done_alloc {B M P : Nat} {w w1 : World} {x : Ex} {o : Obj} {c0 c1 c2 c3 c4 c5 c6 : Value} (hF : Fr [some P] w w1) (hK : PK B M w1 P) (hle : B <= w.heap.size)
  (hx : Rep.E 82 (fun g => w.heap.size + 1 <= g) ((put7 w1 w.heap.size c0 c1 c2 c3 c4 c5 c6).alloc o) x [c0, c1, c2, c3, c4, c5, c6]) :
  ExR w.heap.size ((put7 w1 w.heap.size c0 c1 c2 c3 c4 c5 c6).alloc o) (.returned (.agg #[c0, c1, c2, c3, c4, c5, c6])) x /\ PK B M ((put7 w1 w.heap.size c0 c1 c2 c3 c4 c5 c6).alloc o) P /\ Fr [some P] w ((put7 w1 w.heap.size c0 c1 c2 c3 c4 c5 c6).alloc o) := by
 have hf := frPut7 (T := w.heap.size) (Fr.refl [some w.heap.size] w1) (.inl (by simp)) c0 c1 c2 c3 c4 c5 c6
 exact ⟨⟨_, rfl, Rep.E.mono (fun g hg => by omega) hx⟩, (hK.keep hf (by simp; omega)).alloc _, (frPut7 hF (.inr (Nat.le_refl _)) _ _ _ _ _ _ _).alloc _⟩
theorem un_rep {w w1 : World} {x : Ex} {cs : List Value} (op : Int) (c0 c1 c2 c3 c4 c5 c6 : Value) (h : Rep.E 82 (fun g => w.heap.size + 1 <= g) w1 x cs) (hs : w.heap.size + 1 <= w1.heap.size) :
  Rep.E 82 (fun g => w.heap.size + 1 <= g) ((put7 w1 w.heap.size c0 c1 c2 c3 c4 c5 c6).alloc (.cells cs.toArray 82)) (PM.un op x) [.int .i64 op, .int .i64 0, .int .i64 0, .string ⟨#[]⟩, .string ⟨#[]⟩, .string ⟨#[]⟩, .slice (some ⟨w1.heap.size, 0, none⟩) 1 1] := by
 have hf := frPut7 (T := w.heap.size) (Fr.refl [some w.heap.size] w1) (.inl (by simp)) c0 c1 c2 c3 c4 c5 c6
 have hL : Rep.L 82 (fun g => w.heap.size + 1 <= g) (put7 w1 w.heap.size c0 c1 c2 c3 c4 c5 c6) [x] (cs ++ []) := .cons _ _ _ _ (Rep.E.keep hf (fun g hg => by simp; omega) h) .nil
 rw [List.append_nil] at hL
 have hes := es_new hL (by rw [put7_size]; exact hs) (by simp [maxLen])
 rw [put7_size] at hes
 exact .mk op 0 0 [] [] [] _ _ hes
structure Cy (B C M P : Nat) (vc vk : Value) (l : List PM.It) (ks : List Int) (w0 w : World) : Prop where
 hR : Blk w w0.heap.size 82 z7
 hF : Fr [some P] w0 w
 hK : PK B M w P
 hC : Cols C P w vc vk l ks
 hP : P < w0.heap.size
 sz : w0.heap.size + 1 <= w.heap.size
theorem Cy.call {B C M P : Nat} {vc vk : Value} {l : List PM.It} {ks : List Int} {w0 w w' : World} (h : Cy B C M P vc vk l ks w0 w) (hk : PK B M w' P) (hf : Fr [some P] w w') : Cy B C M P vc vk l ks w0 w' :=
 ⟨h.hR.keep hf (by have := h.hP; simp; omega), h.hF.trans hf, hk, h.hC.keep hf (by simp), h.hP, Nat.le_trans h.sz hf.size⟩
theorem Cy.call0 {B C M P : Nat} {vc vk : Value} {l : List PM.It} {ks : List Int} {w0 w w' : World} (h : Cy B C M P vc vk l ks w0 w) (hf : Fr [] w w') : Cy B C M P vc vk l ks w0 w' :=
 ⟨h.hR.keep hf (by simp), h.hF.trans' hf (by simp), h.hK.keep hf (by simp), h.hC.keep hf (by simp), h.hP, Nat.le_trans h.sz hf.size⟩
theorem exC_rep (A : Nat -> Prop) (w : World) (t n : B) : Rep.E 82 A w (colPr t n).ex (exC t n) := by
 rw [colPr_ex]
 exact .mk 2 0 0 [] t n [] _ Rep.Es.nil
set_option maxRecDepth 100000 in
set_option maxHeartbeats 8000000 in
theorem expr_gen {B C M : Nat} (P : Nat) (vc vk : Value) (l : List PM.It) (ks : List Int) : ∀ (k : Nat) (kind deep : Int), deep + k = 6 -> 0 <= deep -> 1 <= k -> ((kind = 1 \/ kind = 2) \/ (kind = 3 /\ 2 <= k)) -> ∀ w, PK B M w P -> Cols C P w vc vk l ks ->
  Calls Tryz.prog 73 #[.pointer (some ⟨P, 0, none⟩), vc, vk, .int .i64 kind, .int .i64 deep] w fun e w' => (∃ p, Sz k p /\ ExR w.heap.size w' e p.ex) /\ PK B M w' P /\ Fr [some P] w w' := by
 intro k
 induction k with
 |zero => intro kind deep _ _ h; omega
 |succ k ih =>
  intro kind deep hdk hd0 hk1 hkind w h hc
  have HIH := Hd ih
  have HK := Hd h
  have HC := Hd hc
  have hPl := h.lt'
  have hBl := h.le
  have hPB := h.lt
  clear ih h hc
  go_enter Tryz.func73, Tryz.ntmps73
  go_wp2_with fail
  refine (num_any P 8 (by decide) (by decide) _ (HK.out.alloc _)).mono ?_
  rintro e w1 ⟨r, rfl, hr, hk1, hf1⟩
  have Y1 : Hid (Cy B C M P vc vk l ks w w1) := Hd ⟨(Blk.new w 82 z7).keep hf1 (by simp; omega), ((Fr.refl [some P] w).alloc (.cells z7.toArray 82)).trans hf1, hk1,
   HC.out.keep (((Fr.refl [some P] w).alloc (.cells z7.toArray 82)).trans hf1) (by simp), hPl, by have := hf1.size; simpa using this⟩
  clear hk1 hf1
  have hr0 : 0 <= (r : Int) := by omega
  rcases hkind with hkind | ⟨rfl, hk2⟩
  ·have HKIND := Hd hkind
   have hk3 : ¬ kind = 3 := by rcases hkind with rfl | rfl <;> decide
   clear hkind
   go_wp2_with fail
   refine (col_any P vc vk l ks kind HKIND.out w1 Y1.out.hK Y1.out.hC).mono ?_
   rintro e w2 ⟨t, nm, hcol, rfl, hk, hf⟩
   have HCOL := Hd hcol
   have Y2 := Hd (Y1.out.call hk hf)
   clear hk hf hcol
   unfold exC
   have Y3 := Hd (Y2.out.call0 ((Fr.refl [] w2).alloc (.cells (exC t nm).toArray 82)))
   unfold exC at Y3
   have hbl2 := Y2.out.hR.lt
   have hnb2 : ¬ w.heap.size = w2.heap.size := by omega
   by_cases h4 : (r : Int) < 4
   ·have HSZ : Hid (Sz (k + 1) (colPr t nm)) := Hd (Sz.col hk1 HCOL.out)
    obtain ⟨k0, k1, k2, k3, k4, k5, k6, f0, f1, f2, f3, f4, f5, f6⟩ := c7_of Y2.out.hR
    go_wp2_with fail
    obtain ⟨d1, d2⟩ := done_alloc Y2.out.hF Y2.out.hK hBl (exC_rep _ _ t nm)
    exact bodyPost_ret (ret_cell7 rfl _ w.heap.size rfl _ _ _ _ _ _ _ _ (Blk.alloc (blkPut7 Y2.out.hR rfl _ _ _ _ _ _ _) _)) rfl ⟨⟨_, HSZ.out, d1⟩, d2⟩
   ·by_cases hk2 : kind = 2
    ·subst hk2
     go_wp2_with fail
     generalize w2.alloc (Obj.cells #[.int .i64 2, .int .i64 0, .int .i64 0, .string ⟨#[]⟩, .string ⟨t.toArray⟩, .string ⟨nm.toArray⟩, .slice none 0 0] 82) = w3 at Y3 ⊢
     refine (value_any P 2 w3 Y3.out.hK).mono ?_
     rintro e w4 ⟨vk1, vi1, vt1, rfl, hl, hk, hf⟩
     have HL := Hd hl
     have Y4 := Hd (Y3.out.call hk hf)
     clear hk hf hl
     go_wp2_with fail
     refine (lit_any vk1 vi1 vt1 w4).mono ?_
     rintro e w5 ⟨rfl, hf⟩
     have Y5 := Hd (Y4.out.call0 hf)
     clear hf
     obtain ⟨hs1, hs2⟩ := Sz.lit hk1 HL.out
     have HSZ := Hd hs1
     have HX : Hid (Rep.E 82 (fun g => w.heap.size + 1 <= g) w5 (litPr vk1 vi1 vt1).ex [.int .i64 1, .int .i64 vk1, .int .i64 vi1, .string ⟨vt1.toArray⟩, .string ⟨#[]⟩, .string ⟨#[]⟩, .slice none 0 0]) := Hd (by rw [hs2]; exact .mk 1 vk1 vi1 vt1 [] [] [] _ Rep.Es.nil)
     clear hs1 hs2
     have hbl := Y5.out.hR.lt
     obtain ⟨k0, k1, k2, k3, k4, k5, k6, f0, f1, f2, f3, f4, f5, f6⟩ := c7_of Y5.out.hR
     go_wp2_with fail
     obtain ⟨d1, d2⟩ := done_pk Y5.out.hR rfl Y5.out.hF Y5.out.hK hBl HX.out
     exact bodyPost_ret (ret_cell7 rfl _ w.heap.size rfl _ _ _ _ _ _ _ _ (blkPut7 Y5.out.hR rfl _ _ _ _ _ _ _)) rfl ⟨⟨_, HSZ.out, d1⟩, d2⟩
    have hk2 : (kind == 2) = false := beq_eq_false_iff_ne.2 hk2
    by_cases hd3 : 3 < deep
    ·skip
     go_wp2_with fail
     generalize w2.alloc (Obj.cells #[.int .i64 2, .int .i64 0, .int .i64 0, .string ⟨#[]⟩, .string ⟨t.toArray⟩, .string ⟨nm.toArray⟩, .slice none 0 0] 82) = w3 at Y3 ⊢
     refine (value_any P kind w3 Y3.out.hK).mono ?_
     rintro e w4 ⟨vk1, vi1, vt1, rfl, hl, hk, hf⟩
     have HL := Hd hl
     have Y4 := Hd (Y3.out.call hk hf)
     clear hk hf hl
     go_wp2_with fail
     refine (lit_any vk1 vi1 vt1 w4).mono ?_
     rintro e w5 ⟨rfl, hf⟩
     have Y5 := Hd (Y4.out.call0 hf)
     clear hf
     obtain ⟨hs1, hs2⟩ := Sz.lit hk1 HL.out
     have HSZ := Hd hs1
     have HX : Hid (Rep.E 82 (fun g => w.heap.size + 1 <= g) w5 (litPr vk1 vi1 vt1).ex [.int .i64 1, .int .i64 vk1, .int .i64 vi1, .string ⟨vt1.toArray⟩, .string ⟨#[]⟩, .string ⟨#[]⟩, .slice none 0 0]) := Hd (by rw [hs2]; exact .mk 1 vk1 vi1 vt1 [] [] [] _ Rep.Es.nil)
     clear hs1 hs2
     have hbl := Y5.out.hR.lt
     obtain ⟨k0, k1, k2, k3, k4, k5, k6, f0, f1, f2, f3, f4, f5, f6⟩ := c7_of Y5.out.hR
     go_wp2_with fail
     obtain ⟨d1, d2⟩ := done_pk Y5.out.hR rfl Y5.out.hF Y5.out.hK hBl HX.out
     exact bodyPost_ret (ret_cell7 rfl _ w.heap.size rfl _ _ _ _ _ _ _ _ (blkPut7 Y5.out.hR rfl _ _ _ _ _ _ _)) rfl ⟨⟨_, HSZ.out, d1⟩, d2⟩
    have hd3b : decide (3 < deep) = false := decide_eq_false hd3
    by_cases hr6 : (r : Int) < 6
    ·skip
     go_wp2_with fail
     generalize w2.alloc (Obj.cells #[.int .i64 2, .int .i64 0, .int .i64 0, .string ⟨#[]⟩, .string ⟨t.toArray⟩, .string ⟨nm.toArray⟩, .slice none 0 0] 82) = w3 at Y3 ⊢
     refine (value_any P kind w3 Y3.out.hK).mono ?_
     rintro e w4 ⟨vk1, vi1, vt1, rfl, hl, hk, hf⟩
     have HL := Hd hl
     have Y4 := Hd (Y3.out.call hk hf)
     clear hk hf hl
     go_wp2_with fail
     refine (lit_any vk1 vi1 vt1 w4).mono ?_
     rintro e w5 ⟨rfl, hf⟩
     have Y5 := Hd (Y4.out.call0 hf)
     clear hf
     obtain ⟨hs1, hs2⟩ := Sz.lit hk1 HL.out
     have HSZ := Hd hs1
     have HX : Hid (Rep.E 82 (fun g => w.heap.size + 1 <= g) w5 (litPr vk1 vi1 vt1).ex [.int .i64 1, .int .i64 vk1, .int .i64 vi1, .string ⟨vt1.toArray⟩, .string ⟨#[]⟩, .string ⟨#[]⟩, .slice none 0 0]) := Hd (by rw [hs2]; exact .mk 1 vk1 vi1 vt1 [] [] [] _ Rep.Es.nil)
     clear hs1 hs2
     have hbl := Y5.out.hR.lt
     obtain ⟨k0, k1, k2, k3, k4, k5, k6, f0, f1, f2, f3, f4, f5, f6⟩ := c7_of Y5.out.hR
     go_wp2_with fail
     obtain ⟨d1, d2⟩ := done_pk Y5.out.hR rfl Y5.out.hF Y5.out.hK hBl HX.out
     exact bodyPost_ret (ret_cell7 rfl _ w.heap.size rfl _ _ _ _ _ _ _ _ (blkPut7 Y5.out.hR rfl _ _ _ _ _ _ _)) rfl ⟨⟨_, HSZ.out, d1⟩, d2⟩
    have hr6b : decide ((r : Int) < 6) = false := decide_eq_false hr6
    by_cases h6 : (r : Int) = 6
    ·go_wp2_with fail
     generalize w2.alloc (Obj.cells #[.int .i64 2, .int .i64 0, .int .i64 0, .string ⟨#[]⟩, .string ⟨t.toArray⟩, .string ⟨nm.toArray⟩, .slice none 0 0] 82) = w3 at Y3 ⊢
     refine (HIH.out kind (deep + 1) (by omega) (by omega) (by omega) (.inl HKIND.out) w3 Y3.out.hK Y3.out.hC).mono ?_
     rintro e w4 ⟨⟨p, hszp, hx⟩, hk, hf⟩
     obtain ⟨po, pk, pi, pz, pt, pn, pa, pe, pc, rfl, hrep⟩ := Px.ex_cells hx
     have HXp := Hd (Rep.E.mono (A' := fun g => w.heap.size + 1 <= g) (fun g hg => by have := Y3.out.sz; omega) hrep)
     have HSp := Hd hszp
     have Y4 := Hd (Y3.out.call hk hf)
     clear hk hf hx hrep hszp
     have HSZ : Hid (Sz (k + 1) (Pr.neg p)) := Hd (Sz.neg HSp.out)
     have hbl := Y4.out.hR.lt
     have hsz1 := Y4.out.sz
     have hnb : ¬ w.heap.size = w4.heap.size := by omega
     obtain ⟨k0, k1, k2, k3, k4, k5, k6, f0, f1, f2, f3, f4, f5, f6⟩ := c7_of Y4.out.hR
     go_wp2_with fail
     obtain ⟨d1, d2⟩ := done_alloc Y4.out.hF Y4.out.hK hBl (un_rep 3 _ _ _ _ _ _ _ HXp.out hsz1)
     exact bodyPost_ret (ret_cell7 rfl _ w.heap.size rfl _ _ _ _ _ _ _ _ (Blk.alloc (blkPut7 Y4.out.hR rfl _ _ _ _ _ _ _) _)) rfl ⟨⟨_, HSZ.out, d1⟩, d2⟩
    ·go_wp2_with fail
     generalize w2.alloc (Obj.cells #[.int .i64 2, .int .i64 0, .int .i64 0, .string ⟨#[]⟩, .string ⟨t.toArray⟩, .string ⟨nm.toArray⟩, .slice none 0 0] 82) = w3 at Y3 ⊢
     refine (num_any P 3 (by decide) (by decide) _ Y3.out.hK).mono ?_
     rintro e w4 ⟨o, rfl, ho, hk, hf⟩
     have Y4 := Hd (Y3.out.call hk hf)
     clear hk hf
     go_wp2_with fail
     refine (HIH.out kind (deep + 1) (by omega) (by omega) (by omega) (.inl HKIND.out) w4 Y4.out.hK Y4.out.hC).mono ?_
     rintro e w5 ⟨⟨p, hszp, hx⟩, hk, hf⟩
     obtain ⟨po, pk, pi, pz, pt, pn, pa, pe, pc, rfl, hrep⟩ := Px.ex_cells hx
     have HXp := Hd (Rep.E.mono (A' := fun g => w.heap.size + 1 <= g) (fun g hg => by have := Y4.out.sz; omega) hrep)
     have HSp := Hd hszp
     have Y5 := Hd (Y4.out.call hk hf)
     clear hk hf hx hrep hszp
     go_wp2_with fail
     refine (HIH.out kind (deep + 1) (by omega) (by omega) (by omega) (.inl HKIND.out) w5 Y5.out.hK Y5.out.hC).mono ?_
     rintro e w6 ⟨⟨q, hszq, hx⟩, hk, hf⟩
     obtain ⟨qo, qk, qi, qz, qt, qn, qa, qe, qc, rfl, hrep⟩ := Px.ex_cells hx
     have HXq := Hd (Rep.E.mono (A' := fun g => w.heap.size + 1 <= g) (fun g hg => by have := Y5.out.sz; omega) hrep)
     have HXp := Hd (Rep.E.keep hf (fun g hg => by simp; omega) HXp.out)
     have HSq := Hd hszq
     have Y6 := Hd (Y5.out.call hk hf)
     clear hk hf hx hrep hszq
     go_wp2_with fail
     refine (two_any (5 + o) p.ex q.ex _ _ w6 _ HXp.out HXq.out).mono ?_
     rintro e w7 ⟨cs, rfl, hrep, hf⟩
     rw [show PM.two (5 + (o : Int)) p.ex q.ex = (Pr.bin (0 + o) p q).ex from congrArg (fun z => PM.two z p.ex q.ex) (by omega)] at hrep
     have Y7 := Hd (Y6.out.call0 hf)
     have HX := Hd (Rep.E.mono (A' := fun g => w.heap.size + 1 <= g) (fun g hg => by have := Y6.out.sz; omega) hrep)
     clear hrep hf
     obtain ⟨yo, yk, yi, yz, yt, yn, yl, ya, ye, yc, _, rfl, _⟩ := Sm.e_cells HX.out
     have HSZ : Hid (Sz (k + 1) (Pr.bin (0 + o) p q)) := Hd (Sz.bin (by omega) HSp.out HSq.out)
     have hbl := Y7.out.hR.lt
     obtain ⟨k0, k1, k2, k3, k4, k5, k6, f0, f1, f2, f3, f4, f5, f6⟩ := c7_of Y7.out.hR
     go_wp2_with fail
     obtain ⟨d1, d2⟩ := done_pk Y7.out.hR rfl Y7.out.hF Y7.out.hK hBl HX.out
     exact bodyPost_ret (ret_cell7 rfl _ w.heap.size rfl _ _ _ _ _ _ _ _ (blkPut7 Y7.out.hR rfl _ _ _ _ _ _ _)) rfl ⟨⟨_, HSZ.out, d1⟩, d2⟩
  ·by_cases hc4 : 3 < deep \/ (r : Int) < 4
   ·have hT : (decide (3 < deep) || decide ((r : Int) < 4)) = true := by simpa using hc4
    clear hc4
    go_wp2_with fail
    all_goals
     refine (num_any P 2 (by decide) (by decide) _ Y1.out.hK).mono ?_
     rintro e w2 ⟨of, rfl, hof, hk, hf⟩
     have Y2 := Hd (Y1.out.call hk hf)
     clear hk hf
     have hkf : 1 + (of : Int) = 1 \/ 1 + (of : Int) = 2 := by omega
     have HKF := Hd hkf
     clear hkf
     go_wp2_with fail
     refine (num_any P 6 (by decide) (by decide) _ Y2.out.hK).mono ?_
     rintro e w3 ⟨o, rfl, ho, hk, hf⟩
     have Y3 := Hd (Y2.out.call hk hf)
     clear hk hf
     go_wp2_with fail
     refine (HIH.out (1 + of) (deep + 1) (by omega) (by omega) (by omega) (.inl HKF.out) w3 Y3.out.hK Y3.out.hC).mono ?_
     rintro e w4 ⟨⟨p, hszp, hx⟩, hk, hf⟩
     obtain ⟨po, pk, pi, pz, pt, pn, pa, pe, pc, rfl, hrep⟩ := Px.ex_cells hx
     have HXp := Hd (Rep.E.mono (A' := fun g => w.heap.size + 1 <= g) (fun g hg => by have := Y3.out.sz; omega) hrep)
     have HSp := Hd hszp
     have Y4 := Hd (Y3.out.call hk hf)
     clear hk hf hx hrep hszp
     go_wp2_with fail
     refine (HIH.out (1 + of) (deep + 1) (by omega) (by omega) (by omega) (.inl HKF.out) w4 Y4.out.hK Y4.out.hC).mono ?_
     rintro e w5 ⟨⟨q, hszq, hx⟩, hk, hf⟩
     obtain ⟨qo, qk, qi, qz, qt, qn, qa, qe, qc, rfl, hrep⟩ := Px.ex_cells hx
     have HXq := Hd (Rep.E.mono (A' := fun g => w.heap.size + 1 <= g) (fun g hg => by have := Y4.out.sz; omega) hrep)
     have HXp := Hd (Rep.E.keep hf (fun g hg => by simp; omega) HXp.out)
     have HSq := Hd hszq
     have Y5 := Hd (Y4.out.call hk hf)
     clear hk hf hx hrep hszq
     go_wp2_with fail
     refine (two_any (8 + o) p.ex q.ex _ _ w5 _ HXp.out HXq.out).mono ?_
     rintro e w6 ⟨cs, rfl, hrep, hf⟩
     rw [show PM.two (8 + (o : Int)) p.ex q.ex = (Pr.bin (3 + o) p q).ex from congrArg (fun z => PM.two z p.ex q.ex) (by omega)] at hrep
     have Y6 := Hd (Y5.out.call0 hf)
     have HX := Hd (Rep.E.mono (A' := fun g => w.heap.size + 1 <= g) (fun g hg => by have := Y5.out.sz; omega) hrep)
     clear hrep hf
     obtain ⟨yo, yk, yi, yz, yt, yn, yl, ya, ye, yc, _, rfl, _⟩ := Sm.e_cells HX.out
     have HSZ : Hid (Sz (k + 1) (Pr.bin (3 + o) p q)) := Hd (Sz.bin (by omega) HSp.out HSq.out)
     have hbl := Y6.out.hR.lt
     obtain ⟨k0, k1, k2, k3, k4, k5, k6, f0, f1, f2, f3, f4, f5, f6⟩ := c7_of Y6.out.hR
     go_wp2_with fail
     obtain ⟨d1, d2⟩ := done_pk Y6.out.hR rfl Y6.out.hF Y6.out.hK hBl HX.out
     exact bodyPost_ret (ret_cell7 rfl _ w.heap.size rfl _ _ _ _ _ _ _ _ (blkPut7 Y6.out.hR rfl _ _ _ _ _ _ _)) rfl ⟨⟨_, HSZ.out, d1⟩, d2⟩
   ·have hd3 : ¬ 3 < deep := fun h => hc4 (.inl h)
    have hr4 : ¬ (r : Int) < 4 := fun h => hc4 (.inr h)
    clear hc4
    by_cases h4 : (r : Int) = 4
    ·go_wp2_with fail
     refine (HIH.out 3 (deep + 1) (by omega) (by omega) (by omega) (.inr ⟨rfl, by omega⟩) w1 Y1.out.hK Y1.out.hC).mono ?_
     rintro e w2 ⟨⟨p, hszp, hx⟩, hk, hf⟩
     obtain ⟨po, pk, pi, pz, pt, pn, pa, pe, pc, rfl, hrep⟩ := Px.ex_cells hx
     have HXp := Hd (Rep.E.mono (A' := fun g => w.heap.size + 1 <= g) (fun g hg => by have := Y1.out.sz; omega) hrep)
     have HSp := Hd hszp
     have Y2 := Hd (Y1.out.call hk hf)
     clear hk hf hx hrep hszp
     have HSZ : Hid (Sz (k + 1) (Pr.not p)) := Hd (Sz.not HSp.out)
     have hbl := Y2.out.hR.lt
     have hsz1 := Y2.out.sz
     have hnb : ¬ w.heap.size = w2.heap.size := by omega
     obtain ⟨k0, k1, k2, k3, k4, k5, k6, f0, f1, f2, f3, f4, f5, f6⟩ := c7_of Y2.out.hR
     go_wp2_with fail
     obtain ⟨d1, d2⟩ := done_alloc Y2.out.hF Y2.out.hK hBl (un_rep 4 _ _ _ _ _ _ _ HXp.out hsz1)
     exact bodyPost_ret (ret_cell7 rfl _ w.heap.size rfl _ _ _ _ _ _ _ _ (Blk.alloc (blkPut7 Y2.out.hR rfl _ _ _ _ _ _ _) _)) rfl ⟨⟨_, HSZ.out, d1⟩, d2⟩
    ·go_wp2_with fail
     refine (num_any P 2 (by decide) (by decide) _ Y1.out.hK).mono ?_
     rintro e w2 ⟨o, rfl, ho, hk, hf⟩
     have Y2 := Hd (Y1.out.call hk hf)
     clear hk hf
     go_wp2_with fail
     refine (HIH.out 3 (deep + 1) (by omega) (by omega) (by omega) (.inr ⟨rfl, by omega⟩) w2 Y2.out.hK Y2.out.hC).mono ?_
     rintro e w3 ⟨⟨p, hszp, hx⟩, hk, hf⟩
     obtain ⟨po, pk, pi, pz, pt, pn, pa, pe, pc, rfl, hrep⟩ := Px.ex_cells hx
     have HXp := Hd (Rep.E.mono (A' := fun g => w.heap.size + 1 <= g) (fun g hg => by have := Y2.out.sz; omega) hrep)
     have HSp := Hd hszp
     have Y3 := Hd (Y2.out.call hk hf)
     clear hk hf hx hrep hszp
     go_wp2_with fail
     refine (HIH.out 3 (deep + 1) (by omega) (by omega) (by omega) (.inr ⟨rfl, by omega⟩) w3 Y3.out.hK Y3.out.hC).mono ?_
     rintro e w4 ⟨⟨q, hszq, hx⟩, hk, hf⟩
     obtain ⟨qo, qk, qi, qz, qt, qn, qa, qe, qc, rfl, hrep⟩ := Px.ex_cells hx
     have HXq := Hd (Rep.E.mono (A' := fun g => w.heap.size + 1 <= g) (fun g hg => by have := Y3.out.sz; omega) hrep)
     have HXp := Hd (Rep.E.keep hf (fun g hg => by simp; omega) HXp.out)
     have HSq := Hd hszq
     have Y4 := Hd (Y3.out.call hk hf)
     clear hk hf hx hrep hszq
     go_wp2_with fail
     refine (two_any (14 + o) p.ex q.ex _ _ w4 _ HXp.out HXq.out).mono ?_
     rintro e w5 ⟨cs, rfl, hrep, hf⟩
     rw [show PM.two (14 + (o : Int)) p.ex q.ex = (Pr.bin (9 + o) p q).ex from congrArg (fun z => PM.two z p.ex q.ex) (by omega)] at hrep
     have Y5 := Hd (Y4.out.call0 hf)
     have HX := Hd (Rep.E.mono (A' := fun g => w.heap.size + 1 <= g) (fun g hg => by have := Y4.out.sz; omega) hrep)
     clear hrep hf
     obtain ⟨yo, yk, yi, yz, yt, yn, yl, ya, ye, yc, _, rfl, _⟩ := Sm.e_cells HX.out
     have HSZ : Hid (Sz (k + 1) (Pr.bin (9 + o) p q)) := Hd (Sz.bin (by omega) HSp.out HSq.out)
     have hbl := Y5.out.hR.lt
     obtain ⟨k0, k1, k2, k3, k4, k5, k6, f0, f1, f2, f3, f4, f5, f6⟩ := c7_of Y5.out.hR
     go_wp2_with fail
     obtain ⟨d1, d2⟩ := done_pk Y5.out.hR rfl Y5.out.hF Y5.out.hK hBl HX.out
     exact bodyPost_ret (ret_cell7 rfl _ w.heap.size rfl _ _ _ _ _ _ _ _ (blkPut7 Y5.out.hR rfl _ _ _ _ _ _ _)) rfl ⟨⟨_, HSZ.out, d1⟩, d2⟩
end Gn
end Go.Proofs.YtmdnhinpaflamaaGreatDoor
namespace Go.Proofs.YtmdnhinpaflamaaGreatDoor
open Go.RowKit
set_option linter.unusedVariables false
namespace Gn
open PM (Ex B)
open Px (ItS itC kIt kTag)
open CM (Pr)
def OkN (n : B) : Prop := Pc.okName n = true /\ n.length <= 2
def viewT (r : Nat) : B := match r with | 0 => [100] | 1 => [101] | 2 => [102] | _ => [103]
theorem view_get {r : Nat} (h : r < 4) : ([.string ⟨#[100]⟩, .string ⟨#[101]⟩, .string ⟨#[102]⟩, .string ⟨#[103]⟩] : List Value)[r]? = some (.string ⟨(viewT r).toArray⟩) := by
 rcases (by omega : r = 0 \/ r = 1 \/ r = 2 \/ r = 3) with rfl | rfl | rfl | rfl <;> rfl
theorem view_ok (r : Nat) : OkN (viewT r) := by unfold viewT; split <;> exact ⟨by decide, by decide⟩
set_option maxRecDepth 100000 in
set_option maxHeartbeats 2000000 in
theorem view_any {B M : Nat} (P : Nat) (w : World) (h : PK B M w P) :
  Calls Tryz.prog 27 #[.pointer (some ⟨P, 0, none⟩)] w fun e w' => ∃ nm : PM.B, e = .returned (.string ⟨nm.toArray⟩) /\ OkN nm /\ PK B M w' P /\ Fr [some P] w w' := by
 have HK := Hd h
 have hl := h.lt'
 have hle := h.le
 clear h
 go_enter Tryz.func27, Tryz.ntmps27
 go_wp2_with fail
 refine (num_any P 4 (by decide) (by decide) _ (HK.out.alloc _)).mono ?_
 rintro e w1 ⟨r, rfl, hr, hk1, hf1⟩
 have h5 := (Blk.new w 9 [.string ⟨#[100]⟩, .string ⟨#[101]⟩, .string ⟨#[102]⟩, .string ⟨#[103]⟩]).keep hf1 (by simp; omega)
 have hc5 := h5.cell r
 rw [view_get (by omega)] at hc5
 have HK1 := Hd hk1
 have HF := Hd (((Fr.refl [some P] w).alloc (.cells #[.string ⟨#[100]⟩, .string ⟨#[101]⟩, .string ⟨#[102]⟩, .string ⟨#[103]⟩] 9)).trans hf1)
 clear h5 hk1 hf1
 go_wp2_with fail
 go_ret
 exact ⟨viewT r, rfl, view_ok r, HK1.out, HF.out⟩
theorem info_u16 : (Tryz.prog.info? 58).map (fun i => (i.zero, i.size, i.bytes)) = some (some (.int .u16 0), 1, 2) := by kernel_rfl
set_option maxRecDepth 100000 in
set_option maxHeartbeats 2000000 in
theorem tags_gen {B M : Nat} (P : Nat) (w : World) (h : PK B M w P) :
  Calls Tryz.prog 28 #[.pointer (some ⟨P, 0, none⟩)] w fun e w' => ∃ (l : List Nat) (v : Value), e = .returned v /\ l.length <= 2 /\ (∀ t ∈ l, t <= 3) /\ Gr kTag 58 w.heap.size w' v (l.map CM.tagI) /\ PK B M w' P /\ Fr [some P] w w' := by
 have HK := Hd h
 have hl := h.lt'
 have hle := h.le
 obtain ⟨i0, hi, hz0, hz1, hz2⟩ := info_parts info_u16
 clear h
 go_enter Tryz.func28, Tryz.ntmps28
 go_wp2_with fail
 refine (num_any P 3 (by decide) (by decide) _ HK.out).mono ?_
 rintro e w1 ⟨n, rfl, hn, hk1, hf1⟩
 have HK1 := Hd hk1
 have HF1 := Hd hf1
 clear hk1 hf1
 go_wp2_with fail
 go_loopw [3, 4] (fun v i wr => ∃ (k : Nat) (acc : List Nat), i = .int .i64 k /\ k <= n /\ acc.length + k <= 2 /\ Hid (∀ t ∈ acc, t <= 3) /\ Hid (Gr kTag 58 w.heap.size wr v (acc.map CM.tagI)) /\ Hid (PK B M wr P) /\ Hid (Fr [some P] w wr)) (fun _ i _ => (intOf i).toNat)
 case atStart => exact ⟨n, [], rfl, Nat.le_refl _, by simp; omega, Hd (by simp), Hd Gr.nil, HK1, HF1⟩
 case round =>
  obtain ⟨k, acc, rfl, hk, hacc, HT, HG, HK2, HF2⟩ := hrel
  by_cases hk0 : k = 0
  ·subst hk0
   go_wp2_with fail
   go_ret
   exact ⟨acc, _, rfl, by omega, HT.out, HG.out, HK2.out, HF2.out⟩
  ·have hk1 : (0 : Int) < k := by omega
   have hk3 : (k : Int) <= 2 := by omega
   go_wp2_with fail
   refine (num_any P 3 (by decide) (by decide) wr HK2.out).mono ?_
   rintro e w3 ⟨r, rfl, hr, hk3', hf3⟩
   have HK3 := Hd hk3'
   have HF3 := Hd (HF2.out.trans hf3)
   have HG3 := Hd (HG.out.keep hf3 (fun g hg => by simp; omega))
   clear hk3' hf3
   have hsz := HF3.out.size
   obtain ⟨⟨cs, hRL, hROW⟩, hOWN⟩ := HG3.out
   have HRL := Hd hRL
   have HROW := Hd hROW
   have HOWN := Hd hOWN
   rw [List.length_map] at hROW
   have HROW3 := Hd (hROW.keep ((Fr.refl [] w3).alloc (.cells #[.int .u16 (1 + (r : Int))] 58)) (by simp))
   obtain ⟨hmx, hby⟩ := Px.lim96 (n := acc.length) (b := 2) (by omega) (by omega)
   clear hRL hROW hOWN HG3
   go_wp2_with (at_builtin; refine wpList_append_row rfl _ _ 24 rfl 58 i0 (.int .u16 0) 1 2 Tryz.underlying24 hi hz0 hz1 hz2 rfl (by decide) u3 acc.length cs rfl HROW3.out ⟨w3.heap.size, 0, none⟩ 1 1 [.int .u16 (1 + (r : Int))] rfl rfl ?c1 ?c2 hmx hby ?_)
   case c1 => exact Lx.four_new w3 58 [.int .u16 (1 + (r : Int))]
   case c2 => simp [Value.oneCell']
   intro v' w4 hr' hf' hb'
   have hx : kTag.E (fun b => w.heap.size <= b /\ u3.ownBlock ≠ some b) w3 (CM.tagI (1 + r)) [.int .u16 (1 + (r : Int))] := by
    show [Value.int .u16 (1 + (r : Int))] = Px.u16C (CM.tagI (1 + r))
    simp [Px.u16C, CM.tagI]
   have hf0 := hf'
   obtain ⟨st1, st2⟩ := Gr.push (x := CM.tagI (1 + r)) HRL.out HROW.out HOWN.out (by omega) hx (by rw [List.length_map]; exact hr') hf' hb'
   have HG4 : Hid (Gr kTag 58 w.heap.size w4 v' ((acc ++ [1 + r]).map CM.tagI)) := Hd (by simpa using st1)
   have HF4 : Hid (Fr [some P] w w4) := Hd (st2 (Nat.le_refl _) HF3.out)
   have HK4 : Hid (PK B M w4 P) := Hd ((HK3.out.alloc _).keep hf0 (fun g hg => by simp at hg; have := HOWN.out g hg.symm; omega))
   clear hr' hf' hb' st1 st2 HROW3 HRL HROW HOWN hx hf0
   go_wp2_with fail
   go_roundw
   case rel => exact ⟨k - 1, acc ++ [1 + r], by go_num, by omega, by simp; omega, Hd (fun t ht => by simp at ht; rcases ht with h | h; exact HT.out t h; omega), HG4, HK4, HF4⟩
   case measure => simp only [intOf]; omega
set_option maxRecDepth 100000 in
set_option maxHeartbeats 2000000 in
theorem where_gen {B C M : Nat} (P : Nat) (vc vk : Value) (l : List PM.It) (ks : List Int) (w : World) (h : PK B M w P) (hc : Cols C P w vc vk l ks) :
  Calls Tryz.prog 70 #[.pointer (some ⟨P, 0, none⟩), vc, vk] w fun e w' => ∃ (o : Option Pr) (v : Value), e = .returned v /\ (∀ p, o = some p -> Sz 6 p) /\ Rep.Es 82 (fun g => w.heap.size <= g) w' (CM.whE o) v /\ PK B M w' P /\ Fr [some P] w w' := by
 have HK := Hd h
 have HC := Hd hc
 have hl := h.lt'
 have hle := h.le
 clear h hc
 go_enter Tryz.func70, Tryz.ntmps70
 go_wp2_with fail
 refine (num_any P 3 (by decide) (by decide) _ HK.out).mono ?_
 rintro e w1 ⟨n, rfl, hn, hk1, hf1⟩
 have HK1 := Hd hk1
 have HF1 := Hd hf1
 have HC1 := Hd (HC.out.keep hf1 (by simp))
 have hs1 := hf1.size
 clear hk1 hf1
 by_cases h0 : (n : Int) = 0
 ·go_wp2_with fail
  go_ret
  exact ⟨none, _, rfl, by simp, Rep.Es.nil, HK1.out, HF1.out⟩
 ·go_wp2_with fail
  refine (expr_gen P vc vk l ks 6 3 0 (by decide) (by decide) (by decide) (.inr ⟨rfl, by decide⟩) w1 HK1.out HC1.out).mono ?_
  rintro e w2 ⟨⟨p, hsz, hx⟩, hk, hf⟩
  obtain ⟨po, pk, pi, pz, pt, pn, pa, pe, pc, rfl, hrep⟩ := Px.ex_cells hx
  have HREP := Hd hrep
  have HSZ := Hd hsz
  have HK2 := Hd hk
  have HF2 := Hd (HF1.out.trans hf)
  have hs2 := hf.size
  clear hk hf hx hrep hsz
  go_wp2_with fail
  go_ret
  refine ⟨some p, _, rfl, fun q hq => by cases hq; exact HSZ.out, ?_, HK2.out.alloc _, HF2.out.alloc _⟩
  have hL : Rep.L 82 (fun g => w.heap.size <= g) w2 [p.ex] ([.int .i64 po, .int .i64 pk, .int .i64 pi, .string ⟨pz.toArray⟩, .string ⟨pt.toArray⟩, .string ⟨pn.toArray⟩, .slice pa pe pc] ++ []) := .cons _ _ _ _ (Rep.E.mono (fun g hg => by omega) HREP.out) .nil
  rw [List.append_nil] at hL
  exact es_new hL (by omega) (by show 1 <= maxLen; simp [maxLen])
end Gn
end Go.Proofs.YtmdnhinpaflamaaGreatDoor
namespace Go.Proofs.YtmdnhinpaflamaaGreatDoor
open Go.RowKit
set_option linter.unusedVariables false
set_option linter.unusedSimpArgs false
namespace CM
open LexM (Tok)
open PM (B Ex Col It St PS zeroTok wordy two un colEx opOr opAnd opSum opTerm opComp)
open Pc (Pc Line okName okText render toks blanks)
section
variable {α β : Type} {N : Nat}
end
theorem rlen_app (a b : Line) : (render (a ++ b)).length = (render a).length + (render b).length := by
 induction a with
 |nil => simp [render]
 |cons x a ih =>
  obtain ⟨g, c⟩ := x
  simp only [List.cons_append, render, List.length_append, ih]
  omega
theorem rlen_cons (g : Nat) (c : Pc) (L : Line) : (render ((g, c) :: L)).length = g + c.bytes.length + (render L).length := by simp [render, blanks]; omega
theorem b_name (t : B) : (Pc.name t).bytes = t := rfl
theorem b_word (t : B) : (Pc.word t).bytes = t := rfl
theorem b_num (v : Nat) : (Pc.num v).bytes = Lib.decDigits v := rfl
theorem b_text (t : B) : (Pc.text t).bytes = 39 :: (Pc.quo t ++ [39]) := rfl
theorem b_sign (t : B) : (Pc.sign t).bytes = t := rfl
theorem rlen_nil : (render []).length = 0 := rfl
theorem rlen_gap (p : Pr) (g : Nat) : (render (p.line g)).length = g + (render (p.line 0)).length := by cases p <;> simp only [Pr.line, rlen_cons] <;> omega
theorem rlen_cl (c : Cl) (g : Nat) : (render (c.line g)).length = (render (c.line 0)).length + g := by
 unfold Cl.line
 split <;> simp only [rlen_cons] <;> omega
theorem rlen_sel (s : Sel) : (render (s.line 1)).length = (render (s.line 0)).length + 1 := by simp only [Sel.line, rlen_cons]; omega
theorem rlen_wr (s : Wr) : (render (s.line 1)).length = (render (s.line 0)).length + 1 := by cases s <;> simp only [Wr.line, rlen_cons] <;> omega
end CM
end Go.Proofs.YtmdnhinpaflamaaGreatDoor
namespace Go.Proofs.YtmdnhinpaflamaaGreatDoor
open Go.RowKit
set_option linter.unusedVariables false
set_option linter.unusedSimpArgs false
namespace Gn
open PM (Ex B)
open Px (SR SS StR ItS TagS ColS itC kIt kTag FlatS frSet ret_cell13 c13_of put13 frPut13 blkPut13 c7_of)
open CM (Pr Qs Wr Sel Im Co Cl)
section
variable {B M P b i : Nat} {w0 w w' : World} {v : Value}
structure Gd (B M P : Nat) (w0 w : World) : Prop where
 pk : PK B M w P
 fr : Fr [some P] w0 w
 lt : P < w0.heap.size
 le : B <= w0.heap.size
theorem Gd.start (h : PK B M w P) : Gd B M P w w := ⟨h, Fr.refl _ _, h.lt', h.le⟩
theorem Gd.alloc (h : Gd B M P w0 w) (o : Obj) : Gd B M P w0 (w.alloc o) := ⟨h.pk.alloc o, h.fr.alloc o, h.lt, h.le⟩
theorem Gd.drew (h : Gd B M P w0 w) : Gd B M P w0 w.drew := ⟨h.pk.drew, h.fr.drew, h.lt, h.le⟩
theorem Gd.set (h : Gd B M P w0 w) (hb : w0.heap.size <= b) : Gd B M P w0 (w.setCell ⟨b, i, none⟩ v) :=
 ⟨h.pk.keep (frSet (P := b) _) (by have := h.le; simp; omega), h.fr.setCell (p := ⟨b, i, none⟩) (.inr hb) v, h.lt, h.le⟩
theorem Gd.call (h : Gd B M P w0 w) (h' : PK B M w' P) (hf : Fr [some P] w w') : Gd B M P w0 w' := ⟨h', h.fr.trans hf, h.lt, h.le⟩
theorem Gd.call0 (h : Gd B M P w0 w) (hf : Fr [] w w') : Gd B M P w0 w' := ⟨h.pk.keep hf (by simp), h.fr.trans' hf (by simp), h.lt, h.le⟩
theorem Gd.own {o : Option Nat} (h : Gd B M P w0 w) (hf : Fr [o] w w') (ho : ∀ g, o = some g -> w0.heap.size <= g) : Gd B M P w0 w' :=
 ⟨h.pk.keep hf (fun g hg => by simp at hg; have := ho g hg.symm; have := h.le; omega), h.fr.trans' hf (fun g hg => by simp at hg; exact .inr (ho g hg.symm)), h.lt, h.le⟩
end
structure Ck (b0 b1 : Nat) (w : World) (vc vk : Value) (l : List PM.It) (ks : List Int) : Prop where
 its : ItS (fun g => b0 <= g /\ g < b1) w vc l
 ints : IntS (fun g => b0 <= g /\ g < b1) w vk ks
 ok : ∀ x ∈ l, OkIt x
 len : ks.length = l.length
 short : l.length <= 20
 has : ∀ k : Int, k = 1 \/ k = 2 -> k ∈ ks
section
variable {b0 b1 P : Nat} {w w' : World} {vc vk : Value} {l : List PM.It} {ks : List Int}
theorem Ck.keep {X : List (Option Nat)} (h : Ck b0 b1 w vc vk l ks) (hf : Fr X w w') (hX : ∀ g, b0 <= g -> g < b1 -> some g ∉ X) : Ck b0 b1 w' vc vk l ks :=
 ⟨h.its.keep hf (fun g hg => hX g hg.1 hg.2), h.ints.keep hf (fun g hg => hX g hg.1 hg.2), h.ok, h.len, h.short, h.has⟩
theorem Ck.wide {c1 : Nat} (h : Ck b0 b1 w vc vk l ks) (hc : b1 <= c1) : Ck b0 c1 w vc vk l ks :=
 ⟨h.its.mono (fun g hg => ⟨hg.1, by omega⟩), h.ints.mono (fun g hg => ⟨hg.1, by omega⟩), h.ok, h.len, h.short, h.has⟩
theorem Ck.cols (h : Ck b0 b1 w vc vk l ks) (hP : P < b0) (hb : b1 <= w.heap.size) : Cols w.heap.size P w vc vk l ks :=
 cols_of (Nat.le_refl _) (h.its.mono (fun g hg => ⟨by omega, by omega⟩)) (h.ints.mono (fun g hg => ⟨by omega, by omega⟩)) h.ok h.len h.short h.has
theorem Ck.new {n i : Nat} (h1 : ItS (fun g => n <= g) w vc (tits i)) (h2 : IntS (fun g => n <= g) w vk (tkinds i)) : Ck n w.heap.size w vc vk (tits i) (tkinds i) :=
 ⟨h1.live, h2.live, tits_ok, by rw [tits_len, tkinds_len], by rw [tits_len]; decide, tkinds_has⟩
end
theorem Sch.keep' {n : Nat} {w w' : World} {S : List (Option Nat)} (h : Sch n w) (hf : Fr S w w') (hS : ∀ g, n < g -> g < n + 5 -> some g ∉ S) : Sch n w' :=
 ⟨h.t.keep hf (hS _ (by omega) (by omega)), h.i.keep hf (hS _ (by omega) (by omega)), h.u.keep hf (hS _ (by omega) (by omega)), h.l.keep hf (hS _ (by omega) (by omega))⟩
def clOf (t n : B) : Cl := ⟨t, n⟩
theorem cl_ok' {t n : B} (h : ColTN t n) : (clOf t n).ok = true /\ (Pc.render ((clOf t n).line 0)).length <= 5 := by
 have h1 := h.lt
 have h2 := h.ln
 refine ⟨?_, ?_⟩
 ·simp only [clOf, Cl.ok, Bool.and_eq_true, Bool.or_eq_true]
  exact ⟨by rcases h.table with rfl | h; exact .inl rfl; exact .inr h, h.name⟩
 ·unfold clOf Cl.line
  split <;> simp only [CM.rlen_cons, CM.rlen_nil, CM.b_name, CM.b_sign, List.length_cons, List.length_nil] <;> omega
theorem cl_rep (A : Nat -> Prop) (w : World) (t n : B) : Rep.E 82 A w (clOf t n).ex (exC t n) := .mk 2 0 0 [] t n [] _ Rep.Es.nil
def bndS : Qs -> Nat
 |.view _ _ _ => 9000
 |.closure _ _ _ => 9000
 |_ => 8000
def OkS (q : Qs) : Prop := q.ok 64 = true /\ (Pc.render q.line).length <= bndS q
theorem Sz.ok64 {p : Pr} (h : Sz 6 p) : CM.okPr 64 p = true /\ (Pc.render (p.line 0)).length <= 2560 := ⟨by
 have := h.nest
 simp only [CM.okPr, Bool.and_eq_true, decide_eq_true_eq]
 exact ⟨h.ok, by omega⟩, by have := h.len; show (sh p).length <= _; omega⟩
def OkW (o : Option Pr) : Prop := ∀ p, o = some p -> Sz 6 p
theorem okW_of {o : Option Pr} (h : OkW o) : CM.okW 64 o = true /\ (Pc.render (CM.whereL o)).length <= 2600 := by
 cases o with
 |none => exact ⟨rfl, by simp [CM.whereL, CM.rlen_nil]⟩
 |some p =>
  obtain ⟨h1, h2⟩ := (h p rfl).ok64
  refine ⟨h1, ?_⟩
  simp only [CM.whereL, CM.rlen_cons, CM.rlen_gap p 1, CM.b_word, List.length_cons, List.length_nil]
  omega
def OkJ (o : Option (B × Cl × Cl)) : Prop := CM.okJ o = true /\ (Pc.render (CM.joinL o)).length <= 100
def OkO (o : Option (Cl × Bool)) : Prop := CM.okO o = true /\ (Pc.render (CM.orderL o)).length <= 100
theorem okJ_none : OkJ none := ⟨rfl, by simp [CM.joinL, CM.rlen_nil]⟩
theorem okO_none : OkO none := ⟨rfl, by simp [CM.orderL, CM.rlen_nil]⟩
theorem okJ_some {j : B} {t n t' n' : B} (hj : OkN j) (h : ColTN t n) (h' : ColTN t' n') : OkJ (some (j, clOf t n, clOf t' n')) := by
 obtain ⟨a1, a2⟩ := cl_ok' h
 obtain ⟨b1, b2⟩ := cl_ok' h'
 refine ⟨by simp only [CM.okJ, hj.1, a1, b1, Bool.and_self], ?_⟩
 have := hj.2
 simp only [CM.joinL, CM.rlen_cons, CM.rlen_app, CM.rlen_cl _ 1, CM.b_name, CM.b_sign, CM.b_word, List.length_cons, List.length_nil]
 omega
theorem okO_some {t n : B} (d : Bool) (h : ColTN t n) : OkO (some (clOf t n, d)) := by
 obtain ⟨a1, a2⟩ := cl_ok' h
 refine ⟨a1, ?_⟩
 cases d <;> simp only [CM.orderL, CM.rlen_cons, CM.rlen_app, CM.rlen_nil, CM.rlen_cl _ 1, CM.b_word, List.length_cons, List.length_nil, if_true, if_false, Bool.false_eq_true] <;> omega
def OkI (l : List Im) : Prop := l.length <= 6 /\ ∀ x ∈ l, x.ok = true /\ (Pc.render (x.line 0)).length <= 12
theorem okI_nil : OkI [] := ⟨by simp, by simp⟩
theorem OkI.snoc {l : List Im} {x : Im} (h : ∀ x ∈ l, x.ok = true /\ (Pc.render (x.line 0)).length <= 12) (hx : x.ok = true /\ (Pc.render (x.line 0)).length <= 12) : ∀ y ∈ l ++ [x], y.ok = true /\ (Pc.render (y.line 0)).length <= 12 := fun y hy => by
 rcases List.mem_append.1 hy with h1 | h1
 ·exact h y h1
 ·rw [List.mem_singleton.1 h1]; exact hx
theorem im_agg {k : Nat} {t n : B} (hk : k < 3) (h : ColTN t n) : (Im.agg k (clOf t n)).ok = true /\ (Pc.render ((Im.agg k (clOf t n)).line 0)).length <= 12 := by
 obtain ⟨a1, a2⟩ := cl_ok' h
 have hl : (CM.aggW k).length <= 3 := by unfold CM.aggW; split <;> decide
 refine ⟨by simp [Im.ok, hk, a1], ?_⟩
 simp only [Im.line, CM.rlen_cons, CM.rlen_app, CM.rlen_nil, CM.b_word, CM.b_sign, List.length_cons, List.length_nil]
 omega
theorem im_count : Im.count.ok = true /\ (Pc.render (Im.count.line 0)).length <= 12 := ⟨rfl, by decide⟩
theorem im_col {t n : B} (h : ColTN t n) : (Im.col (clOf t n)).ok = true /\ (Pc.render ((Im.col (clOf t n)).line 0)).length <= 12 := by
 obtain ⟨a1, a2⟩ := cl_ok' h
 exact ⟨a1, by show (Pc.render ((clOf t n).line 0)).length <= 12; omega⟩
theorem rlen_im (x : Im) : (Pc.render (x.line 1)).length = (Pc.render (x.line 0)).length + 1 := by
 cases x with
 |col c => exact CM.rlen_cl c 1
 |count => rfl
 |agg k c => simp only [Im.line, CM.rlen_cons]; omega
theorem rlen_ims : ∀ (l : List Im), (∀ x ∈ l, x.ok = true /\ (Pc.render (x.line 0)).length <= 12) -> (Pc.render (CM.lines Im.line l)).length <= 14 * l.length
 |[], _ => by simp [CM.lines, CM.rlen_nil]
 |x :: r, h => by
  have h1 := (h x (by simp)).2
  have h2 := rlen_ims r (fun y hy => h y (by simp [hy]))
  simp only [CM.lines, CM.rlen_cons, CM.rlen_app, rlen_im, CM.b_sign, List.length_cons, List.length_nil]
  omega
theorem okI_of {l : List Im} (h : OkI l) : l.all Im.ok = true /\ (Pc.render (CM.itemsL l)).length <= 100 := by
 obtain ⟨h1, h2⟩ := h
 refine ⟨List.all_eq_true.2 fun x hx => (h2 x hx).1, ?_⟩
 cases l with
 |nil => decide
 |cons x r =>
  have h3 := (h2 x (by simp)).2
  have h4 := rlen_ims r (fun y hy => h2 y (by simp [hy]))
  simp only [List.length_cons] at h1
  simp only [CM.itemsL, CM.rlen_app, rlen_im]
  omega
theorem okS_sel {s : Sel} (h1 : OkI s.items) (h2 : OkN s.table) (h3 : OkJ s.join) (h4 : OkW s.wher) (h5 : OkO s.order) : OkS (.select s) := by
 obtain ⟨a1, a2⟩ := okI_of h1
 obtain ⟨c1, c2⟩ := okW_of h4
 have := h2.2
 have := h3.2
 have := h5.2
 refine ⟨by simp only [Qs.ok, Sel.ok, a1, h2.1, h3.1, c1, h5.1, Bool.and_self], ?_⟩
 show (Pc.render (s.line 0)).length <= 8000
 simp only [Sel.line, CM.rlen_cons, CM.rlen_app, CM.b_word, CM.b_name, List.length_cons, List.length_nil]
 omega
theorem tname_ok (i : Nat) : OkN (tname i) := by unfold tname; split <;> exact ⟨by decide, by decide⟩
end Gn
end Go.Proofs.YtmdnhinpaflamaaGreatDoor
namespace Go.Proofs.YtmdnhinpaflamaaGreatDoor
open Go.RowKit
set_option linter.unusedVariables false
set_option linter.unusedSimpArgs false
namespace Gn
open PM (Ex B)
open Px (SR SS StR ItS TagS ColS itC kIt kTag kEx RL FlatS frSet ret_cell13 c13_of put13 frPut13 blkPut13 c7_of)
open CM (Pr Qs Wr Sel Im Co Cl)
def IsD (q : Qs) : Prop := (∃ s, q = .select s) \/ ∃ x, q = .write x
theorem Gd.less {B M M' P : Nat} {w0 w w' : World} (h : Gd B M P w0 w) (h' : PK B M' w' P) (hf : Fr [some P] w w') : Gd B M' P w0 w' := ⟨h', h.fr.trans hf, h.lt, h.le⟩
theorem Sz.up {k m : Nat} {p : Pr} (h : Sz k p) (hk : k <= m) : Sz m p := by
 have h1 := h.nest
 have h2 := h.len
 have h3 : 2 ^ k <= 2 ^ m := Nat.pow_le_pow_right (by decide) hk
 exact ⟨h.ok, by omega, by omega⟩
theorem okS_ins {t : B} {x : Pr} {r : List Pr} (ht : OkN t) (h : ∀ p ∈ x :: r, Sz 1 p) (hr : r.length <= 3) : OkS (.write (.insert t x r)) := by
 have hl : ∀ l : List Pr, (∀ p ∈ l, Sz 1 p) -> l.all (CM.okPr 64) = true /\ (Pc.render (CM.lines (fun g p => Pr.line g p) l)).length <= 70 * l.length := by
  intro l
  induction l with
  |nil => exact fun _ => ⟨rfl, by simp [CM.lines, CM.rlen_nil]⟩
  |cons p l ih =>
   intro h
   obtain ⟨i1, i2⟩ := ih (fun q hq => h q (by simp [hq]))
   have hp := h p (by simp)
   have hp1 := (hp.up (m := 6) (by decide)).ok64.1
   have hp2 : (Pc.render (p.line 0)).length + 20 <= 80 := hp.len
   refine ⟨by simp [hp1, i1], ?_⟩
   simp only [CM.lines, CM.rlen_cons, CM.rlen_app, CM.rlen_gap p 1, CM.b_sign, List.length_cons, List.length_nil]
   omega
 obtain ⟨a1, a2⟩ := hl r (fun p hp => h p (by simp [hp]))
 have hx := h x (by simp)
 have hx1 := (hx.up (m := 6) (by decide)).ok64.1
 have hx2 : (Pc.render (x.line 0)).length + 20 <= 80 := hx.len
 have := ht.2
 refine ⟨by simp only [Qs.ok, Wr.ok, ht.1, hx1, a1, Bool.and_self], ?_⟩
 show (Pc.render (Wr.line 0 (.insert t x r))).length <= 8000
 simp only [Wr.line, CM.rlen_cons, CM.rlen_app, CM.rlen_nil, CM.b_word, CM.b_name, CM.b_sign, List.length_cons, List.length_nil]
 omega
theorem okS_upd {t m : B} {x : Pr} {wh : Option Pr} (ht : OkN t) (hm : OkN m) (hx : Sz 6 x) (hw : OkW wh) : OkS (.write (.update t m x wh)) := by
 obtain ⟨a1, a2⟩ := hx.ok64
 obtain ⟨c1, c2⟩ := okW_of hw
 have := ht.2
 have := hm.2
 refine ⟨by simp only [Qs.ok, Wr.ok, ht.1, hm.1, a1, c1, Bool.and_self], ?_⟩
 show (Pc.render (Wr.line 0 (.update t m x wh))).length <= 8000
 simp only [Wr.line, CM.rlen_cons, CM.rlen_app, CM.rlen_nil, CM.rlen_gap x 1, CM.b_word, CM.b_name, CM.b_sign, List.length_cons, List.length_nil]
 omega
theorem okS_del {t : B} {wh : Option Pr} (ht : OkN t) (hw : OkW wh) : OkS (.write (.delete t wh)) := by
 obtain ⟨c1, c2⟩ := okW_of hw
 have := ht.2
 refine ⟨by simp only [Qs.ok, Wr.ok, ht.1, c1, Bool.and_self], ?_⟩
 show (Pc.render (Wr.line 0 (.delete t wh))).length <= 8000
 simp only [Wr.line, CM.rlen_cons, CM.rlen_app, CM.rlen_nil, CM.b_word, CM.b_name, CM.b_sign, List.length_cons, List.length_nil]
 omega
structure Dt (tab : List Value) (i B M P n bs bt b0 b1 : Nat) (w0 : World) (vc vk : Value) (w : World) : Prop where
 d : Gd B M P w0 w
 s : Sch n w
 r : Blk w w0.heap.size 29 [.int .i64 0, .string ⟨#[]⟩, .string ⟨#[]⟩, .slice none 0 0, .slice none 0 0, .slice none 0 0, .slice none 0 0, .string ⟨#[]⟩, .slice none 0 0, .slice none 0 0, .slice none 0 0, .bool false, .slice none 0 0]
 sc : Blk w bs 69 [.slice (some ⟨n + 4, 0, none⟩) 2 2, .slice none 0 0]
 tb : Blk w bt 75 tab
 ck : Ck b0 b1 w vc vk (tits i) (tkinds i)
 hn : w0.heap.size < n
 hs : n + 4 < bs
 ht : bs < bt
 h0 : bt < b0
 h01 : b0 <= b1
 h1 : b1 <= w.heap.size
section
variable {tab : List Value} {i B M P n bs bt b0 b1 : Nat} {w0 w w' : World} {vc vk : Value}
theorem Dt.any {X : List (Option Nat)} (h : Dt tab i B M P n bs bt b0 b1 w0 vc vk w) (hd : Gd B M P w0 w') (hf : Fr X w w') (hX : ∀ g, w0.heap.size <= g -> g < b1 -> some g ∉ X) : Dt tab i B M P n bs bt b0 b1 w0 vc vk w' := by
 have hn := h.hn
 have hs := h.hs
 have ht := h.ht
 have h0 := h.h0
 have h01 := h.h01
 have h1 := h.h1
 have h3 := hf.size
 exact ⟨hd, h.s.keep' hf (fun g g1 g2 => hX g (by omega) (by omega)), h.r.keep hf (hX _ (by omega) (by omega)), h.sc.keep hf (hX _ (by omega) (by omega)), h.tb.keep hf (hX _ (by omega) (by omega)), h.ck.keep hf (fun g g1 g2 => hX g (by omega) g2), hn, hs, ht, h0, h01, by omega⟩
theorem Dt.call (h : Dt tab i B M P n bs bt b0 b1 w0 vc vk w) (hk : PK B M w' P) (hf : Fr [some P] w w') : Dt tab i B M P n bs bt b0 b1 w0 vc vk w' := by
 have := h.d.lt
 exact h.any (h.d.call hk hf) hf (fun g g1 g2 => by simp; omega)
theorem Dt.call0 (h : Dt tab i B M P n bs bt b0 b1 w0 vc vk w) (hf : Fr [] w w') : Dt tab i B M P n bs bt b0 b1 w0 vc vk w' := h.any (h.d.call0 hf) hf (by simp)
theorem Dt.alloc (h : Dt tab i B M P n bs bt b0 b1 w0 vc vk w) (o : Obj) : Dt tab i B M P n bs bt b0 b1 w0 vc vk (w.alloc o) := h.call0 ((Fr.refl [] w).alloc o)
theorem Dt.drew (h : Dt tab i B M P n bs bt b0 b1 w0 vc vk w) : Dt tab i B M P n bs bt b0 b1 w0 vc vk w.drew := h.call0 (Fr.drew (Fr.refl [] w))
theorem Dt.lt (h : Dt tab i B M P n bs bt b0 b1 w0 vc vk w) : w0.heap.size < b1 := by
 have hn := h.hn
 have hs := h.hs
 have ht := h.ht
 have h0 := h.h0
 have h01 := h.h01
 omega
theorem Dt.set {b j : Nat} {v : Value} (h : Dt tab i B M P n bs bt b0 b1 w0 vc vk w) (hb : b1 <= b) : Dt tab i B M P n bs bt b0 b1 w0 vc vk (w.setCell ⟨b, j, none⟩ v) := by
 have := h.lt
 exact h.any (h.d.set (by omega)) (frSet (P := b) v) (fun g g1 g2 => by simp; omega)
theorem Dt.own {o : Option Nat} (h : Dt tab i B M P n bs bt b0 b1 w0 vc vk w) (hf : Fr [o] w w') (ho : ∀ g, o = some g -> b1 <= g) : Dt tab i B M P n bs bt b0 b1 w0 vc vk w' := by
 have := h.lt
 exact h.any (h.d.own hf (fun g hg => by have := ho g hg; omega)) hf (fun g g1 g2 hm => by simp at hm; have := ho g hm.symm; omega)
theorem Dt.cols (h : Dt tab i B M P n bs bt b0 b1 w0 vc vk w) : Cols w.heap.size P w vc vk (tits i) (tkinds i) := by
 have hn := h.hn
 have hs := h.hs
 have ht := h.ht
 have h0 := h.h0
 have h01 := h.h01
 have := h.d.lt
 exact h.ck.cols (by omega) h.h1
theorem Dt.done {q : Qs} {a0 a1 a2 a3 a4 a5 a6 a7 a8 a9 a10 a11 a12 : Value} (h : Dt tab i B M P n bs bt b0 b1 w0 vc vk w) (hq : OkS q) (hD : IsD q) (hs : SR (fun g => b1 <= g) w q.st [a0, a1, a2, a3, a4, a5, a6, a7, a8, a9, a10, a11, a12]) :
  (∃ q : Qs, OkS q /\ IsD q /\ StR w0.heap.size (put13 w w0.heap.size a0 a1 a2 a3 a4 a5 a6 a7 a8 a9 a10 a11 a12) (.returned (.agg #[a0, a1, a2, a3, a4, a5, a6, a7, a8, a9, a10, a11, a12])) q.st) /\
   PK B M (put13 w w0.heap.size a0 a1 a2 a3 a4 a5 a6 a7 a8 a9 a10 a11 a12) P /\ Fr [some P] w0 (put13 w w0.heap.size a0 a1 a2 a3 a4 a5 a6 a7 a8 a9 a10 a11 a12) := by
 have hl := h.lt
 have hf := frPut13 (T := w0.heap.size) (Fr.refl [some w0.heap.size] w) (.inl (by simp)) a0 a1 a2 a3 a4 a5 a6 a7 a8 a9 a10 a11 a12
 have hd := h.d.own hf (fun g hg => by cases hg; omega)
 exact ⟨⟨q, hq, hD, _, rfl, (hs.keep hf (fun g hg => by simp; omega)).mono (fun g hg => by omega)⟩, hd.pk, hd.fr⟩
end
theorem row_blk {w : World} {E : TypeId} {size n : Nat} {v : Value} {xs : List Value} (h : Row w E size v n xs) {g : Nat} (hg : v.ownBlock = some g) : ∃ cs, Blk w g E cs := by
 rcases h.2 with ⟨rfl, _⟩ | ⟨b, off, cap, cur, rfl, hb, _⟩
 ·simp [Value.ownBlock] at hg
 ·simp only [Value.ownBlock, Option.some.injEq] at hg
  subst hg
  exact ⟨cur, hb⟩
theorem blk_type {w : World} {b : Nat} {E E' : TypeId} {cs cs' : List Value} (h : Blk w b E cs) (h' : Blk w b E' cs') : E = E' := by
 unfold Blk at h h'
 rw [h] at h'
 simp at h'
 exact h'.2
section
variable {T : TypeId} {A : Nat -> Prop} {w : World}
mutual
theorem E_typed {e : Ex} {cs : List Value} : Rep.E T A w e cs -> Rep.E T (fun g => A g /\ ∃ xs, Blk w g T xs) w e cs
 |.mk op kind int text table name args v h => .mk op kind int text table name args v (Es_typed h)
theorem L_typed {l : List Ex} {cs : List Value} : Rep.L T A w l cs -> Rep.L T (fun g => A g /\ ∃ xs, Blk w g T xs) w l cs
 |.nil => .nil
 |.cons e r xs ys h k => .cons e r xs ys (E_typed h) (L_typed k)
theorem Es_typed {l : List Ex} {v : Value} : Rep.Es T A w l v -> Rep.Es T (fun g => A g /\ ∃ xs, Blk w g T xs) w l v
 |.mk l v xs h k hk => .mk l v xs (L_typed h) k (fun g hg => ⟨hk g hg, row_blk k hg⟩)
end
theorem Es_off {l : List Ex} {v : Value} {b : Nat} {E : TypeId} {cs : List Value} (h : Rep.Es T A w l v) (hb : Blk w b E cs) (hE : T ≠ E) : Rep.Es T (fun g => A g /\ g ≠ b) w l v :=
 Rep.Es.mono (fun g hg => ⟨hg.1, fun he => by
  obtain ⟨xs, hx⟩ := hg.2
  subst he
  exact hE (blk_type hx hb)⟩) (Es_typed h)
end
theorem lit_p {kind k i : Int} {t : B} (h : Lit kind k i t) : ∃ p : Pr, Sz 1 p /\ p.ex = .mk 1 k i t [] [] [] := ⟨_, Sz.lit (by decide) h⟩
theorem lit_rep (A : Nat -> Prop) (w : World) {k i : Int} {t : B} {p : Pr} (h : p.ex = .mk 1 k i t [] [] []) : kEx.E A w p.ex [.int .i64 1, .int .i64 k, .int .i64 i, .string ⟨t.toArray⟩, .string ⟨#[]⟩, .string ⟨#[]⟩, .slice none 0 0] := by
 rw [h]
 exact .mk 1 k i t [] [] [] _ Rep.Es.nil
theorem ex_info : (Tryz.prog.info? 82).map (fun i => (i.zero, i.size, i.bytes)) = some (some (.agg #[.int .i64 0, .int .i64 0, .int .i64 0, .string ⟨#[]⟩, .string ⟨#[]⟩, .string ⟨#[]⟩, .slice none 0 0]), 7, 96) := by kernel_rfl
theorem upd_es {b z : Nat} {w : World} {y : Pr} {c0 c1 c2 c3 c4 c5 c6 : Value} {n : Nat} (h : Rep.E 82 (fun g => n <= g /\ g < w.heap.size) w y.ex [c0, c1, c2, c3, c4, c5, c6]) (hz : z <= n) (hn : n <= w.heap.size) (hb : b < n) :
  Rep.Es 82 (fun g => z <= g /\ g ≠ b) (w.alloc (.cells #[c0, c1, c2, c3, c4, c5, c6] 82)) [y.ex] (.slice (some ⟨w.heap.size, 0, none⟩) 1 1) := by
 have hL := Rep.L.cons _ _ _ _ (Rep.E.mono (A' := fun g => z <= g /\ g ≠ b) (fun g hg => ⟨by omega, by omega⟩) h) .nil
 rw [List.append_nil] at hL
 exact es_new hL ⟨by omega, by omega⟩ (by simp [maxLen])
def kindOf (i k : Nat) : Int := (tkinds i).getD k 0
theorem kinds_cell {i n : Nat} {w : World} (h : Sch n w) {k : Nat} (hk : k < 3) : w.cell? ⟨if i = 0 then n + 1 else n + 3, k * 3 + 1, none⟩ = some (.int .i64 (kindOf i k)) := by
 by_cases hi : i = 0
 ·subst hi
  rcases (by omega : k = 0 \/ k = 1 \/ k = 2) with rfl | rfl | rfl
  ·exact h.t.cell 1
  ·exact h.t.cell 4
  ·exact h.t.cell 7
 ·rw [if_neg hi]
  have hkd : ∀ k, kindOf i k = ([2, 1, 1] : List Int).getD k 0 := fun k => by unfold kindOf tkinds tcols; rw [if_neg hi]; rfl
  rw [hkd]
  rcases (by omega : k = 0 \/ k = 1 \/ k = 2) with rfl | rfl | rfl
  ·exact h.u.cell 1
  ·exact h.u.cell 4
  ·exact h.u.cell 7
end Gn
end Go.Proofs.YtmdnhinpaflamaaGreatDoor
