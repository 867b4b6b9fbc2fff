/- An expression that is made. -/
import Derived.Test.YtmdnhinpaflamaaDoorGaC
import Derived.Test.YtmdnhinpaflamaaDoorRefB
namespace Go.Proofs.YtmdnhinpaflamaaDoor
open Go.RowKit
set_option linter.unusedVariables false
namespace Gn
open PM (Ex B)
open Px (z7 put7 frPut7 blkPut7 ret_cell7 c7_of ExR ItS itC kIt)
open CM (Pr)

theorem render_app : ∀ (a b : Pc.Line), Pc.render (a ++ b) = Pc.render a ++ Pc.render b
  | [], b => rfl
  | (g, c) :: a, b => by simp [Pc.render, render_app a b]
theorem line_gap (p : Pr) (g : Nat) : Pc.render (p.line g) = Pc.blanks g ++ Pc.render (p.line 0) := by cases p <;> simp [Pr.line, Pc.render, Pc.blanks]
/-- the text of an expression -/
def sh (p : Pr) : B := Pc.render (p.line 0)
theorem sh_one (p : Pr) : Pc.render (p.line 1) = 32 :: sh p := by rw [line_gap]; rfl
theorem sh_int (v : Nat) : sh (.int v) = Lib.decDigits v := by simp [sh, Pr.line, Pc.render, Pc.blanks, Pc.Pc.bytes]
theorem sh_text (t : B) : sh (.text t) = 39 :: (Pc.quo t ++ [39]) := by simp [sh, Pr.line, Pc.render, Pc.blanks, Pc.Pc.bytes]
theorem sh_col (n : B) : sh (.col n) = n := by simp [sh, Pr.line, Pc.render, Pc.blanks, Pc.Pc.bytes]
theorem sh_tcol (t n : B) : sh (.tcol t n) = t ++ [46] ++ n := by simp [sh, Pr.line, Pc.render, Pc.blanks, Pc.Pc.bytes]
theorem sh_neg (a : Pr) : sh (.neg a) = [40, 45] ++ sh a ++ [41] := by simp [sh, Pr.line, Pc.render, Pc.blanks, Pc.Pc.bytes, render_app]
theorem sh_not (a : Pr) : sh (.not a) = [40, 110, 111, 116, 32] ++ sh a ++ [41] := by
  have := sh_one a
  simp [sh, Pr.line, Pc.render, Pc.blanks, Pc.Pc.bytes, render_app] at this ⊢
  rw [this]; rfl
def opB (o : Nat) : B := (CM.opPc o).bytes
theorem sh_bin (o : Nat) (a b : Pr) : sh (.bin o a b) = [40] ++ sh a ++ [32] ++ opB o ++ [32] ++ sh b ++ [41] := by
  have := sh_one b
  simp [sh, Pr.line, Pc.render, Pc.blanks, Pc.Pc.bytes, render_app, opB] at this ⊢
  rw [this]
  rfl
theorem opB_len (o : Nat) : (opB o).length ≤ 3 := by unfold opB CM.opPc; split <;> decide
theorem dec_len {v : Nat} (h : v ≤ 9223372036854775807) : (Lib.decDigits v).length ≤ 21 := by
  have h1 := Lib.itoa_length_le (v : Int) (by omega) (by omega)
  rw [Lib.itoa, if_neg (by omega)] at h1
  simpa using h1
theorem quo_len : ∀ t : B, (Pc.quo t).length ≤ 2 * t.length
  | [] => by simp [Pc.quo]
  | c :: r => by
    have := quo_len r
    unfold Pc.quo
    split <;> simp <;> omega
/-- not too deep, not too long -/
structure Sz (k : Nat) (p : Pr) : Prop where
  ok : p.ok = true
  nest : p.nest ≤ 2 * k
  len : (sh p).length + 20 ≤ 40 * 2 ^ k
theorem pow_pos' {k : Nat} (h : 1 ≤ k) : 80 ≤ 40 * 2 ^ k := by
  obtain ⟨k, rfl⟩ : ∃ j, k = j + 1 := ⟨k - 1, by omega⟩
  have : 1 ≤ 2 ^ k := Nat.one_le_two_pow
  rw [Nat.pow_succ]; omega
theorem Sz.neg {k : Nat} {p : Pr} (h : Sz k p) : Sz (k + 1) (.neg p) := ⟨h.ok, by have := h.nest; show p.nest + 2 ≤ _; omega, by have := h.len; rw [sh_neg, Nat.pow_succ]; simp; omega⟩
theorem Sz.not {k : Nat} {p : Pr} (h : Sz k p) : Sz (k + 1) (.not p) := ⟨h.ok, by have := h.nest; show p.nest + 2 ≤ _; omega, by have := h.len; rw [sh_not, Nat.pow_succ]; simp; omega⟩
theorem Sz.bin {k o : Nat} {p q : Pr} (ho : o < 11) (h : Sz k p) (h2 : Sz k q) : Sz (k + 1) (.bin o p q) := ⟨by simp [Pr.ok, ho, h.ok, h2.ok], by have := h.nest; have := h2.nest; show max p.nest q.nest + 1 ≤ _; omega, by have := h.len; have := h2.len; have := opB_len o; rw [sh_bin, Nat.pow_succ]; simp; omega⟩
/-- a column -/
def colPr (t n : B) : Pr := if t.isEmpty then .col n else .tcol t n
theorem colPr_ex (t n : B) : (colPr t n).ex = PM.colEx t n := by
  unfold colPr
  cases t <;> rfl
theorem Sz.col {k : Nat} {t n : B} (hk : 1 ≤ k) (h : ColTN t n) : Sz k (colPr t n) := by
  have hp := pow_pos' hk
  have h3 := h.lt
  have h4 := h.ln
  unfold colPr
  cases t with
  | nil => exact ⟨h.name, Nat.zero_le _, by show (sh (.col n)).length + 20 ≤ _; rw [sh_col]; omega⟩
  | cons c r =>
    refine ⟨?_, Nat.zero_le _, ?_⟩
    · rcases h.table with h1 | h1
      · cases h1
      · show (Pc.okName (c :: r) && Pc.okName n) = true
        rw [h1, h.name]; rfl
    · show (sh (.tcol (c :: r) n)).length + 20 ≤ _
      rw [sh_tcol]
      simp at h3 ⊢
      omega
/-- a literal -/
def litPr (k i : Int) (t : B) : Pr := if k = 1 then .int i.toNat else .text t
theorem Sz.lit {j : Nat} {kind k i : Int} {t : B} (hj : 1 ≤ j) (h : Lit kind k i t) : Sz j (litPr k i t) ∧ (litPr k i t).ex = .mk 1 k i t [] [] [] := by
  have hp := pow_pos' hj
  cases h with
  | int _ n hk h =>
    refine ⟨⟨?_, Nat.zero_le _, ?_⟩, rfl⟩
    · show decide (_ ≤ _) = true
      simpa using h
    · show (sh (.int n)).length + 20 ≤ _
      rw [sh_int]
      have := dec_len h
      omega
  | text r _ h hl =>
    refine ⟨⟨h, Nat.zero_le _, ?_⟩, rfl⟩
    show (sh (.text t)).length + 20 ≤ _
    rw [sh_text]
    have := quo_len t
    simp
    omega
/-- the result lies in block R -/
theorem done_pk {B M P : Nat} {w w1 : World} {x : Ex} {z : List Value} {c0 c1 c2 c3 c4 c5 c6 : Value} (hB : Blk w1 w.heap.size 41 z) (hz : z.length = 7) (hF : Fr [some P] w w1) (hK : PK B M w1 P) (hle : B ≤ w.heap.size)
    (hx : Rep.E 41 (fun g => w.heap.size + 1 ≤ g) w1 x [c0, c1, c2, c3, c4, c5, c6]) :
    ExR w.heap.size (put7 w1 w.heap.size c0 c1 c2 c3 c4 c5 c6) (.returned (.agg #[c0, c1, c2, c3, c4, c5, c6])) x ∧ PK B M (put7 w1 w.heap.size c0 c1 c2 c3 c4 c5 c6) P ∧ Fr [some P] w (put7 w1 w.heap.size c0 c1 c2 c3 c4 c5 c6) := by
  have hf := frPut7 (T := w.heap.size) (Fr.refl [some w.heap.size] w1) (.inl (by simp)) c0 c1 c2 c3 c4 c5 c6
  exact ⟨⟨_, rfl, Rep.E.mono (fun g hg => by omega) (Rep.E.keep hf (fun g hg => by simp; omega) hx)⟩, hK.keep hf (by simp; omega), frPut7 hF (.inr (Nat.le_refl _)) _ _ _ _ _ _ _⟩
theorem put7_size (w : World) (T : Nat) (a b c d e f g : Value) : (put7 w T a b c d e f g).heap.size = w.heap.size := by simp [put7]
/-- the same, where a block was made behind the stores -/
theorem done_alloc {B M P : Nat} {w w1 : World} {x : Ex} {o : Obj} {c0 c1 c2 c3 c4 c5 c6 : Value} (hF : Fr [some P] w w1) (hK : PK B M w1 P) (hle : B ≤ w.heap.size)
    (hx : Rep.E 41 (fun g => w.heap.size + 1 ≤ g) ((put7 w1 w.heap.size c0 c1 c2 c3 c4 c5 c6).alloc o) x [c0, c1, c2, c3, c4, c5, c6]) :
    ExR w.heap.size ((put7 w1 w.heap.size c0 c1 c2 c3 c4 c5 c6).alloc o) (.returned (.agg #[c0, c1, c2, c3, c4, c5, c6])) x ∧ PK B M ((put7 w1 w.heap.size c0 c1 c2 c3 c4 c5 c6).alloc o) P ∧ Fr [some P] w ((put7 w1 w.heap.size c0 c1 c2 c3 c4 c5 c6).alloc o) := by
  have hf := frPut7 (T := w.heap.size) (Fr.refl [some w.heap.size] w1) (.inl (by simp)) c0 c1 c2 c3 c4 c5 c6
  exact ⟨⟨_, rfl, Rep.E.mono (fun g hg => by omega) hx⟩, (hK.keep hf (by simp; omega)).alloc _, (frPut7 hF (.inr (Nat.le_refl _)) _ _ _ _ _ _ _).alloc _⟩
/-- one expression, in a new block, behind the stores -/
theorem un_rep {w w1 : World} {x : Ex} {cs : List Value} (op : Int) (c0 c1 c2 c3 c4 c5 c6 : Value) (h : Rep.E 41 (fun g => w.heap.size + 1 ≤ g) w1 x cs) (hs : w.heap.size + 1 ≤ w1.heap.size) :
    Rep.E 41 (fun g => w.heap.size + 1 ≤ g) ((put7 w1 w.heap.size c0 c1 c2 c3 c4 c5 c6).alloc (.cells cs.toArray 41)) (PM.un op x) [.int .i64 op, .int .i64 0, .int .i64 0, .string ⟨#[]⟩, .string ⟨#[]⟩, .string ⟨#[]⟩, .slice (some ⟨w1.heap.size, 0, none⟩) 1 1] := by
  have hf := frPut7 (T := w.heap.size) (Fr.refl [some w.heap.size] w1) (.inl (by simp)) c0 c1 c2 c3 c4 c5 c6
  have hL : Rep.L 41 (fun g => w.heap.size + 1 ≤ g) (put7 w1 w.heap.size c0 c1 c2 c3 c4 c5 c6) [x] (cs ++ []) := .cons _ _ _ _ (Rep.E.keep hf (fun g hg => by simp; omega) h) .nil
  rw [List.append_nil] at hL
  have hes := es_new hL (by rw [put7_size]; exact hs) (by simp [maxLen])
  rw [put7_size] at hes
  exact .mk op 0 0 [] [] [] _ _ hes
/-- what the walk carries: the result's block, what choices are read from, the columns -/
structure Cy (B C M P : Nat) (vc vk : Value) (l : List PM.It) (ks : List Int) (w0 w : World) : Prop where
  hR : Blk w w0.heap.size 41 z7
  hF : Fr [some P] w0 w
  hK : PK B M w P
  hC : Cols C P w vc vk l ks
  hP : P < w0.heap.size
  sz : w0.heap.size + 1 ≤ w.heap.size
theorem Cy.call {B C M P : Nat} {vc vk : Value} {l : List PM.It} {ks : List Int} {w0 w w' : World} (h : Cy B C M P vc vk l ks w0 w) (hk : PK B M w' P) (hf : Fr [some P] w w') : Cy B C M P vc vk l ks w0 w' :=
  ⟨h.hR.keep hf (by have := h.hP; simp; omega), h.hF.trans hf, hk, h.hC.keep hf (by simp), h.hP, Nat.le_trans h.sz hf.size⟩
theorem Cy.call0 {B C M P : Nat} {vc vk : Value} {l : List PM.It} {ks : List Int} {w0 w w' : World} (h : Cy B C M P vc vk l ks w0 w) (hf : Fr [] w w') : Cy B C M P vc vk l ks w0 w' :=
  ⟨h.hR.keep hf (by simp), h.hF.trans' hf (by simp), h.hK.keep hf (by simp), h.hC.keep hf (by simp), h.hP, Nat.le_trans h.sz hf.size⟩
theorem exC_rep (A : Nat → Prop) (w : World) (t n : B) : Rep.E 41 A w (colPr t n).ex (exC t n) := by
  rw [colPr_ex]
  exact .mk 2 0 0 [] t n [] _ Rep.Es.nil
set_option maxRecDepth 100000 in
set_option maxHeartbeats 8000000 in
/-- Expr -/
theorem expr_gen {B C M : Nat} (P : Nat) (vc vk : Value) (l : List PM.It) (ks : List Int) : ∀ (k : Nat) (kind deep : Int), deep + k = 6 → 0 ≤ deep → 1 ≤ k → ((kind = 1 ∨ kind = 2) ∨ (kind = 3 ∧ 2 ≤ k)) → ∀ w, PK B M w P → Cols C P w vc vk l ks →
    Calls Tryd.prog 11 #[.pointer (some ⟨P, 0, none⟩), vc, vk, .int .i64 kind, .int .i64 deep] w fun e w' => (∃ p, Sz k p ∧ ExR w.heap.size w' e p.ex) ∧ PK B M w' P ∧ Fr [some P] w w' := by
  intro k
  induction k with
  | zero => intro kind deep _ _ h; omega
  | succ k ih =>
    intro kind deep hdk hd0 hk1 hkind w h hc
    have HIH := Lib.hid ih
    have HK := Lib.hid h
    have HC := Lib.hid hc
    have hPl := h.lt'
    have hBl := h.le
    have hPB := h.lt
    clear ih h hc
    go_enter Tryd.func11, Tryd.ntmps11
    go_wp2_with fail
    refine (num_any P 8 (by decide) (by decide) _ (HK.out.alloc _)).mono ?_
    rintro e w1 ⟨r, rfl, hr, hk1, hf1⟩
    have Y1 : Hid (Cy B C M P vc vk l ks w w1) := Lib.hid ⟨(Blk.new w 41 z7).keep hf1 (by simp; omega), ((Fr.refl [some P] w).alloc (.cells z7.toArray 41)).trans hf1, hk1,
      HC.out.keep (((Fr.refl [some P] w).alloc (.cells z7.toArray 41)).trans hf1) (by simp), hPl, by have := hf1.size; simpa using this⟩
    clear hk1 hf1
    have hr0 : 0 ≤ (r : Int) := by omega
    rcases hkind with hkind | ⟨rfl, hk2⟩
    · have HKIND := Lib.hid hkind
      have hk3 : ¬ kind = 3 := by rcases hkind with rfl | rfl <;> decide
      clear hkind
      go_wp2_with fail
      refine (col_any P vc vk l ks kind HKIND.out w1 Y1.out.hK Y1.out.hC).mono ?_
      rintro e w2 ⟨t, nm, hcol, rfl, hk, hf⟩
      have HCOL := Lib.hid hcol
      have Y2 := Lib.hid (Y1.out.call hk hf)
      clear hk hf hcol
      unfold exC
      have Y3 := Lib.hid (Y2.out.call0 ((Fr.refl [] w2).alloc (.cells (exC t nm).toArray 41)))
      unfold exC at Y3
      have hbl2 := Y2.out.hR.lt
      have hnb2 : ¬ w.heap.size = w2.heap.size := by omega
      by_cases h4 : (r : Int) < 4
      · have HSZ : Hid (Sz (k + 1) (colPr t nm)) := Lib.hid (Sz.col hk1 HCOL.out)
        obtain ⟨k0, k1, k2, k3, k4, k5, k6, f0, f1, f2, f3, f4, f5, f6⟩ := c7_of Y2.out.hR
        go_wp2_with fail
        obtain ⟨d1, d2⟩ := done_alloc Y2.out.hF Y2.out.hK hBl (exC_rep _ _ t nm)
        exact bodyPost_ret (ret_cell7 rfl _ w.heap.size rfl _ _ _ _ _ _ _ _ (Blk.alloc (blkPut7 Y2.out.hR rfl _ _ _ _ _ _ _) _)) rfl ⟨⟨_, HSZ.out, d1⟩, d2⟩
      · by_cases hk2 : kind = 2
        · subst hk2
          go_wp2_with fail
          generalize w2.alloc (Obj.cells #[.int .i64 2, .int .i64 0, .int .i64 0, .string ⟨#[]⟩, .string ⟨t.toArray⟩, .string ⟨nm.toArray⟩, .slice none 0 0] 41) = w3 at Y3 ⊢
          refine (value_any P 2 w3 Y3.out.hK).mono ?_
          rintro e w4 ⟨vk1, vi1, vt1, rfl, hl, hk, hf⟩
          have HL := Lib.hid hl
          have Y4 := Lib.hid (Y3.out.call hk hf)
          clear hk hf hl
          go_wp2_with fail
          refine (lit_any vk1 vi1 vt1 w4).mono ?_
          rintro e w5 ⟨rfl, hf⟩
          have Y5 := Lib.hid (Y4.out.call0 hf)
          clear hf
          obtain ⟨hs1, hs2⟩ := Sz.lit hk1 HL.out
          have HSZ := Lib.hid hs1
          have HX : Hid (Rep.E 41 (fun g => w.heap.size + 1 ≤ g) w5 (litPr vk1 vi1 vt1).ex [.int .i64 1, .int .i64 vk1, .int .i64 vi1, .string ⟨vt1.toArray⟩, .string ⟨#[]⟩, .string ⟨#[]⟩, .slice none 0 0]) := Lib.hid (by rw [hs2]; exact .mk 1 vk1 vi1 vt1 [] [] [] _ Rep.Es.nil)
          clear hs1 hs2
          have hbl := Y5.out.hR.lt
          obtain ⟨k0, k1, k2, k3, k4, k5, k6, f0, f1, f2, f3, f4, f5, f6⟩ := c7_of Y5.out.hR
          go_wp2_with fail
          obtain ⟨d1, d2⟩ := done_pk Y5.out.hR rfl Y5.out.hF Y5.out.hK hBl HX.out
          exact bodyPost_ret (ret_cell7 rfl _ w.heap.size rfl _ _ _ _ _ _ _ _ (blkPut7 Y5.out.hR rfl _ _ _ _ _ _ _)) rfl ⟨⟨_, HSZ.out, d1⟩, d2⟩
        have hk2 : (kind == 2) = false := beq_eq_false_iff_ne.2 hk2
        by_cases hd3 : 3 < deep
        · skip
          go_wp2_with fail
          generalize w2.alloc (Obj.cells #[.int .i64 2, .int .i64 0, .int .i64 0, .string ⟨#[]⟩, .string ⟨t.toArray⟩, .string ⟨nm.toArray⟩, .slice none 0 0] 41) = w3 at Y3 ⊢
          refine (value_any P kind w3 Y3.out.hK).mono ?_
          rintro e w4 ⟨vk1, vi1, vt1, rfl, hl, hk, hf⟩
          have HL := Lib.hid hl
          have Y4 := Lib.hid (Y3.out.call hk hf)
          clear hk hf hl
          go_wp2_with fail
          refine (lit_any vk1 vi1 vt1 w4).mono ?_
          rintro e w5 ⟨rfl, hf⟩
          have Y5 := Lib.hid (Y4.out.call0 hf)
          clear hf
          obtain ⟨hs1, hs2⟩ := Sz.lit hk1 HL.out
          have HSZ := Lib.hid hs1
          have HX : Hid (Rep.E 41 (fun g => w.heap.size + 1 ≤ g) w5 (litPr vk1 vi1 vt1).ex [.int .i64 1, .int .i64 vk1, .int .i64 vi1, .string ⟨vt1.toArray⟩, .string ⟨#[]⟩, .string ⟨#[]⟩, .slice none 0 0]) := Lib.hid (by rw [hs2]; exact .mk 1 vk1 vi1 vt1 [] [] [] _ Rep.Es.nil)
          clear hs1 hs2
          have hbl := Y5.out.hR.lt
          obtain ⟨k0, k1, k2, k3, k4, k5, k6, f0, f1, f2, f3, f4, f5, f6⟩ := c7_of Y5.out.hR
          go_wp2_with fail
          obtain ⟨d1, d2⟩ := done_pk Y5.out.hR rfl Y5.out.hF Y5.out.hK hBl HX.out
          exact bodyPost_ret (ret_cell7 rfl _ w.heap.size rfl _ _ _ _ _ _ _ _ (blkPut7 Y5.out.hR rfl _ _ _ _ _ _ _)) rfl ⟨⟨_, HSZ.out, d1⟩, d2⟩
        have hd3b : decide (3 < deep) = false := decide_eq_false hd3
        by_cases hr6 : (r : Int) < 6
        · skip
          go_wp2_with fail
          generalize w2.alloc (Obj.cells #[.int .i64 2, .int .i64 0, .int .i64 0, .string ⟨#[]⟩, .string ⟨t.toArray⟩, .string ⟨nm.toArray⟩, .slice none 0 0] 41) = w3 at Y3 ⊢
          refine (value_any P kind w3 Y3.out.hK).mono ?_
          rintro e w4 ⟨vk1, vi1, vt1, rfl, hl, hk, hf⟩
          have HL := Lib.hid hl
          have Y4 := Lib.hid (Y3.out.call hk hf)
          clear hk hf hl
          go_wp2_with fail
          refine (lit_any vk1 vi1 vt1 w4).mono ?_
          rintro e w5 ⟨rfl, hf⟩
          have Y5 := Lib.hid (Y4.out.call0 hf)
          clear hf
          obtain ⟨hs1, hs2⟩ := Sz.lit hk1 HL.out
          have HSZ := Lib.hid hs1
          have HX : Hid (Rep.E 41 (fun g => w.heap.size + 1 ≤ g) w5 (litPr vk1 vi1 vt1).ex [.int .i64 1, .int .i64 vk1, .int .i64 vi1, .string ⟨vt1.toArray⟩, .string ⟨#[]⟩, .string ⟨#[]⟩, .slice none 0 0]) := Lib.hid (by rw [hs2]; exact .mk 1 vk1 vi1 vt1 [] [] [] _ Rep.Es.nil)
          clear hs1 hs2
          have hbl := Y5.out.hR.lt
          obtain ⟨k0, k1, k2, k3, k4, k5, k6, f0, f1, f2, f3, f4, f5, f6⟩ := c7_of Y5.out.hR
          go_wp2_with fail
          obtain ⟨d1, d2⟩ := done_pk Y5.out.hR rfl Y5.out.hF Y5.out.hK hBl HX.out
          exact bodyPost_ret (ret_cell7 rfl _ w.heap.size rfl _ _ _ _ _ _ _ _ (blkPut7 Y5.out.hR rfl _ _ _ _ _ _ _)) rfl ⟨⟨_, HSZ.out, d1⟩, d2⟩
        have hr6b : decide ((r : Int) < 6) = false := decide_eq_false hr6
        by_cases h6 : (r : Int) = 6
        · go_wp2_with fail
          generalize w2.alloc (Obj.cells #[.int .i64 2, .int .i64 0, .int .i64 0, .string ⟨#[]⟩, .string ⟨t.toArray⟩, .string ⟨nm.toArray⟩, .slice none 0 0] 41) = w3 at Y3 ⊢
          refine (HIH.out kind (deep + 1) (by omega) (by omega) (by omega) (.inl HKIND.out) w3 Y3.out.hK Y3.out.hC).mono ?_
          rintro e w4 ⟨⟨p, hszp, hx⟩, hk, hf⟩
          obtain ⟨po, pk, pi, pz, pt, pn, pa, pe, pc, rfl, hrep⟩ := Px.ex_cells hx
          have HXp := Lib.hid (Rep.E.mono (A' := fun g => w.heap.size + 1 ≤ g) (fun g hg => by have := Y3.out.sz; omega) hrep)
          have HSp := Lib.hid hszp
          have Y4 := Lib.hid (Y3.out.call hk hf)
          clear hk hf hx hrep hszp
          have HSZ : Hid (Sz (k + 1) (Pr.neg p)) := Lib.hid (Sz.neg HSp.out)
          have hbl := Y4.out.hR.lt
          have hsz1 := Y4.out.sz
          have hnb : ¬ w.heap.size = w4.heap.size := by omega
          obtain ⟨k0, k1, k2, k3, k4, k5, k6, f0, f1, f2, f3, f4, f5, f6⟩ := c7_of Y4.out.hR
          go_wp2_with fail
          obtain ⟨d1, d2⟩ := done_alloc Y4.out.hF Y4.out.hK hBl (un_rep 3 _ _ _ _ _ _ _ HXp.out hsz1)
          exact bodyPost_ret (ret_cell7 rfl _ w.heap.size rfl _ _ _ _ _ _ _ _ (Blk.alloc (blkPut7 Y4.out.hR rfl _ _ _ _ _ _ _) _)) rfl ⟨⟨_, HSZ.out, d1⟩, d2⟩
        · go_wp2_with fail
          generalize w2.alloc (Obj.cells #[.int .i64 2, .int .i64 0, .int .i64 0, .string ⟨#[]⟩, .string ⟨t.toArray⟩, .string ⟨nm.toArray⟩, .slice none 0 0] 41) = w3 at Y3 ⊢
          refine (num_any P 3 (by decide) (by decide) _ Y3.out.hK).mono ?_
          rintro e w4 ⟨o, rfl, ho, hk, hf⟩
          have Y4 := Lib.hid (Y3.out.call hk hf)
          clear hk hf
          go_wp2_with fail
          refine (HIH.out kind (deep + 1) (by omega) (by omega) (by omega) (.inl HKIND.out) w4 Y4.out.hK Y4.out.hC).mono ?_
          rintro e w5 ⟨⟨p, hszp, hx⟩, hk, hf⟩
          obtain ⟨po, pk, pi, pz, pt, pn, pa, pe, pc, rfl, hrep⟩ := Px.ex_cells hx
          have HXp := Lib.hid (Rep.E.mono (A' := fun g => w.heap.size + 1 ≤ g) (fun g hg => by have := Y4.out.sz; omega) hrep)
          have HSp := Lib.hid hszp
          have Y5 := Lib.hid (Y4.out.call hk hf)
          clear hk hf hx hrep hszp
          go_wp2_with fail
          refine (HIH.out kind (deep + 1) (by omega) (by omega) (by omega) (.inl HKIND.out) w5 Y5.out.hK Y5.out.hC).mono ?_
          rintro e w6 ⟨⟨q, hszq, hx⟩, hk, hf⟩
          obtain ⟨qo, qk, qi, qz, qt, qn, qa, qe, qc, rfl, hrep⟩ := Px.ex_cells hx
          have HXq := Lib.hid (Rep.E.mono (A' := fun g => w.heap.size + 1 ≤ g) (fun g hg => by have := Y5.out.sz; omega) hrep)
          have HXp := Lib.hid (Rep.E.keep hf (fun g hg => by simp; omega) HXp.out)
          have HSq := Lib.hid hszq
          have Y6 := Lib.hid (Y5.out.call hk hf)
          clear hk hf hx hrep hszq
          go_wp2_with fail
          refine (two_any (5 + o) p.ex q.ex _ _ w6 _ HXp.out HXq.out).mono ?_
          rintro e w7 ⟨cs, rfl, hrep, hf⟩
          rw [show PM.two (5 + (o : Int)) p.ex q.ex = (Pr.bin (0 + o) p q).ex from congrArg (fun z => PM.two z p.ex q.ex) (by omega)] at hrep
          have Y7 := Lib.hid (Y6.out.call0 hf)
          have HX := Lib.hid (Rep.E.mono (A' := fun g => w.heap.size + 1 ≤ g) (fun g hg => by have := Y6.out.sz; omega) hrep)
          clear hrep hf
          obtain ⟨yo, yk, yi, yz, yt, yn, yl, ya, ye, yc, _, rfl, _⟩ := Sm.e_cells HX.out
          have HSZ : Hid (Sz (k + 1) (Pr.bin (0 + o) p q)) := Lib.hid (Sz.bin (by omega) HSp.out HSq.out)
          have hbl := Y7.out.hR.lt
          obtain ⟨k0, k1, k2, k3, k4, k5, k6, f0, f1, f2, f3, f4, f5, f6⟩ := c7_of Y7.out.hR
          go_wp2_with fail
          obtain ⟨d1, d2⟩ := done_pk Y7.out.hR rfl Y7.out.hF Y7.out.hK hBl HX.out
          exact bodyPost_ret (ret_cell7 rfl _ w.heap.size rfl _ _ _ _ _ _ _ _ (blkPut7 Y7.out.hR rfl _ _ _ _ _ _ _)) rfl ⟨⟨_, HSZ.out, d1⟩, d2⟩
    · by_cases hc4 : 3 < deep ∨ (r : Int) < 4
      · have hT : (decide (3 < deep) || decide ((r : Int) < 4)) = true := by simpa using hc4
        clear hc4
        go_wp2_with fail
        all_goals
          refine (num_any P 2 (by decide) (by decide) _ Y1.out.hK).mono ?_
          rintro e w2 ⟨of, rfl, hof, hk, hf⟩
          have Y2 := Lib.hid (Y1.out.call hk hf)
          clear hk hf
          have hkf : 1 + (of : Int) = 1 ∨ 1 + (of : Int) = 2 := by omega
          have HKF := Lib.hid hkf
          clear hkf
          go_wp2_with fail
          refine (num_any P 6 (by decide) (by decide) _ Y2.out.hK).mono ?_
          rintro e w3 ⟨o, rfl, ho, hk, hf⟩
          have Y3 := Lib.hid (Y2.out.call hk hf)
          clear hk hf
          go_wp2_with fail
          refine (HIH.out (1 + of) (deep + 1) (by omega) (by omega) (by omega) (.inl HKF.out) w3 Y3.out.hK Y3.out.hC).mono ?_
          rintro e w4 ⟨⟨p, hszp, hx⟩, hk, hf⟩
          obtain ⟨po, pk, pi, pz, pt, pn, pa, pe, pc, rfl, hrep⟩ := Px.ex_cells hx
          have HXp := Lib.hid (Rep.E.mono (A' := fun g => w.heap.size + 1 ≤ g) (fun g hg => by have := Y3.out.sz; omega) hrep)
          have HSp := Lib.hid hszp
          have Y4 := Lib.hid (Y3.out.call hk hf)
          clear hk hf hx hrep hszp
          go_wp2_with fail
          refine (HIH.out (1 + of) (deep + 1) (by omega) (by omega) (by omega) (.inl HKF.out) w4 Y4.out.hK Y4.out.hC).mono ?_
          rintro e w5 ⟨⟨q, hszq, hx⟩, hk, hf⟩
          obtain ⟨qo, qk, qi, qz, qt, qn, qa, qe, qc, rfl, hrep⟩ := Px.ex_cells hx
          have HXq := Lib.hid (Rep.E.mono (A' := fun g => w.heap.size + 1 ≤ g) (fun g hg => by have := Y4.out.sz; omega) hrep)
          have HXp := Lib.hid (Rep.E.keep hf (fun g hg => by simp; omega) HXp.out)
          have HSq := Lib.hid hszq
          have Y5 := Lib.hid (Y4.out.call hk hf)
          clear hk hf hx hrep hszq
          go_wp2_with fail
          refine (two_any (8 + o) p.ex q.ex _ _ w5 _ HXp.out HXq.out).mono ?_
          rintro e w6 ⟨cs, rfl, hrep, hf⟩
          rw [show PM.two (8 + (o : Int)) p.ex q.ex = (Pr.bin (3 + o) p q).ex from congrArg (fun z => PM.two z p.ex q.ex) (by omega)] at hrep
          have Y6 := Lib.hid (Y5.out.call0 hf)
          have HX := Lib.hid (Rep.E.mono (A' := fun g => w.heap.size + 1 ≤ g) (fun g hg => by have := Y5.out.sz; omega) hrep)
          clear hrep hf
          obtain ⟨yo, yk, yi, yz, yt, yn, yl, ya, ye, yc, _, rfl, _⟩ := Sm.e_cells HX.out
          have HSZ : Hid (Sz (k + 1) (Pr.bin (3 + o) p q)) := Lib.hid (Sz.bin (by omega) HSp.out HSq.out)
          have hbl := Y6.out.hR.lt
          obtain ⟨k0, k1, k2, k3, k4, k5, k6, f0, f1, f2, f3, f4, f5, f6⟩ := c7_of Y6.out.hR
          go_wp2_with fail
          obtain ⟨d1, d2⟩ := done_pk Y6.out.hR rfl Y6.out.hF Y6.out.hK hBl HX.out
          exact bodyPost_ret (ret_cell7 rfl _ w.heap.size rfl _ _ _ _ _ _ _ _ (blkPut7 Y6.out.hR rfl _ _ _ _ _ _ _)) rfl ⟨⟨_, HSZ.out, d1⟩, d2⟩
      · have hd3 : ¬ 3 < deep := fun h => hc4 (.inl h)
        have hr4 : ¬ (r : Int) < 4 := fun h => hc4 (.inr h)
        clear hc4
        by_cases h4 : (r : Int) = 4
        · go_wp2_with fail
          refine (HIH.out 3 (deep + 1) (by omega) (by omega) (by omega) (.inr ⟨rfl, by omega⟩) w1 Y1.out.hK Y1.out.hC).mono ?_
          rintro e w2 ⟨⟨p, hszp, hx⟩, hk, hf⟩
          obtain ⟨po, pk, pi, pz, pt, pn, pa, pe, pc, rfl, hrep⟩ := Px.ex_cells hx
          have HXp := Lib.hid (Rep.E.mono (A' := fun g => w.heap.size + 1 ≤ g) (fun g hg => by have := Y1.out.sz; omega) hrep)
          have HSp := Lib.hid hszp
          have Y2 := Lib.hid (Y1.out.call hk hf)
          clear hk hf hx hrep hszp
          have HSZ : Hid (Sz (k + 1) (Pr.not p)) := Lib.hid (Sz.not HSp.out)
          have hbl := Y2.out.hR.lt
          have hsz1 := Y2.out.sz
          have hnb : ¬ w.heap.size = w2.heap.size := by omega
          obtain ⟨k0, k1, k2, k3, k4, k5, k6, f0, f1, f2, f3, f4, f5, f6⟩ := c7_of Y2.out.hR
          go_wp2_with fail
          obtain ⟨d1, d2⟩ := done_alloc Y2.out.hF Y2.out.hK hBl (un_rep 4 _ _ _ _ _ _ _ HXp.out hsz1)
          exact bodyPost_ret (ret_cell7 rfl _ w.heap.size rfl _ _ _ _ _ _ _ _ (Blk.alloc (blkPut7 Y2.out.hR rfl _ _ _ _ _ _ _) _)) rfl ⟨⟨_, HSZ.out, d1⟩, d2⟩
        · go_wp2_with fail
          refine (num_any P 2 (by decide) (by decide) _ Y1.out.hK).mono ?_
          rintro e w2 ⟨o, rfl, ho, hk, hf⟩
          have Y2 := Lib.hid (Y1.out.call hk hf)
          clear hk hf
          go_wp2_with fail
          refine (HIH.out 3 (deep + 1) (by omega) (by omega) (by omega) (.inr ⟨rfl, by omega⟩) w2 Y2.out.hK Y2.out.hC).mono ?_
          rintro e w3 ⟨⟨p, hszp, hx⟩, hk, hf⟩
          obtain ⟨po, pk, pi, pz, pt, pn, pa, pe, pc, rfl, hrep⟩ := Px.ex_cells hx
          have HXp := Lib.hid (Rep.E.mono (A' := fun g => w.heap.size + 1 ≤ g) (fun g hg => by have := Y2.out.sz; omega) hrep)
          have HSp := Lib.hid hszp
          have Y3 := Lib.hid (Y2.out.call hk hf)
          clear hk hf hx hrep hszp
          go_wp2_with fail
          refine (HIH.out 3 (deep + 1) (by omega) (by omega) (by omega) (.inr ⟨rfl, by omega⟩) w3 Y3.out.hK Y3.out.hC).mono ?_
          rintro e w4 ⟨⟨q, hszq, hx⟩, hk, hf⟩
          obtain ⟨qo, qk, qi, qz, qt, qn, qa, qe, qc, rfl, hrep⟩ := Px.ex_cells hx
          have HXq := Lib.hid (Rep.E.mono (A' := fun g => w.heap.size + 1 ≤ g) (fun g hg => by have := Y3.out.sz; omega) hrep)
          have HXp := Lib.hid (Rep.E.keep hf (fun g hg => by simp; omega) HXp.out)
          have HSq := Lib.hid hszq
          have Y4 := Lib.hid (Y3.out.call hk hf)
          clear hk hf hx hrep hszq
          go_wp2_with fail
          refine (two_any (14 + o) p.ex q.ex _ _ w4 _ HXp.out HXq.out).mono ?_
          rintro e w5 ⟨cs, rfl, hrep, hf⟩
          rw [show PM.two (14 + (o : Int)) p.ex q.ex = (Pr.bin (9 + o) p q).ex from congrArg (fun z => PM.two z p.ex q.ex) (by omega)] at hrep
          have Y5 := Lib.hid (Y4.out.call0 hf)
          have HX := Lib.hid (Rep.E.mono (A' := fun g => w.heap.size + 1 ≤ g) (fun g hg => by have := Y4.out.sz; omega) hrep)
          clear hrep hf
          obtain ⟨yo, yk, yi, yz, yt, yn, yl, ya, ye, yc, _, rfl, _⟩ := Sm.e_cells HX.out
          have HSZ : Hid (Sz (k + 1) (Pr.bin (9 + o) p q)) := Lib.hid (Sz.bin (by omega) HSp.out HSq.out)
          have hbl := Y5.out.hR.lt
          obtain ⟨k0, k1, k2, k3, k4, k5, k6, f0, f1, f2, f3, f4, f5, f6⟩ := c7_of Y5.out.hR
          go_wp2_with fail
          obtain ⟨d1, d2⟩ := done_pk Y5.out.hR rfl Y5.out.hF Y5.out.hK hBl HX.out
          exact bodyPost_ret (ret_cell7 rfl _ w.heap.size rfl _ _ _ _ _ _ _ _ (blkPut7 Y5.out.hR rfl _ _ _ _ _ _ _)) rfl ⟨⟨_, HSZ.out, d1⟩, d2⟩
end Gn
end Go.Proofs.YtmdnhinpaflamaaDoor
