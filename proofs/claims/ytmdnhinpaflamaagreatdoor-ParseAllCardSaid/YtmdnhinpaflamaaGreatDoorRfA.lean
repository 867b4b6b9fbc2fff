/- The document's parser, in memory; its small functions. -/
import Derived.Test.YtmdnhinpaflamaaGreatDoorRfP
import Derived.Test.YtmdnhinpaflamaaGreatDoorLex
import Derived.Test.YtmdnhinpaflamaaGreatDoorPaA
namespace Go.Proofs.YtmdnhinpaflamaaGreatDoor
open Go.RowKit
set_option linter.unusedVariables false
set_option linter.unusedSimpArgs false
namespace Rf
open LexM (Tok)
open PM (B Ex Col It PS zeroTok wordy two un colEx)
/-- the reader in block P -/
structure RR (w : World) (P : Nat) (s : PS) : Prop where
  ex : ∃ (g off cap N n : Nat) (T : List Tok), Blk w P 54 [.slice (some ⟨g, off, none⟩) N cap, .int .i64 n, .int .i64 s.deep, .int .i64 s.pos, .int .i64 s.e] ∧
    Row w 45 4 (.slice (some ⟨g, off, none⟩) N cap) N (Lx.toksC T) ∧ T.length = N ∧ n < N ∧ T.drop n = s.l ∧ g < P ∧ N ≤ 1000 ∧ (∀ k t, T[k]? = some t → k + 1 = N → t.kind = 6)
theorem RR.lt {w : World} {P : Nat} {s : PS} (h : RR w P s) : P < w.heap.size := by
  obtain ⟨g, off, cap, N, n, T, h1, _⟩ := h.ex
  exact h1.lt
theorem RR.keep {w w' : World} {P : Nat} {s : PS} {X : List (Option Nat)} (h : RR w P s) (hf : Fr X w w') (hX : ∀ g, g < w.heap.size → some g ∉ X) : RR w' P s := by
  obtain ⟨g, off, cap, N, n, T, h1, h2, h3⟩ := h.ex
  exact ⟨g, off, cap, N, n, T, h1.keep hf (hX _ h1.lt), h2.keep hf (fun b hb => hX b (h2.block_lt hb)), h3⟩
/-- what is made behind the reader may turn -/
theorem RR.keepP {w w' : World} {P : Nat} {s : PS} {X : List (Option Nat)} (h : RR w P s) (hf : Fr X w w') (hX : ∀ g, g ≤ P → some g ∉ X) : RR w' P s := by
  obtain ⟨g, off, cap, N, n, T, h1, h2, h3, h4, h5, h6, h7⟩ := h.ex
  exact ⟨g, off, cap, N, n, T, h1.keep hf (hX _ (Nat.le_refl _)), h2.keep hf (fun b hb => by simp only [Value.ownBlock, Option.some.injEq] at hb; subst hb; exact hX _ (Nat.le_of_lt h6)), h3, h4, h5, h6, h7⟩
theorem RR.alloc {w : World} {P : Nat} {s : PS} (h : RR w P s) (o : Obj) : RR (w.alloc o) P s := h.keep ((Fr.refl [] w).alloc o) (by simp)
theorem RR.drew {w : World} {P : Nat} {s : PS} (h : RR w P s) : RR w.drew P s := h.keep (Fr.drew (Fr.refl [] w)) (by simp)
theorem tok_cell {T : List Tok} {n : Nat} {t : Tok} (h : T[n]? = some t) (i : Nat) (hi : i < 4) : (Lx.toksC T).getD (n * 4 + i) undef = (Lx.tokC t).getD i undef := by
  induction T generalizing n with
  | nil => simp at h
  | cons x l ih =>
    show (Lx.tokC x ++ Lx.toksC l).getD (n * 4 + i) undef = _
    cases n with
    | zero =>
      cases h
      rw [Nat.zero_mul, Nat.zero_add, List.getD_eq_getElem?_getD, List.getElem?_append_left (by show i < 4; exact hi), ← List.getD_eq_getElem?_getD]
    | succ n =>
      have := ih (by simpa using h)
      rw [List.getD_eq_getElem?_getD] at this ⊢
      rw [List.getElem?_append_right (by show 4 ≤ _; omega), show (n + 1) * 4 + i - (Lx.tokC x).length = n * 4 + i by show (n + 1) * 4 + i - 4 = _; omega]
      exact this
/-- what a walk is told -/
structure At (w : World) (P : Nat) (s : PS) (g off cap N n : Nat) : Prop where
  c0 : w.cell? ⟨P, 0, none⟩ = some (.slice (some ⟨g, off, none⟩) N cap)
  c1 : w.cell? ⟨P, 1, none⟩ = some (.int .i64 n)
  c2 : w.cell? ⟨P, 2, none⟩ = some (.int .i64 s.deep)
  c3 : w.cell? ⟨P, 3, none⟩ = some (.int .i64 s.pos)
  c4 : w.cell? ⟨P, 4, none⟩ = some (.int .i64 s.e)
  f0 : ∀ j, w.frozen? ⟨P, j, none⟩ = false
  t0 : w.cell? ⟨g, off + n * 4, none⟩ = some (.int .i64 (now s).kind)
  t1 : w.cell? ⟨g, off + n * 4 + 1, none⟩ = some (.string ⟨(now s).text.toArray⟩)
  t2 : w.cell? ⟨g, off + n * 4 + 2, none⟩ = some (.int .i64 (now s).int)
  t3 : w.cell? ⟨g, off + n * 4 + 3, none⟩ = some (.int .i64 (now s).pos)
  lt : P < w.heap.size
  gl : g < w.heap.size
  gP : g ≠ P
  n0 : (0 : Int) ≤ n
  nN : (n : Int) < N
  N1 : (N : Int) ≤ 1000
  cap : N ≤ cap
  last : n + 1 = N → (now s).kind = 6
theorem RR.at {w : World} {P : Nat} {s : PS} (h : RR w P s) : ∃ g off cap N n, At w P s g off cap N n := by
  obtain ⟨g, off, cap, N, n, T, h1, h2, h3, h4, h5, h6, h7, h8⟩ := h.ex
  obtain ⟨t, ht⟩ : ∃ t, T[n]? = some t := ⟨T[n]'(by omega), List.getElem?_eq_getElem (by omega)⟩
  have hnow : now s = t := by
    unfold now CM.now
    rw [← h5, List.drop_eq_getElem_cons (by omega : n < T.length)]
    exact (List.getElem?_eq_some_iff.1 ht).2
  have hlt : ∀ i, i < 4 → n * 4 + i < (Lx.toksC T).length := fun i hi => by rw [h2.1]; omega
  have hc : ∀ i, i < 4 → w.cell? ⟨g, off + (n * 4 + i), none⟩ = some ((Lx.tokC t).getD i undef) := fun i hi => by rw [h2.cells _ (hlt i hi), tok_cell ht i hi]
  have hcap : N ≤ cap := by
    rcases h2.2 with ⟨h, _⟩ | ⟨g', off', cap', cur, h, _, hc, _⟩
    · cases h
    · cases h; exact hc
  refine ⟨g, off, cap, N, n, h1.cell 0, h1.cell 1, h1.cell 2, h1.cell 3, h1.cell 4, h1.free, ?_, ?_, ?_, ?_, h1.lt, h2.block_lt rfl, Nat.ne_of_lt h6, by omega, by omega, by omega, hcap, by rw [hnow]; exact h8 n t ht⟩
  · rw [hnow]; exact hc 0 (by omega)
  · rw [hnow]; exact hc 1 (by omega)
  · rw [hnow]; exact hc 2 (by omega)
  · rw [hnow]; exact hc 3 (by omega)
open Px (frSet ret_cell4)

theorem RR.setE {w : World} {P : Nat} {s : PS} (h : RR w P s) (x : Int) : RR (w.setCell ⟨P, 4, none⟩ (.int .i64 x)) P { s with e := x } := by
  obtain ⟨g, off, cap, N, n, T, h1, h2, h3, h4, h5, h6, h7⟩ := h.ex
  exact ⟨g, off, cap, N, n, T, h1.set 4 _, h2.keep (frSet (P := P) _) (fun b hb => by simp only [Value.ownBlock, Option.some.injEq] at hb; simp; omega), h3, h4, h5, h6, h7⟩
theorem RR.setA {w : World} {P : Nat} {s : PS} (h : RR w P s) (x : Int) : RR (w.setCell ⟨P, 3, none⟩ (.int .i64 x)) P { s with pos := x } := by
  obtain ⟨g, off, cap, N, n, T, h1, h2, h3, h4, h5, h6, h7⟩ := h.ex
  exact ⟨g, off, cap, N, n, T, h1.set 3 _, h2.keep (frSet (P := P) _) (fun b hb => by simp only [Value.ownBlock, Option.some.injEq] at hb; simp; omega), h3, h4, h5, h6, h7⟩
theorem RR.setD {w : World} {P : Nat} {s : PS} (h : RR w P s) (x : Int) : RR (w.setCell ⟨P, 2, none⟩ (.int .i64 x)) P { s with deep := x } := by
  obtain ⟨g, off, cap, N, n, T, h1, h2, h3, h4, h5, h6, h7⟩ := h.ex
  exact ⟨g, off, cap, N, n, T, h1.set 2 _, h2.keep (frSet (P := P) _) (fun b hb => by simp only [Value.ownBlock, Option.some.injEq] at hb; simp; omega), h3, h4, h5, h6, h7⟩
theorem RR.next {w : World} {P : Nat} {s : PS} {g off cap N n : Nat} (h : RR w P s) (ha : At w P s g off cap N n) (hs : n + 1 < N) : RR (w.setCell ⟨P, 1, none⟩ (.int .i64 ((n : Int) + 1))) P (skip s) := by
  obtain ⟨g', off', cap', N', n', T, h1, h2, h3, h4, h5, h6, h7, h8⟩ := h.ex
  have e0 := (h1.cell 0).symm.trans ha.c0
  have e1 := (h1.cell 1).symm.trans ha.c1
  simp only [List.getElem?_cons_zero, List.getElem?_cons_succ, Option.some.injEq, Value.slice.injEq, Addr.mk.injEq, and_true, Value.int.injEq, true_and] at e0 e1
  obtain ⟨⟨rfl, rfl⟩, rfl, rfl⟩ := e0
  have e1 : n' = n := by omega
  subst e1
  refine ⟨g', off', cap', N', n' + 1, T, h1.set 1 _, h2.keep (frSet (P := P) _) (fun b hb => by simp only [Value.ownBlock, Option.some.injEq] at hb; simp; omega), h3, hs, ?_, h6, h7, h8⟩
  show T.drop (n' + 1) = s.l.tail
  rw [← h5, List.tail_drop]
set_option maxRecDepth 100000 in
set_option maxHeartbeats 2000000 in
/-- now -/
theorem now_any (P : Nat) (s : PS) (w : World) (h : RR w P s) :
    Calls Tryz.prog 22 #[.pointer (some ⟨P, 0, none⟩)] w fun e w' => e = .returned (.agg #[.int .i64 (now s).kind, .string ⟨(now s).text.toArray⟩, .int .i64 (now s).int, .int .i64 (now s).pos]) ∧ Fr [] w w' := by
  obtain ⟨g, off, cap, N, n, ha⟩ := h.at
  obtain ⟨c0, c1, c2, c3, c4, f0, t0, t1, t2, t3, lt, gl, gP, n0, nN, N1, cap', last⟩ := ha
  obtain ⟨k, x, i, p, he⟩ : ∃ k x i p, (now s).kind = k ∧ (now s).text = x ∧ (now s).int = i ∧ (now s).pos = p := ⟨_, _, _, _, rfl, rfl, rfl, rfl⟩
  obtain ⟨e0, e1, e2, e3⟩ := he
  rw [e0] at t0 ⊢
  rw [e1] at t1 ⊢
  rw [e2] at t2 ⊢
  rw [e3] at t3 ⊢
  have hnP : ¬ P = w.heap.size := by omega
  have hng : ¬ g = w.heap.size := by omega
  clear e0 e1 e2 e3 last f0 c2 c3 c4 h
  go_enter Tryz.func22, Tryz.ntmps22
  go_wp2_with fail
  go_region
  all_goals
    go_wp2_with fail
    exact bodyPost_ret (ret_cell4 rfl _ w.heap.size rfl _ _ _ _ _ (Blk.new w 45 [.int .i64 k, .string ⟨x.toArray⟩, .int .i64 i, .int .i64 p]).drew) rfl ⟨rfl, ((Fr.refl [] w).alloc _).drew⟩
set_option maxRecDepth 100000 in
set_option maxHeartbeats 2000000 in
/-- next, where it is not the end -/
theorem next_any (P : Nat) (s : PS) (w : World) (h : RR w P s) (hk : (now s).kind ≠ 6) :
    Calls Tryz.prog 110 #[.pointer (some ⟨P, 0, none⟩)] w fun e w' => e = .returned (.tuple #[]) ∧ RR w' P (skip s) ∧ Fr [some P] w w' := by
  obtain ⟨g, off, cap, N, n, ha⟩ := h.at
  have HA := Lib.hid ha
  obtain ⟨c0, c1, c2, c3, c4, f0, t0, t1, t2, t3, lt, gl, gP, n0, nN, N1, cap', last⟩ := ha
  have hs : n + 1 < N := by
    rcases Nat.lt_or_ge (n + 1) N with h' | h'
    · exact h'
    · exact absurd (last (by omega)) hk
  have hsi : (n : Int) + 1 < N := by omega
  have f1 := f0 1
  have HR := Lib.hid h
  have HS := Lib.hid hs
  clear t0 t1 t2 t3 last f0 h hk c2 c3 c4 hs
  go_enter Tryz.func110, Tryz.ntmps110
  go_wp2_with fail
  go_region
  all_goals
    go_wp2_with fail
    go_end0
    exact ⟨rfl, HR.out.drew.next ⟨HA.out.c0, HA.out.c1, HA.out.c2, HA.out.c3, HA.out.c4, HA.out.f0, HA.out.t0, HA.out.t1, HA.out.t2, HA.out.t3, HA.out.lt, HA.out.gl, HA.out.gP, HA.out.n0, HA.out.nN, HA.out.N1, HA.out.cap, HA.out.last⟩ HS.out, ((Fr.refl [some P] w).drew).setCell (p := ⟨P, 1, none⟩) (.inl (by simp)) _⟩
theorem field_pos (a b c d : Value) (w : World) : (Instr.field 45 (.agg #[a, b, c, d]) 3).run Tryz.prog w = .ok d w := by kernel_rfl
set_option maxRecDepth 100000 in
set_option maxHeartbeats 2000000 in
/-- fail -/
theorem fail_any (P : Nat) (x : Int) (s : PS) (w : World) (h : RR w P s) :
    Calls Tryz.prog 23 #[.pointer (some ⟨P, 0, none⟩), .int .i64 x] w fun e w' => e = .returned (.tuple #[]) ∧ RR w' P (failed x s) ∧ Fr [some P] w w' := by
  obtain ⟨g, off, cap, N, n, ha⟩ := h.at
  have c4 := ha.c4
  have hlt := ha.lt
  have HR := Lib.hid h
  clear ha h
  go_enter Tryz.func23, Tryz.ntmps23
  by_cases h0 : s.e = 0
  · go_wp2_with fail
    refine (now_any P s w HR.out).mono ?_
    rintro e w1 ⟨rfl, hf⟩
    have HR1 := Lib.hid (HR.out.keep hf (by simp))
    have HF := Lib.hid (hf.mono (S' := [some P]) (by simp))
    obtain ⟨g, off, cap, N, n, ha⟩ := HR1.out.at
    have d3 := ha.c3
    have d4 := ha.c4
    have e3 := ha.f0 3
    have e4 := ha.f0 4
    have hl1 := ha.lt
    have hfd := fun (w : World) => field_pos (.int .i64 (now s).kind) (.string ⟨(now s).text.toArray⟩) (.int .i64 (now s).int) (.int .i64 (now s).pos) w
    clear ha hf c4
    go_wp2_with fail
    clear hfd
    go_end0
    refine ⟨rfl, ?_, (HF.out.setCell (p := ⟨P, 4, none⟩) (.inl (by simp)) _).setCell (p := ⟨P, 3, none⟩) (.inl (by simp)) _⟩
    rw [failed, if_pos h0]
    exact (HR1.out.setE x).setA (now s).pos
  · go_wp2_with fail
    go_end0
    refine ⟨rfl, ?_, Fr.refl _ _⟩
    rw [failed, if_neg h0]
    exact HR.out
set_option maxRecDepth 100000 in
set_option maxHeartbeats 2000000 in
/-- is -/
theorem is_any (P : Nat) (wd : B) (s : PS) (w : World) (h : RR w P s) :
    Calls Tryz.prog 62 #[.pointer (some ⟨P, 0, none⟩), .string ⟨wd.toArray⟩] w fun e w' => e = .returned (.bool (CM.is wd s.l)) ∧ Fr [] w w' := by
  obtain ⟨bb, hbb⟩ : ∃ bb, CM.is wd s.l = bb := ⟨_, rfl⟩
  have HI : Hid ((((now s).kind == 2 || (now s).kind == 5) && (now s).text == wd) = bb) := Lib.hid hbb
  rw [hbb]
  have HR := Lib.hid h
  clear h hbb
  go_enter Tryz.func62, Tryz.ntmps62
  go_wp2_with fail
  refine (now_any P s w HR.out).mono ?_
  rintro e w1 ⟨rfl, hf⟩
  have HF := Lib.hid (hf.alloc (.cells #[.int .i64 (now s).kind, .string ⟨(now s).text.toArray⟩, .int .i64 (now s).int, .int .i64 (now s).pos] 45))
  clear hf
  obtain ⟨k, x, i, p, he⟩ : ∃ k x i p, (now s).kind = k ∧ (now s).text = x ∧ (now s).int = i ∧ (now s).pos = p := ⟨_, _, _, _, rfl, rfl, rfl, rfl⟩
  obtain ⟨e0, e1, e2, e3⟩ := he
  rw [e0, e1] at HI
  rw [e0, e1, e2, e3] at HF ⊢
  clear e0 e1 e2 e3
  by_cases h2 : k = 2
  · subst h2
    go_wp2_with fail
    go_ret
    exact ⟨congrArg (fun b => Ending.returned (.bool b)) HI.out, HF.out⟩
  · by_cases h5 : k = 5
    · subst h5
      go_wp2_with fail
      go_ret
      exact ⟨congrArg (fun b => Ending.returned (.bool b)) HI.out, HF.out⟩
    · have hb : bb = false := by rw [← HI.out, show (k == 2) = false by simpa using h2, show (k == 5) = false by simpa using h5]; rfl
      subst hb
      go_wp2_with fail
      go_ret
      exact ⟨rfl, HF.out⟩
/-- a word, or a sign, is no end -/
theorem is_kind {wd : B} {s : PS} (h : CM.is wd s.l = true) : (now s).kind ≠ 6 := by
  intro h6
  have : (((now s).kind == 2 || (now s).kind == 5) && (now s).text == wd) = true := h
  rw [h6] at this
  simp at this
set_option maxRecDepth 100000 in
set_option maxHeartbeats 2000000 in
/-- take -/
theorem take_any (P : Nat) (wd : B) (s : PS) (w : World) (h : RR w P s) :
    Calls Tryz.prog 60 #[.pointer (some ⟨P, 0, none⟩), .string ⟨wd.toArray⟩] w fun e w' => e = .returned (.bool (taken wd s)) ∧ RR w' P (took wd s) ∧ Fr [some P] w w' := by
  obtain ⟨bb, hbb⟩ : ∃ bb, taken wd s = bb := ⟨_, rfl⟩
  have HT := Lib.hid hbb
  rw [hbb]
  obtain ⟨g, off, cap, N, n, ha⟩ := h.at
  have c4 := ha.c4
  have hlt := ha.lt
  have HR := Lib.hid h
  clear ha h hbb
  go_enter Tryz.func60, Tryz.ntmps60
  by_cases h0 : s.e = 0
  · go_wp2_with fail
    refine (is_any P wd s w HR.out).mono ?_
    rintro e w1 ⟨rfl, hf⟩
    have HR1 := Lib.hid (HR.out.keep hf (by simp))
    have HF := Lib.hid (hf.mono (S' := [some P]) (by simp))
    clear hf c4
    have hti : taken wd s = CM.is wd s.l := by unfold taken; rw [h0]; rfl
    have HTI := Lib.hid hti
    clear hti
    cases hi : CM.is wd s.l with
    | true =>
      have HI := Lib.hid hi
      clear hi
      obtain rfl : bb = true := by rw [← HT.out, HTI.out, HI.out]
      go_wp2_with fail
      refine (next_any P s w1 HR1.out (is_kind HI.out)).mono ?_
      rintro e w2 ⟨rfl, h2, hf2⟩
      have H2 := Lib.hid h2
      have HF2 := Lib.hid (HF.out.trans hf2)
      clear h2 hf2
      go_wp2_with fail
      go_ret
      exact ⟨rfl, by rw [took, HT.out]; exact H2.out, HF2.out⟩
    | false =>
      have HI := Lib.hid hi
      clear hi
      obtain rfl : bb = false := by rw [← HT.out, HTI.out, HI.out]
      go_wp2_with fail
      go_ret
      exact ⟨rfl, by rw [took, HT.out]; exact HR1.out, HF.out⟩
  · obtain rfl : bb = false := by rw [← HT.out]; unfold taken; rw [show (s.e == 0) = false by simpa using h0]; rfl
    go_wp2_with fail
    go_ret
    exact ⟨rfl, by rw [took, HT.out]; exact HR.out, Fr.refl _ _⟩
set_option maxRecDepth 100000 in
set_option maxHeartbeats 2000000 in
/-- must -/
theorem must_any (P : Nat) (wd : B) (s : PS) (w : World) (h : RR w P s) :
    Calls Tryz.prog 111 #[.pointer (some ⟨P, 0, none⟩), .string ⟨wd.toArray⟩] w fun e w' => e = .returned (.tuple #[]) ∧ RR w' P (musted wd s) ∧ Fr [some P] w w' := by
  have HR := Lib.hid h
  clear h
  go_enter Tryz.func111, Tryz.ntmps111
  go_wp2_with fail
  refine (take_any P wd s w HR.out).mono ?_
  rintro e w1 ⟨rfl, h1, hf1⟩
  have H1 := Lib.hid h1
  have HF1 := Lib.hid hf1
  clear h1 hf1
  cases ht : taken wd s with
  | true =>
    have HT := Lib.hid ht
    clear ht
    go_wp2_with fail
    go_end0
    exact ⟨rfl, by have := H1.out; rw [took, HT.out] at this; rw [musted, HT.out]; exact this, HF1.out⟩
  | false =>
    have HT := Lib.hid ht
    clear ht
    go_wp2_with fail
    refine (fail_any P 5 s w1 (by have := H1.out; rw [took, HT.out] at this; exact this)).mono ?_
    rintro e w2 ⟨rfl, h2, hf2⟩
    have H2 := Lib.hid h2
    have HF2 := Lib.hid (HF1.out.trans hf2)
    clear h2 hf2
    go_wp2_with fail
    go_end0
    exact ⟨rfl, by rw [musted, HT.out]; exact H2.out, HF2.out⟩
set_option maxRecDepth 100000 in
set_option maxHeartbeats 2000000 in
/-- name -/
theorem name_any (P : Nat) (s : PS) (w : World) (h : RR w P s) :
    Calls Tryz.prog 65 #[.pointer (some ⟨P, 0, none⟩)] w fun e w' => ∃ nm : B, e = .returned (.string ⟨nm.toArray⟩) ∧ RR w' P (worded 1 s) ∧ St (fun _ => CM.name) s nm (worded 1 s) ∧ Fr [some P] w w' := by
  have HST : Hid (∀ nm : B, (s.e = 0 → (now s).kind = 1 → nm = (now s).text) → St (fun _ => CM.name) s nm (worded 1 s)) := Lib.hid (fun nm hn => by
    have h1 := St.word 1 s (if s.e = 0 ∧ (now s).kind = 1 then now s else ⟨0, nm, 0, 0⟩) (fun a b => if_pos ⟨a, b⟩)
    have h2 := St.bnd (d := fun t _ => CM.ret t.text) h1 (St.ret _ _)
    have e : (if s.e = 0 ∧ (now s).kind = 1 then now s else ⟨0, nm, 0, 0⟩ : Tok).text = nm := by
      by_cases hc : s.e = 0 ∧ (now s).kind = 1
      · rw [if_pos hc]; exact (hn hc.1 hc.2).symm
      · rw [if_neg hc]
    rw [e] at h2
    exact h2)
  have HR := Lib.hid h
  clear h
  go_enter Tryz.func65, Tryz.ntmps65
  go_wp2_with fail
  refine (now_any P s w HR.out).mono ?_
  rintro e w1 ⟨rfl, hf⟩
  have hPl := HR.out.lt
  have hs1 := hf.size
  have hnP : ¬ P = w1.heap.size := by omega
  have hlP : P < w1.heap.size := by omega
  obtain ⟨g, off, cap, N, n, ha⟩ := (HR.out.keep hf (by simp)).at
  have c4 := ha.c4
  have HF0 := Lib.hid hf
  clear hf ha
  obtain ⟨k, x, i, p, he⟩ : ∃ k x i p, (now s).kind = k ∧ (now s).text = x ∧ (now s).int = i ∧ (now s).pos = p := ⟨_, _, _, _, rfl, rfl, rfl, rfl⟩
  obtain ⟨e0, e1, e2, e3⟩ := he
  have HK := Lib.hid e0
  have HX := Lib.hid e1
  rw [e0, e1, e2, e3]
  clear e0 e1 e2 e3
  have HR1 := Lib.hid ((HR.out.keep HF0.out (by simp)).alloc (.cells #[.int .i64 k, .string ⟨x.toArray⟩, .int .i64 i, .int .i64 p] 45))
  have HF := Lib.hid ((HF0.out.mono (S' := [some P]) (by simp)).alloc (.cells #[.int .i64 k, .string ⟨x.toArray⟩, .int .i64 i, .int .i64 p] 45))
  have HB := Lib.hid (Blk.new w1 45 [.int .i64 k, .string ⟨x.toArray⟩, .int .i64 i, .int .i64 p])
  by_cases hg : s.e = 0 ∧ k = 1
  · obtain ⟨h0, rfl⟩ := hg
    have HE : Hid (worded 1 s = skip s) := Lib.hid (by unfold worded; exact if_neg (by rintro (h | h); exact h h0; exact h HK.out))
    go_wp2_with fail
    refine (next_any P s _ HR1.out (by rw [HK.out]; decide)).mono ?_
    rintro e w2 ⟨rfl, h2, hf2⟩
    have H2 := Lib.hid h2
    have HB2 := Lib.hid (HB.out.keep hf2 (by simp; omega))
    have HF2 := Lib.hid (HF.out.trans hf2)
    have d1 := HB2.out.cell 1
    clear h2 hf2 c4
    go_wp2_with fail
    go_ret
    exact ⟨_, rfl, by rw [HE.out]; exact H2.out, HST.out _ (fun _ _ => HX.out.symm), HF2.out⟩
  · have HE : Hid (worded 1 s = failed 5 s) := Lib.hid (by unfold worded; exact if_pos (by by_cases h : s.e = 0; exact .inr (fun hk => hg ⟨h, HK.out.symm.trans hk⟩); exact .inl h))
    have HG := Lib.hid hg
    by_cases h0 : s.e = 0
    · have h1 : ¬ k = 1 := fun hk => hg ⟨h0, hk⟩
      clear hg
      go_wp2_with fail
      refine (fail_any P 5 s _ HR1.out).mono ?_
      rintro e w2 ⟨rfl, h2, hf2⟩
      have H2 := Lib.hid h2
      have HF2 := Lib.hid (HF.out.trans hf2)
      clear h2 hf2 c4
      go_wp2_with fail
      go_ret
      exact ⟨[], rfl, by rw [HE.out]; exact H2.out, HST.out _ (fun a b => absurd ⟨a, HK.out.symm.trans b⟩ HG.out), HF2.out⟩
    · clear hg
      go_wp2_with fail
      refine (fail_any P 5 s _ HR1.out).mono ?_
      rintro e w2 ⟨rfl, h2, hf2⟩
      have H2 := Lib.hid h2
      have HF2 := Lib.hid (HF.out.trans hf2)
      clear h2 hf2 c4
      go_wp2_with fail
      go_ret
      exact ⟨[], rfl, by rw [HE.out]; exact H2.out, HST.out _ (fun a b => absurd ⟨a, HK.out.symm.trans b⟩ HG.out), HF2.out⟩
end Rf
end Go.Proofs.YtmdnhinpaflamaaGreatDoor
