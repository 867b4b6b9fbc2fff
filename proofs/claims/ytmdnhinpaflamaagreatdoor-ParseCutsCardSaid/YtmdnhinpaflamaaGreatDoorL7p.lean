/- What is shown, spread, cut off, or with a word more. No program in sight. -/
import Derived.Test.YtmdnhinpaflamaaGreatDoorLin
import Derived.Test.YtmdnhinpaflamaaGreatDoorTold
namespace Go.Proofs.YtmdnhinpaflamaaGreatDoor
open Go.RowKit
set_option linter.unusedVariables false
set_option linter.unusedSimpArgs false
namespace CM
open LexM (Tok)
open PM (B Ex Col It St PS zeroTok wordy two un colEx opOr opAnd opSum opTerm opComp)
open Pc (Pc Line okName okText render toks blanks fits first)
theorem first_wide (n : Nat) (L : Line) : first (wide n L) = 0 \/ first (wide n L) = first L := by
 cases L with
 |nil => exact .inl rfl
 |cons x r =>
  obtain ⟨g, c⟩ := x
  cases n with
  |zero => exact .inr (by simp [wide])
  |succ n => exact .inl rfl
theorem fits_wide (n : Nat) : ∀ {L : Line}, fits L = true -> fits (wide n L) = true
 |[], _ => rfl
 |(g, c) :: L, h => by
  simp only [fits, Bool.and_eq_true] at h
  show (c.ok && c.stops (first (wide n L)) && fits (wide n L)) = true
  simp only [Bool.and_eq_true]
  refine ⟨⟨h.1.1, ?_⟩, fits_wide n h.2⟩
  rcases first_wide n L with e | e
  ·rw [e]; exact Pc.stops0 c
  ·rw [e]; exact h.1.2
theorem fits_take : ∀ {L : Line} (j : Nat), fits L = true -> fits (L.take j) = true
 |[], j, _ => by simp [fits]
 |(g, c) :: L, 0, _ => rfl
 |(g, c) :: L, j + 1, h => by
  simp only [fits, Bool.and_eq_true] at h
  show (c.ok && c.stops (first (L.take j)) && fits (L.take j)) = true
  simp only [Bool.and_eq_true]
  refine ⟨⟨h.1.1, ?_⟩, fits_take j h.2⟩
  cases j with
  |zero => exact Pc.stops0 c
  |succ j =>
   cases L with
   |nil => exact Pc.stops0 c
   |cons x r => obtain ⟨k, d⟩ := x; cases k <;> exact h.1.2
theorem fits_snoc {d : Pc} (hd : d.ok = true) : ∀ {L : Line}, fits L = true -> fits (L ++ [(1, d)]) = true
 |[], _ => by simp only [List.nil_append, fits, first, hd, Pc.stops0, Bool.and_self]
 |(g, c) :: L, h => by
  simp only [fits, Bool.and_eq_true] at h
  simp only [List.cons_append, fits, Bool.and_eq_true]
  refine ⟨⟨h.1.1, ?_⟩, fits_snoc hd h.2⟩
  cases L with
  |nil => exact Pc.stops0 c
  |cons x r => obtain ⟨k, d⟩ := x; cases k <;> exact h.1.2
theorem render_snoc (d : Pc) (L : Line) : render (L ++ [(1, d)]) = render L ++ 32 :: d.bytes := by
 induction L with
 |nil => simp [render, blanks]
 |cons x r ih => obtain ⟨g, c⟩ := x; simp only [List.cons_append, render, ih, List.append_assoc]
theorem toks_snoc (d : Pc) : ∀ (L : Line) (p : Nat), toks p (L ++ [(1, d)]) = toks p L ++ [d.tok (p + (render L).length + 1)]
 |[], p => rfl
 |(g, c) :: L, p => by
  simp only [List.cons_append, toks, toks_snoc d L, render, List.length_append, blanks, List.length_replicate]
  congr 4
  omega
theorem toks_len : ∀ (L : Line) (p : Nat), (toks p L).length = L.length
 |[], _ => rfl
 |(g, c) :: L, p => by simp only [toks, List.length_cons, toks_len L]
theorem cut_at : ∀ (L : Line) (p j : Nat) (hj : j < L.length), ∃ (g : Nat) (X : List Tok), (render L).take ((render (L.take j)).length + g) = render (L.take j) ++ blanks g /\ toks p L = toks p (L.take j) ++ X /\ ((toks p L)[j]'(by rw [toks_len]; exact hj)).pos = p + ((render (L.take j)).length + g)
 |(g, c) :: L, p, 0, _ => ⟨g, toks p ((g, c) :: L), by
   simp only [List.take_zero, render, List.length_nil, Nat.zero_add, List.nil_append]
   exact List.take_left' (by simp [blanks]), by simp [toks], by simp [toks, tok_pos, render]⟩
 |(g, c) :: L, p, j + 1, hj => by
  obtain ⟨k, X, h1, h2, h3⟩ := cut_at L (p + g + c.bytes.length) j (by simpa using hj)
  refine ⟨k, X, ?_, ?_, ?_⟩
  ·simp only [List.take_succ_cons, render]
   rw [show (blanks g ++ (c.bytes ++ render (L.take j))).length + k = (blanks g ++ c.bytes).length + ((render (L.take j)).length + k) by simp only [List.length_append]; omega, <- List.append_assoc, List.take_length_add_append, h1]
   simp only [List.append_assoc]
  ·simp only [List.take_succ_cons, toks, h2, List.cons_append]
  ·simp only [toks, List.getElem_cons_succ, List.take_succ_cons, render, List.length_append, blanks, List.length_replicate]
   rw [h3]
   omega
theorem parse_cut {q : Qs} {S : B} (ho : q.ok 64 = true) (hS : render q.line = S) (hl : S.length <= 400) {j : Nat} {t : Tok} (hj : (toks 0 q.line ++ [⟨6, [], 0, S.length⟩])[j]? = some t) :
  ∃ k : Nat, t.pos = k /\ k <= S.length /\ ((∃ st, PM.parse (S.take k) = .inr st) \/ PM.parse (S.take k) = .inl ((k : Int), 5)) := by
 subst hS
 by_cases hn : j < q.line.length
 ·obtain ⟨g, X, h1, h2, h3⟩ := cut_at q.line 0 j hn
  have hjt : j < (toks 0 q.line).length := by rw [toks_len]; exact hn
  rw [List.getElem?_append_left hjt, List.getElem?_eq_getElem hjt] at hj
  cases hj
  have hle : (render (q.line.take j)).length + g <= (render q.line).length := by
   have := congrArg List.length h1
   simp only [List.length_take, List.length_append, blanks, List.length_replicate] at this
   omega
  refine ⟨(render (q.line.take j)).length + g, by rw [h3, Nat.zero_add], hle, ?_⟩
  have hlen : (render (q.line.take j) ++ blanks g).length = (render (q.line.take j)).length + g := by simp [blanks]
  rw [h1, CM.parse_eq, CM.parse, Pc.lex_line _ g (fits_take j (qs_fits ho)) (by omega), hlen]
  have hp : parseL (toks 0 (q.line.take j) ++ (X ++ [⟨6, [], 0, (render q.line).length⟩])) = .inr q.st := by
   rw [<- List.append_assoc, <- h2]
   exact parseL_keys ho rfl 0 _
  exact cut_ok (e := ⟨6, [], 0, (render (q.line.take j)).length + g⟩) rfl hp
 ·rw [List.getElem?_append_right (by rw [toks_len]; omega), toks_len] at hj
  have h0 : j - q.line.length = 0 := by
   have := (List.getElem?_eq_some_iff.1 hj).1
   simp at this
   omega
  rw [h0] at hj
  cases hj
  refine ⟨(render q.line).length, rfl, Nat.le_refl _, .inl ⟨q.st, ?_⟩⟩
  rw [List.take_length]
  exact parse_shown ho hl
theorem parse_more {q : Qs} {S : B} (ho : q.ok 64 = true) (hS : render q.line = S) (hl : S.length + 2 <= 400) : PM.parse (S ++ [32, 41]) = .inl (((S.length + 1 : Nat) : Int), 5) := by
 subst hS
 have e : render q.line ++ [32, 41] = render (q.line ++ [(1, .sign [41])]) := by rw [render_snoc]; rfl
 have hf : fits (q.line ++ [(1, .sign [41])]) = true := fits_snoc (by decide) (qs_fits ho)
 have h := Pc.lex_line _ 0 hf (by rw [<- e]; simp [blanks]; omega)
 simp only [blanks, List.replicate_zero, List.append_nil] at h
 rw [e, CM.parse_eq, CM.parse, h, toks_snoc, Nat.zero_add, List.append_assoc]
 exact parseL_close ho rfl 0 _ _
theorem parse_wide {q : Qs} (n : Nat) (ho : q.ok 64 = true) (hl : (render (wide n q.line) ++ blanks n).length <= 400) : PM.parse (render (wide n q.line) ++ blanks n) = .inr q.st :=
 parse_keys ho (keys_wide n q.line) (fits_wide n (qs_fits ho)) hl
end CM
end Go.Proofs.YtmdnhinpaflamaaGreatDoor
