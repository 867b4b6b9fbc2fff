/- A line of words, as the lexer reads it. -/
import Derived.Test.YtmdnhinpaflamaaGreatDoorShA
import Derived.Test.YtmdnhinpaflamaaGreatDoorLxE
import Derived.Test.YtmdnhinpaflamaaGreatDoorPlA
import Derived.Test.YtmdnhinpaflamaaGreatDoorGsth
import Derived.Test.YtmdnhinpaflamaaGreatDoorLex
import Derived.BigQuiet
import Derived.Deep.RegionWith
namespace Go.Proofs.YtmdnhinpaflamaaGreatDoor
open Go.RowKit
namespace Pc
open LexM (Tok)
open Lx (LS at0)
theorem dec_all (u : Nat) : (Lib.decDigits u).all LexM.dig = true := by
 induction u using Nat.strongRecOn with
 |_ u ih =>
  rw [dec_step, List.all_append]
  have h1 : (digs (u / 10)).all LexM.dig = true := by
   unfold digs
   split
   ·rfl
   ·exact ih _ (by omega)
  have h2 : (UInt8.ofNat (48 + u % 10)).toNat = 48 + u % 10 := by rw [UInt8.toNat_ofNat']; omega
  rw [h1]
  simp only [List.all_cons, List.all_nil, LexM.dig, h2, Bool.true_and, Bool.and_true, decide_eq_true_eq]
  omega
theorem val_snoc (l : B) (c : UInt8) : LexM.val (l ++ [c]) = LexM.val l * 10 + (c.toNat - 48) := by simp [LexM.val]
theorem dec_val (u : Nat) : LexM.val (Lib.decDigits u) = u := by
 induction u using Nat.strongRecOn with
 |_ u ih =>
  have h2 : (UInt8.ofNat (48 + u % 10)).toNat = 48 + u % 10 := by rw [UInt8.toNat_ofNat']; omega
  rw [dec_step, val_snoc, h2]
  unfold digs
  split
  ·rename_i h; simp [LexM.val]; omega
  ·rw [ih _ (by omega)]; omega
theorem dec_ne (u : Nat) : Lib.decDigits u ≠ [] := by rw [dec_step]; simp
theorem dig_noletter {c : UInt8} (h : LexM.dig c = true) : LexM.letter c = false := by
 simp [LexM.dig] at h
 simp [LexM.letter]
 constructor
 ·omega
 ·rintro rfl; revert h; decide
theorem tw {f : UInt8 -> Bool} {l R : B} (h : l.all f = true) (hR : f (R.headD 0) = false) : (l ++ R).takeWhile f = l := by
 induction l with
 |nil =>
  cases R with
  |nil => rfl
  |cons c R => rw [List.nil_append, List.takeWhile_cons, if_neg (by simpa using hR)]
 |cons d l ih =>
  simp only [List.all_cons, Bool.and_eq_true] at h
  rw [List.cons_append, List.takeWhile_cons, if_pos h.1, ih h.2]
theorem good_of {c : UInt8} (h : good c = true) : ¬ (c.toNat < 32 \/ 126 < c.toNat) := by
 simp [good] at h; omega
theorem txt_end (R : B) (p : Nat) (hR : R.headD 0 ≠ 39) : LexM.txt p (39 :: R) = .inr ([], p + 1) := by
 unfold LexM.txt
 rw [if_neg (by decide), if_pos rfl]
 cases R with
 |nil => rfl
 |cons d r => exact if_neg hR
theorem txt_quo (R : B) (hR : R.headD 0 ≠ 39) : ∀ (s : B) (p : Nat), s.all good = true -> LexM.txt p (quo s ++ 39 :: R) = .inr (s, p + (quo s).length + 1)
 |[], p, _ => by simp only [quo, List.nil_append, txt_end R p hR]; rfl
 |c :: r, p, h => by
  simp only [List.all_cons, Bool.and_eq_true] at h
  have hc := good_of h.1
  by_cases h39 : c = 39
  ·subst h39
   simp only [quo, if_pos, List.cons_append]
   unfold LexM.txt
   rw [if_neg hc, if_pos rfl]
   simp only [if_pos]
   rw [txt_quo R hR r (p + 2) h.2]
   simp only [List.length_cons]
   congr 2
   omega
  ·simp only [quo, if_neg h39, List.cons_append]
   unfold LexM.txt
   rw [if_neg hc, if_neg h39, txt_quo R hR r (p + 1) h.2]
   simp only [List.length_cons]
   congr 2
   omega
theorem stops0 (c : Pc) : c.stops 0 = true := by cases c <;> simp [Pc.stops] <;> decide
theorem stops32 (c : Pc) : c.stops 32 = true := by cases c <;> simp [Pc.stops] <;> decide
theorem letter_head {t : B} (h : LexM.letter (t.headD 0) = true) : ∃ c r, t = c :: r /\ LexM.letter c = true := by
 cases t with
 |nil => exact absurd h (by decide)
 |cons c r => exact ⟨c, r, rfl, h⟩
theorem words_letters : (LexM.words.all fun t => LexM.letter (t.headD 0) && t.all LexM.nameByte) = true := by decide
theorem word_letters {t : B} (h : LexM.words.contains t = true) : LexM.letter (t.headD 0) = true /\ t.all LexM.nameByte = true := by
 have := List.all_eq_true.1 words_letters t (by simpa using h)
 simpa using this
theorem tok_letters (q : Nat) (t R : B) (h1 : LexM.letter (t.headD 0) = true) (h2 : t.all LexM.nameByte = true) (hR : LexM.nameByte (R.headD 0) = false) :
  LexM.tok1 q (t ++ R) = (if LexM.words.contains t then .inr (⟨2, t, 0, q⟩, q + t.length) else if 16 < t.length then .inl (q, 7) else .inr (⟨1, t, 0, q⟩, q + t.length)) := by
 have ht := tw h2 hR
 obtain ⟨c, r, rfl, hc⟩ := letter_head h1
 rw [List.cons_append] at ht ⊢
 simp only [LexM.tok1]
 rw [if_pos hc, ht]
theorem drop_len (t R : B) : (t ++ R).drop t.length = R := by simp
theorem tok_num (q v : Nat) (R : B) (hv : v <= 9223372036854775807) (hR : LexM.nameByte (R.headD 0) = false) :
  LexM.tok1 q (Lib.decDigits v ++ R) = .inr (⟨3, [], v, q⟩, q + (Lib.decDigits v).length) := by
 have hall := dec_all v
 have hval := dec_val v
 have hne := dec_ne v
 simp only [LexM.nameByte, Bool.or_eq_false_iff] at hR
 have ht := tw hall hR.2
 generalize Lib.decDigits v = t at hall hval hne ht
 cases t with
 |nil => exact absurd rfl hne
 |cons c r =>
  have hc : LexM.dig c = true := by
   simp only [List.all_cons, Bool.and_eq_true] at hall
   exact hall.1
  have hd := drop_len (c :: r) R
  rw [List.cons_append] at ht hd ⊢
  simp only [LexM.tok1]
  rw [if_neg (by rw [dig_noletter hc]; decide), if_pos hc, ht, hd, hval, if_neg (by rw [hR.1]; decide), if_neg (by omega)]
theorem tok_text (q : Nat) (t R : B) (h : okText t = true) (hR : R.headD 0 ≠ 39) : LexM.tok1 q (39 :: (quo t ++ [39]) ++ R) = .inr (⟨4, t, 0, q⟩, q + (39 :: (quo t ++ [39])).length) := by
 simp only [okText, Bool.and_eq_true, decide_eq_true_eq] at h
 rw [List.cons_append, List.append_assoc]
 simp only [LexM.tok1]
 rw [if_neg (by decide), if_neg (by decide), if_pos trivial, List.singleton_append, txt_quo R hR t (q + 1) h.1]
 simp only []
 rw [if_neg (by omega)]
 simp only [List.length_cons, List.length_append, List.length_nil]
 congr 2
 omega
theorem tok_sign (q : Nat) (t R : B) (h : signL.contains t = true) (hs : Pc.stops (R.headD 0) (.sign t) = true) : LexM.tok1 q (t ++ R) = .inr (⟨5, t, 0, q⟩, q + t.length) := by
 have hm : t ∈ signL := by simpa using h
 simp only [signL, List.mem_cons, List.not_mem_nil, or_false] at hm
 have k60 : ∀ d : UInt8, ((decide (d = 62) || decide (d = 61)) = false) -> (if (((60 : UInt8) = 60 /\ (d = 62 \/ d = 61)) \/ ((60 : UInt8) = 62 /\ d = 61)) then (.inr (⟨5, [60, d], 0, q⟩, q + 2) : (Nat × Int) ⊕ (Tok × Nat)) else .inr (⟨5, [60], 0, q⟩, q + 1)) = .inr (⟨5, [60], 0, q⟩, q + 1) := by
  intro d hd
  simp only [Bool.or_eq_false_iff, decide_eq_false_iff_not] at hd
  rw [if_neg]
  rintro (⟨_, h1 | h1⟩ | ⟨h1, _⟩)
  ·exact hd.1 h1
  ·exact hd.2 h1
  ·exact absurd h1 (by decide)
 have k62 : ∀ d : UInt8, (decide (d = 61) = false) -> (if (((62 : UInt8) = 60 /\ (d = 62 \/ d = 61)) \/ ((62 : UInt8) = 62 /\ d = 61)) then (.inr (⟨5, [62, d], 0, q⟩, q + 2) : (Nat × Int) ⊕ (Tok × Nat)) else .inr (⟨5, [62], 0, q⟩, q + 1)) = .inr (⟨5, [62], 0, q⟩, q + 1) := by
  intro d hd
  simp only [decide_eq_false_iff_not] at hd
  rw [if_neg]
  rintro (⟨h1, _⟩ | ⟨_, h1⟩)
  ·exact absurd h1 (by decide)
  ·exact hd h1
 rcases hm with rfl | rfl | rfl | rfl | rfl | rfl | rfl | rfl | rfl | rfl | rfl | rfl | rfl
 ·rfl
 ·rfl
 ·rfl
 ·rfl
 ·rfl
 ·refine (show LexM.tok1 q ([60] ++ R) = _ from rfl).trans (k60 (R.headD 0) ?_)
  have : (!((R.headD 0 == 62 || R.headD 0 == 61) || false)) = true := hs
  simpa using this
 ·refine (show LexM.tok1 q ([62] ++ R) = _ from rfl).trans (k62 (R.headD 0) ?_)
  have : (!(false || (R.headD 0 == 61))) = true := hs
  simpa using this
 ·rfl
 ·rfl
 ·rfl
 ·rfl
 ·rfl
 ·rfl
theorem tok1_pc (c : Pc) (q : Nat) (R : B) (h : c.ok = true) (hs : c.stops (R.headD 0) = true) : LexM.tok1 q (c.bytes ++ R) = .inr (c.tok q, q + c.bytes.length) := by
 cases c with
 |name t =>
  simp only [Pc.ok, okName, Bool.and_eq_true, Bool.not_eq_true', decide_eq_true_eq] at h
  simp only [Pc.stops, Bool.not_eq_true'] at hs
  show LexM.tok1 q (t ++ R) = _
  rw [tok_letters q t R h.1.1.1 h.1.1.2 hs, if_neg (by rw [h.1.2]; decide), if_neg (by omega)]
  rfl
 |word t =>
  simp only [Pc.ok] at h
  simp only [Pc.stops, Bool.not_eq_true'] at hs
  show LexM.tok1 q (t ++ R) = _
  obtain ⟨h1, h2⟩ := word_letters h
  rw [tok_letters q t R h1 h2 hs, if_pos h]
  rfl
 |num v =>
  simp only [Pc.ok, decide_eq_true_eq] at h
  simp only [Pc.stops, Bool.not_eq_true'] at hs
  exact tok_num q v R h hs
 |text t =>
  simp only [Pc.stops, bne_iff_ne] at hs
  exact tok_text q t R h hs
 |sign t => exact tok_sign q t R h hs
theorem bytes_head {c : Pc} (h : c.ok = true) : ∃ x r, c.bytes = x :: r /\ x ≠ 32 := by
 cases c with
 |name t =>
  simp only [Pc.ok, okName, Bool.and_eq_true] at h
  obtain ⟨x, r, rfl, hx⟩ := letter_head h.1.1.1
  exact ⟨x, r, rfl, by rintro rfl; exact absurd hx (by decide)⟩
 |word t =>
  obtain ⟨x, r, rfl, hx⟩ := letter_head (word_letters h).1
  exact ⟨x, r, rfl, by rintro rfl; exact absurd hx (by decide)⟩
 |num v =>
  show ∃ x r, Lib.decDigits v = x :: r /\ x ≠ 32
  have hall := dec_all v
  have hne := dec_ne v
  generalize Lib.decDigits v = t at hall hne
  cases t with
  |nil => exact absurd rfl hne
  |cons x r =>
   simp only [List.all_cons, Bool.and_eq_true] at hall
   exact ⟨x, r, rfl, by rintro rfl; exact absurd hall.1 (by decide)⟩
 |text t => exact ⟨39, quo t ++ [39], rfl, by decide⟩
 |sign t =>
  have h : signL.contains t = true := h
  have hm : t ∈ signL := by simpa using h
  simp only [signL, List.mem_cons, List.not_mem_nil, or_false] at hm
  rcases hm with rfl | rfl | rfl | rfl | rfl | rfl | rfl | rfl | rfl | rfl | rfl | rfl | rfl <;> exact ⟨_, _, rfl, by decide⟩
theorem stops_next {c : Pc} {L : Line} (k : Nat) (hL : fits L = true) (h : c.stops (first L) = true) : c.stops ((render L ++ blanks k).headD 0) = true := by
 cases L with
 |nil =>
  cases k with
  |zero => exact stops0 c
  |succ k => exact stops32 c
 |cons a L =>
  obtain ⟨g, d⟩ := a
  cases g with
  |zero =>
   simp only [fits, Bool.and_eq_true] at hL
   obtain ⟨x, r, hx, _⟩ := bytes_head hL.1.1
   simp only [first, hx, List.headD_cons] at h
   simp only [render, hx]
   exact h
  |succ g => exact stops32 c
theorem LS_skip {S : B} : ∀ (g p : Nat) (X : B), S.drop p = blanks g ++ X -> LS S p = LS S (p + g) /\ S.drop (p + g) = X
 |0, p, X, h => ⟨rfl, h⟩
 |g + 1, p, X, h => by
  have hp : p < S.length := by
   have := congrArg List.length h
   simp [blanks] at this
   omega
  have h2 : S.drop (p + 1) = blanks g ++ X := by
   have := congrArg List.tail h
   rwa [List.tail_drop] at this
  obtain ⟨h3, h4⟩ := LS_skip g (p + 1) X h2
  have h5 : at0 S p = 32 := by
   rw [Lx.at0_lt hp]
   rw [List.drop_eq_getElem_cons hp] at h
   exact (List.cons.inj h).1
  rw [Lx.LS_blank hp h5, h3]
  exact ⟨by congr 1; omega, by rw [<- h4]; congr 1; omega⟩
theorem LS_line {S : B} (k : Nat) : ∀ (L : Line) (p : Nat), p <= S.length -> fits L = true -> S.drop p = render L ++ blanks k -> LS S p = .inr (toks p L ++ [⟨6, [], 0, S.length⟩])
 |[], p, hp, _, h => by
  obtain ⟨h1, h2⟩ := LS_skip k p [] (by rw [h]; simp [render])
  have h3 : p + k = S.length := by
   have := congrArg List.length h
   simp [blanks, render] at this
   omega
  rw [h1, h3, Lx.LS_end]
  rfl
 |(g, c) :: L, p, hp, hf, h => by
  simp only [fits, Bool.and_eq_true] at hf
  obtain ⟨⟨hc, hs⟩, hL⟩ := hf
  simp only [render, List.append_assoc] at h
  obtain ⟨h1, h2⟩ := LS_skip g p _ h
  obtain ⟨x, r, hx, hx32⟩ := bytes_head hc
  have hlt : p + g < S.length := by
   have := congrArg List.length h2
   simp [hx] at this
   omega
  have h5 : at0 S (p + g) ≠ 32 := by
   rw [Lx.at0_lt hlt]
   rw [List.drop_eq_getElem_cons hlt, hx] at h2
   rw [(List.cons.inj h2).1]
   exact hx32
  rw [h1, Lx.LS_tok hlt h5, h2, tok1_pc c (p + g) _ hc (stops_next k hL hs)]
  simp only []
  have h6 : S.drop (p + g + c.bytes.length) = render L ++ blanks k := by
   rw [<- List.drop_drop, h2, List.drop_left]
  have h7 : p + g + c.bytes.length <= S.length := by
   have := congrArg List.length h2
   simp at this
   omega
  rw [LS_line k L _ h7 hL h6]
  rfl
theorem lex_line (L : Line) (k : Nat) (hf : fits L = true) (hl : (render L ++ blanks k).length <= 400) : LexM.lex (render L ++ blanks k) = .inr (toks 0 L ++ [⟨6, [], 0, (render L ++ blanks k).length⟩]) := by
 unfold LexM.lex
 rw [if_neg (by omega)]
 exact LS_line k L 0 (Nat.zero_le _) hf rfl
theorem lex_long {S : B} (h : 400 < S.length) : LexM.lex S = .inl (0, 7) := by
 unfold LexM.lex
 rw [if_pos h]
end Pc
end Go.Proofs.YtmdnhinpaflamaaGreatDoor
namespace Go.Proofs.YtmdnhinpaflamaaGreatDoor
open Go.RowKit
set_option linter.unusedVariables false
namespace CM
open LexM (Tok)
open PM (B Ex Col It St PS zeroTok wordy two un colEx opOr opAnd opSum opTerm opComp)
open Pc (Pc Line okName okText render toks blanks)
theorem parse_keys {q : Qs} {L : Line} {k : Nat} (ho : q.ok 64 = true) (hk : keys L = keys q.line) (hf : Pc.fits L = true) (hl : (render L ++ blanks k).length <= 400) : PM.parse (render L ++ blanks k) = .inr q.st := by
 rw [CM.parse_eq, CM.parse, Pc.lex_line L k hf hl]
 exact parseL_keys ho hk 0 _
theorem parse_line {q : Qs} {k : Nat} (ho : q.ok 64 = true) (hl : (render q.line ++ blanks k).length <= 400) : PM.parse (render q.line ++ blanks k) = .inr q.st := parse_keys ho rfl (qs_fits ho) hl
theorem parse_shown {q : Qs} (ho : q.ok 64 = true) (hl : (render q.line).length <= 400) : PM.parse (render q.line) = .inr q.st := by
 have h := parse_line (k := 0) ho (by simpa [blanks] using hl)
 simpa [blanks] using h
theorem parse_long {S : B} (h : 400 < S.length) : PM.parse S = .inl (0, 7) := by
 rw [CM.parse_eq, CM.parse, Pc.lex_long h]
 rfl
end CM
end Go.Proofs.YtmdnhinpaflamaaGreatDoor
namespace Go.Proofs.YtmdnhinpaflamaaGreatDoor
open Go.RowKit
set_option linter.unusedVariables false
namespace Sx
open PM (Ex B)
theorem e_cells {A : Nat -> Prop} {w : World} {x : Ex} {cs : List Value} (h : Rep.E 82 A w x cs) : ∃ (op kind int : Int) (text table name : B) (args : List Ex) (a : Option Addr) (n c : Nat),
  x = .mk op kind int text table name args /\ cs = [.int .i64 op, .int .i64 kind, .int .i64 int, .string ⟨text.toArray⟩, .string ⟨table.toArray⟩, .string ⟨name.toArray⟩, .slice a n c] /\ Rep.Es 82 A w args (.slice a n c) /\ n = args.length := by
 cases h with
 |mk op kind int text table name args v h =>
  cases h with
  |mk _ _ xs hl hr hb =>
   rcases hr.form with ⟨rfl, h1, h2⟩ | ⟨g, off, cap, rfl, h1⟩
   ·exact ⟨op, kind, int, text, table, name, args, none, 0, 0, rfl, rfl, .mk _ _ xs hl hr hb, h1.symm⟩
   ·exact ⟨op, kind, int, text, table, name, args, _, _, _, rfl, rfl, .mk _ _ xs hl hr hb, rfl⟩
def SameI (x : Ex) : Prop := ∀ (y : Ex) (A A' : Nat -> Prop) (w : World) (ca cb : List Value), Rep.E 82 A w x ca -> Rep.E 82 A' w y cb ->
 Calls Tryz.prog 67 #[.agg ca.toArray, .agg cb.toArray] w fun e w' => (∃ b, e = .returned (.bool b) /\ (b = true ↔ x = y)) /\ Fr [] w w'
set_option maxRecDepth 100000 in
set_option maxHeartbeats 2000000 in
theorem same_es (l m : List Ex) (ih : ∀ x ∈ l, SameI x) (A A' : Nat -> Prop) (w : World) (va vb : Value) (ha : Rep.Es 82 A w l va) (hb : Rep.Es 82 A' w m vb) :
    Calls Tryz.prog 24 #[va, vb] w fun e w' => (∃ b, e = .returned (.bool b) /\ (b = true ↔ l = m)) /\ Fr [] w w' := by
  have HA := Hd ha
  have HB := Hd hb
  have IH := Hd ih
  obtain ⟨a1, c1, rfl, hx1⟩ := es_form ha
  obtain ⟨a2, c2, rfl, hx2⟩ := es_form hb
  clear ha hb ih
  by_cases hlm : l.length = m.length
  case neg =>
    have hlb : ((l.length : Int) == (m.length : Int)) = false := beq_eq_false_iff_ne.2 (by omega)
    go_enter Tryz.func24, Tryz.ntmps24
    go_wp2_with fail
    all_goals first
      | (exfalso; omega)
      | (go_ret; exact ⟨⟨false, rfl, by simp; rintro rfl; exact hlm rfl⟩, Fr.refl _ _⟩)
  have hli : (l.length : Int) <= 9223372036854775807 := by unfold maxLen at hx1; omega
  rw [<- hlm] at HB ⊢
  have HLM := Hd hlm
  clear hx1 hx2 hlm
  go_enter Tryz.func24, Tryz.ntmps24
  go_wp2_with fail
  go_loopw [5] (fun u wr => ∃ k : Nat, u = .int .i64 k /\ k <= l.length /\ Hid (l.take k = m.take k) /\ Hid (Fr [] w wr)) (fun u _ => l.length - (intOf u).toNat)
  case atStart => exact ⟨0, rfl, Nat.zero_le _, Hd (by simp), Hd (Fr.refl _ _)⟩
  case round =>
    obtain ⟨k, rfl, hk, HT, HF⟩ := hrel
    by_cases hlt : k < l.length
    · have hki : (k : Int) < (l.length : Int) := by omega
      have hltm : k < m.length := by have := HLM.out; omega
      have KA := Rep.Es.keep HF.out (by simp) HA.out
      have KB := Rep.Es.keep HF.out (by simp) HB.out
      obtain ⟨g1, o1, p1, ys, e1, hc1, -, hy, hcy⟩ := KA.at k hlt
      obtain ⟨g2, o2, p2, zs, e2, hc2, -, hz, hcz⟩ := KB.at k hltm
      simp only [Value.slice.injEq, true_and] at e1 e2
      obtain ⟨rfl, rfl⟩ := e1
      obtain ⟨rfl, -, rfl⟩ := e2
      have S1 := Hd (IH.out _ (List.getElem_mem hlt))
      have HY := Hd hy
      have HZ := Hd hz
      obtain ⟨op, kind, int, text, table, name, args, b1, m1, d1, hx, rfl, hes1, -⟩ := e_cells hy
      obtain ⟨op', kind', int', text', table', name', args', b2, m2, d2, hx', rfl, hes2, -⟩ := e_cells hz
      have a0 := hcy 0 _ rfl
      have a1 := hcy 1 _ rfl
      have a2 := hcy 2 _ rfl
      have a3 := hcy 3 _ rfl
      have a4 := hcy 4 _ rfl
      have a5 := hcy 5 _ rfl
      have a6 := hcy 6 _ rfl
      have z0 := hcz 0 _ rfl
      have z1 := hcz 1 _ rfl
      have z2 := hcz 2 _ rfl
      have z3 := hcz 3 _ rfl
      have z4 := hcz 4 _ rfl
      have z5 := hcz 5 _ rfl
      have z6 := hcz 6 _ rfl
      simp only [Nat.add_zero] at a0 z0
      have hc2' : (l.length : Int) <= c2 := by have := HLM.out; omega
      clear hcy hcz KA KB hy hz hx hx' hes1 hes2
      have HYD := Hd (Rep.E.keep ((Fr.refl [] wr).drew) (by simp) HY.out)
      have HZD := Hd (Rep.E.keep ((Fr.refl [] wr).drew) (by simp) HZ.out)
      have HFD := Hd (HF.out.drew)
      have hns : ∀ b : Bool, (b = true ↔ l[k] = m[k]) -> b = true -> l.take (k + 1) = m.take (k + 1) := fun b h1 h2 => by
        rw [List.take_succ_eq_append_getElem hlt, List.take_succ_eq_append_getElem hltm, HT.out, h1.1 h2]
      have hnf : ∀ b : Bool, (b = true ↔ l[k] = m[k]) -> b = false -> l ≠ m := fun b h1 h2 h3 => by
        subst h3
        rw [h1.2 rfl] at h2
        cases h2
      have HNS := Hd hns
      have HNF := Hd hnf
      clear hns hnf
      go_wp2_with fail
      go_region_with (
        go_at_call 67
        refine (S1.out _ A A' _ _ _ HYD.out HZD.out).mono ?_
        rintro e w2 ⟨⟨b, rfl, hb⟩, hf2⟩
        have HBB := Hd hb
        have HF2 := Hd (HFD.out.trans hf2)
        clear hf2 hb)
      all_goals
        cases b
      all_goals
        go_wp2_with fail
        first
        | (go_ret
           exact ⟨⟨false, rfl, ⟨fun h => (Bool.false_ne_true h).elim, fun h => (HNF.out _ HBB.out rfl h).elim⟩⟩, HF2.out⟩)
        | (go_roundw
           case rel => exact ⟨k + 1, by go_num, hlt, Hd (HNS.out _ HBB.out rfl), HF2⟩
           case measure => simp [intOf]; omega)
    · have hki : (l.length : Int) <= (k : Int) := by omega
      obtain rfl : k = l.length := by omega
      go_wp2_with fail
      go_ret
      refine ⟨⟨true, rfl, ⟨fun _ => ?_, fun _ => rfl⟩⟩, HF.out⟩
      have := HT.out
      rw [List.take_length] at this
      rw [HLM.out, List.take_length] at this
      exact this
set_option maxRecDepth 100000 in
set_option maxHeartbeats 2000000 in
theorem same_body (op kind int : Int) (text table name : B) (args : List Ex) (ih : ∀ x ∈ args, SameI x) : SameI (.mk op kind int text table name args) := by
  intro y A A' w ca cb ha hb
  obtain ⟨_, _, _, _, _, _, _, b1, m1, d1, e1, rfl, s1, hm1⟩ := e_cells ha
  simp only [PM.Ex.mk.injEq] at e1
  obtain ⟨rfl, rfl, rfl, rfl, rfl, rfl, rfl⟩ := e1
  obtain ⟨op', kind', int', text', table', name', args', b2, m2, d2, rfl, rfl, s2, hm2⟩ := e_cells hb
  have S1 := Hd s1
  have S2 := Hd s2
  have IH := Hd ih
  have HM := Hd (And.intro hm1 hm2)
  clear ha hb s1 s2 ih hm1 hm2
  go_enter Tryz.func67, Tryz.ntmps67
  go_wp2_with fail
  all_goals first
    | (go_ret
       refine ⟨⟨false, rfl, ⟨fun h => (Bool.false_ne_true h).elim, fun h => ?_⟩⟩, ((Fr.refl [] w).alloc _).alloc _⟩
       exfalso
       simp only [PM.Ex.mk.injEq] at h
       obtain ⟨h1, h2, h3, h4, h5, h6, h7⟩ := h
       have hm := HM.out
       subst h1 h2 h3 h4 h5 h6 h7
       obtain ⟨rfl, rfl⟩ := hm
       simp_all)
    | (refine (same_es args args' IH.out A A' _ _ _ (Rep.Es.keep (((Fr.refl [] w).alloc _).alloc _) (by simp) S1.out) (Rep.Es.keep (((Fr.refl [] w).alloc _).alloc _) (by simp) S2.out)).mono ?_
       rintro e w2 ⟨⟨b, rfl, hb⟩, hf2⟩
       have HF2 : Hid (Fr [] w w2) := Hd ((((Fr.refl [] w).alloc _).alloc _).trans hf2)
       have HBB := Hd hb
       clear hf2 hb
       go_wp2_with fail
       go_ret
       refine ⟨⟨b, rfl, HBB.out.trans ?_⟩, HF2.out⟩
       simp_all)
theorem same_e : ∀ x : Ex, SameI x
 |.mk op kind int text table name args => same_body op kind int text table name args fun y _ => same_e y
end Sx
end Go.Proofs.YtmdnhinpaflamaaGreatDoor
