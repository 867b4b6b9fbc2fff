/- What is shown is parsed as it was: expressions. No program in sight. -/
import Derived.Test.YtmdnhinpaflamaaDoorPlB
namespace Go.Proofs.YtmdnhinpaflamaaDoor
open Go.RowKit
namespace CM
open LexM (Tok)
open PM (B Ex Col It St PS zeroTok wordy two un colEx opOr opAnd opSum opTerm opComp)
open Pc (Pc Line okName okText)

/-- an expression that is shown -/
inductive Pr where
  | int (v : Nat)
  | text (t : B)
  | col (n : B)
  | tcol (t n : B)
  | neg (a : Pr)
  | not (a : Pr)
  | bin (o : Nat) (a b : Pr)
def Pr.ex : Pr → Ex
  | .int v => .mk 1 1 v [] [] [] []
  | .text t => .mk 1 2 0 t [] [] []
  | .col n => colEx [] n
  | .tcol t n => colEx t n
  | .neg a => un 3 a.ex
  | .not a => un 4 a.ex
  | .bin o a b => two (5 + o) a.ex b.ex
def Pr.ok : Pr → Bool
  | .int v => decide (v ≤ 9223372036854775807)
  | .text t => okText t
  | .col n => okName n
  | .tcol t n => okName t && okName n
  | .neg a => a.ok
  | .not a => a.ok
  | .bin o a b => decide (o < 11) && a.ok && b.ok
def Pr.nest : Pr → Nat
  | .neg a => a.nest + 2
  | .not a => a.nest + 2
  | .bin _ a b => max a.nest b.nest + 1
  | _ => 0
def opPc (o : Nat) : Pc :=
  match o with
  | 0 => .sign [43] | 1 => .sign [45] | 2 => .sign [42] | 3 => .sign [61] | 4 => .sign [60, 62] | 5 => .sign [60] | 6 => .sign [60, 61] | 7 => .sign [62] | 8 => .sign [62, 61] | 9 => .word [97, 110, 100] | _ => .word [111, 114]
/-- how it is shown, so many spaces ahead -/
def Pr.line (g : Nat) : Pr → Line
  | .int v => [(g, .num v)]
  | .text t => [(g, .text t)]
  | .col n => [(g, .name n)]
  | .tcol t n => [(g, .name t), (0, .sign [46]), (0, .name n)]
  | .neg a => (g, .sign [40]) :: (0, .sign [45]) :: (a.line 0 ++ [(0, .sign [41])])
  | .not a => (g, .sign [40]) :: (0, .word [110, 111, 116]) :: (a.line 1 ++ [(0, .sign [41])])
  | .bin o a b => (g, .sign [40]) :: (a.line 0 ++ (1, opPc o) :: (b.line 1 ++ [(0, .sign [41])]))
def keys (L : Line) : List Pc := L.map (·.2)
theorem keys_app (a b : Line) : keys (a ++ b) = keys a ++ keys b := List.map_append ..
theorem keys_gap (g h : Nat) (p : Pr) : keys (p.line g) = keys (p.line h) := by cases p <;> rfl

/-- words begin so; and what is left -/
def Starts : List Pc → List Tok → List Tok → Prop
  | [], l, r => l = r
  | c :: cs, l, r => ∃ q l', l = c.tok q :: l' ∧ Starts cs l' r
theorem starts_app : ∀ {a b : List Pc} {l r : List Tok}, Starts (a ++ b) l r → ∃ m, Starts a l m ∧ Starts b m r
  | [], _, l, _, h => ⟨l, rfl, h⟩
  | _ :: _, _, _, _, h => by
    obtain ⟨q, l', h1, h2⟩ := h
    obtain ⟨m, h3, h4⟩ := starts_app h2
    exact ⟨m, ⟨q, l', h1, h3⟩, h4⟩
theorem starts_toks : ∀ (L : Line) (p : Nat) (r : List Tok), Starts (keys L) (Pc.toks p L ++ r) r
  | [], _, _ => rfl
  | (g, _) :: L, p, r => ⟨p + g, _, rfl, starts_toks L _ r⟩
/-- a word, a sign -/
def mark : Pc → Option B
  | .word t => some t
  | .sign t => some t
  | _ => none
theorem is_mark (c : Pc) (q : Nat) (l : List Tok) (w : B) : is w (c.tok q :: l) = (match mark c with | some t => t == w | none => false) := by
  cases c <;> rfl
theorem is_no {c : Pc} (h : mark c = none) (w : B) (q : Nat) (l : List Tok) : ¬ is w (c.tok q :: l) = true := by rw [is_mark, h]; exact Bool.false_ne_true
theorem sign_mark (c : Pc) (q : Nat) (l : List Tok) : sign (c.tok q :: l) = (mark c).getD [] := by
  cases c <;> rfl

/-- behind an expression: no sign that goes on with it -/
structure Free (r : List Tok) : Prop where
  dot : is [46] r = false
  term : opTerm (sign r) = none
  sum : opSum (sign r) = none
  comp : opComp (sign r) = none
  and : opAnd (sign r) = none
  or : opOr (sign r) = none
theorem free_mark {c : Pc} {q : Nat} {l : List Tok} {t : B} (h : mark c = some t) (hd : (t == [46]) = false) (h1 : opTerm t = none) (h2 : opSum t = none) (h3 : opComp t = none) (h4 : opAnd t = none) (h5 : opOr t = none) : Free (c.tok q :: l) := by
  refine ⟨by rw [is_mark, h]; exact hd, ?_, ?_, ?_, ?_, ?_⟩ <;> rw [sign_mark, h] <;> assumption
theorem free_close (q : Nat) (l : List Tok) : Free ((Pc.sign [41]).tok q :: l) := free_mark rfl rfl rfl rfl rfl rfl rfl
theorem free_comma (q : Nat) (l : List Tok) : Free ((Pc.sign [44]).tok q :: l) := free_mark rfl rfl rfl rfl rfl rfl rfl
theorem free_end (t : Tok) (h : wordy t = false) (l : List Tok) : Free (t :: l) := by
  have e : sign (t :: l) = [] := by
    unfold sign
    rw [show now (t :: l) = t from rfl, h]
    rfl
  refine ⟨?_, ?_, ?_, ?_, ?_, ?_⟩
  · unfold is
    rw [show now (t :: l) = t from rfl, h]
    rfl
  all_goals rw [e]; rfl

theorem bnd_ok {α β : Type} {f : P α} {g : α → P β} {l m : List Tok} {a : α} (h : f l = .ok (a, m)) : bnd f g l = g a m := by
  unfold bnd; rw [h]
theorem opt_yes {α : Type} {w : B} {f g : P α} {l : List Tok} (h : is w l = true) : opt w f g l = f l.tail := if_pos h
theorem opt_no {α : Type} {w : B} {f g : P α} {l : List Tok} (h : is w l = false) : opt w f g l = g l := if_neg (by rw [h]; decide)
theorem need_ok {c : Pc} {w : B} (h : mark c = some w) (q : Nat) (l : List Tok) : need w (c.tok q :: l) = .ok ((), l) := by
  unfold need
  rw [opt_yes (by rw [is_mark, h]; simp)]
  rfl
theorem needs_one {c : Pc} {w : B} (h : mark c = some w) (q : Nat) (l : List Tok) : needs [w] (c.tok q :: l) = .ok ((), l) := by
  show bnd (need w) _ _ = _
  rw [bnd_ok (need_ok h q l)]
  rfl
theorem name_ok (n : B) (q : Nat) (l : List Tok) : name ((Pc.name n).tok q :: l) = .ok (n, l) := rfl
theorem column_one {n : B} {q : Nat} {l : List Tok} (h : is [46] l = false) : column ((Pc.name n).tok q :: l) = .ok (colEx [] n, l) := by
  unfold column
  rw [bnd_ok (name_ok n q l), opt_no h]
  rfl
theorem column_two {t n : B} {l r : List Tok} (h : Starts [.name t, .sign [46], .name n] l r) : column l = .ok (colEx t n, r) := by
  obtain ⟨q, l1, rfl, q2, l2, rfl, q3, l3, rfl, rfl⟩ := h
  unfold column
  rw [bnd_ok (name_ok t q _), opt_yes (by rw [is_mark]; rfl)]
  rfl
theorem rows_one {one : P Ex} {ops : B → Option Int} {l r : List Tok} {x : Ex} (h : one l = .ok (x, r)) (hr : ops (sign r) = none) : rows one ops l = .ok (x, r) := by
  unfold rows
  rw [bnd_ok h]
  cases r.length with
  | zero => rfl
  | succ f =>
    show (match ops (sign r) with | none => _ | some _ => _) = _
    rw [hr]
theorem rows_two {one : P Ex} {ops : B → Option Int} {l r : List Tok} {x y : Ex} {c : Pc} {q : Nat} {m : List Tok} {op : Int} (h : one l = .ok (x, c.tok q :: m)) (hm : ops ((mark c).getD []) = some op) (hy : one m = .ok (y, r)) (hr : ops (sign r) = none) :
    rows one ops l = .ok (two op x y, r) := by
  unfold rows
  rw [bnd_ok h]
  show (match ops (sign (c.tok q :: m)) with | none => _ | some _ => _) = _
  rw [sign_mark, hm]
  show bnd one _ m = _
  rw [bnd_ok hy]
  cases m.length with
  | zero => rfl
  | succ f =>
    show (match ops (sign r) with | none => _ | some _ => _) = _
    rw [hr]
/-- an operation's rank: 0 term, 1 sum, 2 comparison, 3 and, 4 or -/
theorem sum_one {u : P Ex} {l r : List Tok} {x : Ex} (h : u l = .ok (x, r)) (h1 : opTerm (sign r) = none) (h2 : opSum (sign r) = none) : sumF u l = .ok (x, r) := rows_one (rows_one h h1) h2
theorem comp_of {u : P Ex} {l r : List Tok} {x : Ex} (h : sumF u l = .ok (x, r)) (h3 : opComp (sign r) = none) : compF u l = .ok (x, r) := by
  unfold compF
  rw [bnd_ok h]
  show (match opComp (sign r) with | none => _ | some _ => _) = _
  rw [h3]
theorem not_of {u nt : Int → P Ex} {d : Int} {l r : List Tok} {x : Ex} (hn : is [110, 111, 116] l = false) (h : compF (u d) l = .ok (x, r)) : notF u nt d l = .ok (x, r) := by
  unfold notF
  rw [if_neg (by rw [hn]; decide)]
  exact h
theorem expr_of {nt : P Ex} {l r : List Tok} {x : Ex} (h : nt l = .ok (x, r)) (h4 : opAnd (sign r) = none) (h5 : opOr (sign r) = none) : exprF nt l = .ok (x, r) := rows_one (rows_one h h4) h5
/-- alone, in any place -/
theorem expr_one {u nt : Int → P Ex} {d : Int} {l r : List Tok} {x : Ex} (hn : is [110, 111, 116] l = false) (h : u d l = .ok (x, r)) (hr : Free r) : exprF (notF u nt d) l = .ok (x, r) :=
  expr_of (not_of hn (comp_of (sum_one h hr.term hr.sum) hr.comp)) hr.and hr.or
/-- two with an operation between, up to a bracket -/
theorem expr_two {u nt : Int → P Ex} {d : Int} {l m r : List Tok} {x y : Ex} {o : Nat} {q q2 : Nat} (ho : o < 11) (hn : is [110, 111, 116] l = false) (h : u d l = .ok (x, (opPc o).tok q :: m)) (hn2 : is [110, 111, 116] m = false) (h2 : u d m = .ok (y, (Pc.sign [41]).tok q2 :: r)) :
    exprF (notF u nt d) l = .ok (two (5 + o) x y, (Pc.sign [41]).tok q2 :: r) := by
  have fr := free_close q2 r
  rcases (by omega : o = 2 ∨ (o = 0 ∨ o = 1) ∨ (o = 3 ∨ o = 4 ∨ o = 5 ∨ o = 6 ∨ o = 7 ∨ o = 8) ∨ o = 9 ∨ o = 10) with rfl | ho | ho | rfl | rfl
  · exact expr_of (not_of hn (comp_of (rows_one (rows_two h rfl h2 fr.term) fr.sum) fr.comp)) fr.and fr.or
  · refine expr_of (not_of hn (comp_of ?_ fr.comp)) fr.and fr.or
    rcases ho with rfl | rfl
    · exact rows_two (rows_one h (by rw [sign_mark]; rfl)) rfl (rows_one h2 fr.term) fr.sum
    · exact rows_two (rows_one h (by rw [sign_mark]; rfl)) rfl (rows_one h2 fr.term) fr.sum
  · refine expr_of (not_of hn ?_) fr.and fr.or
    have h3 := sum_one h2 fr.term fr.sum
    have key : ∀ (c : Pc) (op : Int), u d l = .ok (x, c.tok q :: m) → opTerm ((mark c).getD []) = none → opSum ((mark c).getD []) = none → opComp ((mark c).getD []) = some op → compF (u d) l = .ok (two op x y, (Pc.sign [41]).tok q2 :: r) := by
      intro c op h h4 h5 h6
      unfold compF
      rw [bnd_ok (sum_one h (by rw [sign_mark]; exact h4) (by rw [sign_mark]; exact h5))]
      show (match opComp (sign (c.tok q :: m)) with | none => _ | some _ => _) = _
      rw [sign_mark, h6]
      show bnd (sumF (u d)) _ m = _
      rw [bnd_ok h3]
      rfl
    rcases ho with rfl | rfl | rfl | rfl | rfl | rfl <;> exact key _ _ h rfl rfl rfl
  · refine rows_one ?_ fr.or
    exact rows_two (not_of hn (comp_of (sum_one h (by rw [sign_mark]; rfl) (by rw [sign_mark]; rfl)) (by rw [sign_mark]; rfl))) rfl (not_of hn2 (comp_of (sum_one h2 fr.term fr.sum) fr.comp)) fr.and
  · exact rows_two (rows_one (not_of hn (comp_of (sum_one h (by rw [sign_mark]; rfl) (by rw [sign_mark]; rfl)) (by rw [sign_mark]; rfl))) (by rw [sign_mark]; rfl)) rfl (rows_one (not_of hn2 (comp_of (sum_one h2 fr.term fr.sum) fr.comp)) fr.and) fr.or
theorem starts_not {p : Pr} {l r : List Tok} (h : Starts (keys (p.line 0)) l r) : is [110, 111, 116] l = false := by
  cases p <;> (obtain ⟨q, l', rfl, _⟩ := h; rw [is_mark]; rfl)
theorem nests_ok {c : Pc} {w : B} (hc : mark c = some w) {inn : Int → P Ex} {d : Int} (hd : d < 64) (q : Nat) (l : List Tok) : nests w inn d (c.tok q :: l) = inn (d + 1) l := by
  unfold nests
  rw [if_neg (by omega), bnd_ok (need_ok hc q l)]
theorem lev_not (n : Nat) : (lev (n + 1)).2 = notF (lev (n + 1)).1 (lev n).2 := rfl
theorem lev_un (n : Nat) : (lev (n + 1)).1 = unaryF (lev n).1 (lev n).2 := rfl
/-- in brackets -/
theorem paren_ok {n : Nat} {d : Int} {l m r : List Tok} {x : Ex} {q q2 : Nat} (hd : d < 64) (hl : l = (Pc.sign [40]).tok q :: m) (h : exprF ((lev n).2 (d + 1)) m = .ok (x, (Pc.sign [41]).tok q2 :: r)) : (lev (n + 1)).1 d l = .ok (x, r) := by
  subst hl
  rw [lev_un]
  unfold unaryF
  rw [if_neg (by rw [is_mark]; decide), if_pos (by rw [is_mark]; rfl), nests_ok rfl hd, bnd_ok h, bnd_ok (needs_one rfl q2 r)]
  rfl
/-- a shown expression, where one of the highest rank stands -/
theorem unary_ok : ∀ (p : Pr) (n : Nat) (d : Int) (l r : List Tok), p.ok = true → p.nest < n → d + p.nest ≤ 64 → Starts (keys (p.line 0)) l r → is [46] r = false → (lev n).1 d l = .ok (p.ex, r)
  | p, 0, d, l, r, _, hn, _, _, _ => absurd hn (Nat.not_lt_zero _)
  | .int v, n + 1, d, l, r, _, _, _, h, _ => by
    obtain ⟨q, l1, rfl, rfl⟩ := h
    show unaryF (lev n).1 (lev n).2 d ((Pc.num v).tok q :: l1) = _
    unfold unaryF
    rw [if_neg (is_no rfl _ _ _), if_neg (is_no rfl _ _ _), if_pos (show (now ((Pc.num v).tok q :: l1)).kind = 3 from rfl)]
    rfl
  | .text t, n + 1, d, l, r, _, _, _, h, _ => by
    obtain ⟨q, l1, rfl, rfl⟩ := h
    show unaryF (lev n).1 (lev n).2 d ((Pc.text t).tok q :: l1) = _
    unfold unaryF
    rw [if_neg (is_no rfl _ _ _), if_neg (is_no rfl _ _ _), if_neg (show ¬ (now ((Pc.text t).tok q :: l1)).kind = 3 from fun e => absurd (show (4 : Int) = 3 from e) (by decide)), if_pos (show (now ((Pc.text t).tok q :: l1)).kind = 4 from rfl)]
    rfl
  | .col m, n + 1, d, l, r, _, _, _, h, hr => by
    obtain ⟨q, l1, rfl, rfl⟩ := h
    show unaryF (lev n).1 (lev n).2 d ((Pc.name m).tok q :: l1) = _
    unfold unaryF
    rw [if_neg (is_no rfl _ _ _), if_neg (is_no rfl _ _ _), if_neg (show ¬ (now ((Pc.name m).tok q :: l1)).kind = 3 from fun e => absurd (show (1 : Int) = 3 from e) (by decide)), if_neg (show ¬ (now ((Pc.name m).tok q :: l1)).kind = 4 from fun e => absurd (show (1 : Int) = 4 from e) (by decide))]
    exact column_one hr
  | .tcol t m, n + 1, d, l, r, _, _, _, h, _ => by
    have h' : Starts [.name t, .sign [46], .name m] l r := h
    obtain ⟨q, l1, rfl, h2⟩ := h
    show unaryF (lev n).1 (lev n).2 d ((Pc.name t).tok q :: l1) = _
    unfold unaryF
    rw [if_neg (is_no rfl _ _ _), if_neg (is_no rfl _ _ _), if_neg (show ¬ (now ((Pc.name t).tok q :: l1)).kind = 3 from fun e => absurd (show (1 : Int) = 3 from e) (by decide)), if_neg (show ¬ (now ((Pc.name t).tok q :: l1)).kind = 4 from fun e => absurd (show (1 : Int) = 4 from e) (by decide))]
    exact column_two h'
  | .neg a, n + 1, d, l, r, ho, hn, hd, h, _ => by
    simp only [Pr.nest] at hn hd
    obtain ⟨n', rfl⟩ : ∃ n', n = n' + 1 := ⟨n - 1, by omega⟩
    obtain ⟨n', rfl⟩ : ∃ n'', n' = n'' + 1 := ⟨n' - 1, by omega⟩
    obtain ⟨q, l1, rfl, q2, l2, rfl, h⟩ := h
    change Starts (keys (a.line 0 ++ [(0, .sign [41])])) l2 r at h
    rw [keys_app] at h
    obtain ⟨m, h1, q3, l3, rfl, rfl⟩ := starts_app h
    refine paren_ok (by omega) rfl ?_ (q2 := q3)
    rw [lev_not]
    refine expr_one (by rw [is_mark]; rfl) ?_ (free_close q3 l3)
    rw [lev_un]
    unfold unaryF
    rw [if_pos (by rw [is_mark]; rfl), nests_ok rfl (by omega)]
    rw [bnd_ok (unary_ok a (n' + 1) (d + 1 + 1) l2 _ ho (by omega) (by omega) h1 (free_close q3 l3).dot)]
    rfl
  | .not a, n + 1, d, l, r, ho, hn, hd, h, _ => by
    simp only [Pr.nest] at hn hd
    obtain ⟨n', rfl⟩ : ∃ n', n = n' + 1 := ⟨n - 1, by omega⟩
    obtain ⟨n', rfl⟩ : ∃ n'', n' = n'' + 1 := ⟨n' - 1, by omega⟩
    obtain ⟨q, l1, rfl, q2, l2, rfl, h⟩ := h
    change Starts (keys (a.line 1 ++ [(0, .sign [41])])) l2 r at h
    rw [keys_app, keys_gap 1 0] at h
    obtain ⟨m, h1, q3, l3, rfl, rfl⟩ := starts_app h
    refine paren_ok (by omega) rfl ?_ (q2 := q3)
    have fr := free_close q3 l3
    refine expr_of ?_ fr.and fr.or
    rw [lev_not]
    unfold notF
    rw [if_pos (by rw [is_mark]; rfl), nests_ok rfl (by omega), lev_not]
    rw [bnd_ok (not_of (starts_not h1) (comp_of (sum_one (unary_ok a (n' + 1) (d + 1 + 1) l2 _ ho (by omega) (by omega) h1 fr.dot) fr.term fr.sum) fr.comp))]
    rfl
  | .bin o a b, n + 1, d, l, r, ho, hn, hd, h, _ => by
    simp only [Pr.nest] at hn hd
    simp only [Pr.ok, Bool.and_eq_true, decide_eq_true_eq] at ho
    obtain ⟨⟨ho, hoa⟩, hob⟩ := ho
    have m1 := Nat.le_max_left a.nest b.nest
    have m2 := Nat.le_max_right a.nest b.nest
    obtain ⟨n', rfl⟩ : ∃ n', n = n' + 1 := ⟨n - 1, by omega⟩
    obtain ⟨q, l1, rfl, h⟩ := h
    change Starts (keys (a.line 0 ++ (1, opPc o) :: (b.line 1 ++ [(0, .sign [41])]))) l1 r at h
    rw [keys_app] at h
    obtain ⟨m, h1, q2, l2, rfl, h⟩ := starts_app h
    change Starts (keys (b.line 1 ++ [(0, .sign [41])])) l2 r at h
    rw [keys_app, keys_gap 1 0] at h
    obtain ⟨m, h2, q3, l3, rfl, rfl⟩ := starts_app h
    refine paren_ok (by omega) rfl ?_ (q2 := q3)
    rw [lev_not]
    have hdot : is [46] ((opPc o).tok q2 :: l2) = false := by
      rw [is_mark]
      rcases (by omega : o = 0 ∨ o = 1 ∨ o = 2 ∨ o = 3 ∨ o = 4 ∨ o = 5 ∨ o = 6 ∨ o = 7 ∨ o = 8 ∨ o = 9 ∨ o = 10) with rfl | rfl | rfl | rfl | rfl | rfl | rfl | rfl | rfl | rfl | rfl <;> rfl
    exact expr_two ho (starts_not h1) (unary_ok a (n' + 1) (d + 1) l1 _ hoa (by omega) (by omega) h1 hdot) (starts_not h2) (unary_ok b (n' + 1) (d + 1) l2 _ hob (by omega) (by omega) h2 (free_close q3 l3).dot)
/-- a shown expression, in any place -/
theorem expr_ok (p : Pr) (n : Nat) (d : Int) (g : Nat) (l r : List Tok) (ho : p.ok = true) (hn : p.nest < n) (hd : d + p.nest ≤ 64) (h : Starts (keys (p.line g)) l r) (hr : Free r) : expr n d l = .ok (p.ex, r) := by
  rw [keys_gap g 0] at h
  obtain ⟨n', rfl⟩ : ∃ n', n = n' + 1 := ⟨n - 1, by omega⟩
  unfold expr
  rw [lev_not]
  exact expr_one (starts_not h) (unary_ok p (n' + 1) d l r ho (by omega) hd h hr.dot) hr
end CM
end Go.Proofs.YtmdnhinpaflamaaDoor
namespace Go.Proofs.YtmdnhinpaflamaaDoor
open Go.RowKit
namespace CM
open LexM (Tok)
open PM (B Ex Col It St PS zeroTok wordy two un colEx opOr opAnd opSum opTerm opComp)
open Pc (Pc Line okName okText)

/-- a column that is told: its table, or none; its name -/
structure Cl where
  table : B
  name : B
def Cl.ok (c : Cl) : Bool := (c.table.isEmpty || okName c.table) && okName c.name
def Cl.ex (c : Cl) : Ex := colEx c.table c.name
def Cl.line (g : Nat) (c : Cl) : Line := if c.table.isEmpty then [(g, .name c.name)] else [(g, .name c.table), (0, .sign [46]), (0, .name c.name)]
/-- what is selected -/
inductive Im where
  | col (c : Cl)
  | count
  | agg (k : Nat) (c : Cl)
def Im.ok : Im → Bool
  | .col c => c.ok
  | .count => true
  | .agg k c => decide (k < 3) && c.ok
def Im.it : Im → It
  | .col c => ⟨0, c.table, c.name⟩
  | .count => ⟨1, [], []⟩
  | .agg k c => ⟨2 + k, c.table, c.name⟩
def aggW (k : Nat) : B := match k with | 0 => [115, 117, 109] | 1 => [109, 105, 110] | _ => [109, 97, 120]
def Im.line (g : Nat) : Im → Line
  | .col c => c.line g
  | .count => [(g, .word [99, 111, 117, 110, 116]), (0, .sign [40]), (0, .sign [42]), (0, .sign [41])]
  | .agg k c => (g, .word (aggW k)) :: (0, .sign [40]) :: (c.line 0 ++ [(0, .sign [41])])
/-- a table's column -/
structure Co where
  name : B
  text : Bool
  ref : B
def Co.ok (c : Co) : Bool := okName c.name && (c.ref.isEmpty || okName c.ref)
def Co.col (c : Co) : Col := ⟨c.name, if c.text then 2 else 1, c.ref⟩
def Co.line (g : Nat) (c : Co) : Line := (g, .name c.name) :: (1, .word (if c.text then [116, 101, 120, 116] else [105, 110, 116])) :: (if c.ref.isEmpty then [] else [(1, .word [114, 101, 102]), (1, .name c.ref)])
/-- more behind commas -/
def lines {α : Type} (f : Nat → α → Line) : List α → Line
  | [] => []
  | x :: r => (0, .sign [44]) :: (f 1 x ++ lines f r)
def Tg (g : Nat) (t : Nat) : Line := [(g, .num t)]
structure Sel where
  items : List Im
  table : B
  join : Option (B × Cl × Cl)
  wher : Option Pr
  order : Option (Cl × Bool)
def okPr (D : Nat) (p : Pr) : Bool := p.ok && decide (p.nest ≤ D)
def joinN (o : Option (B × Cl × Cl)) : B := match o with | none => [] | some (j, _, _) => j
def joinE (o : Option (B × Cl × Cl)) : List Ex := match o with | none => [] | some (_, a, b) => [a.ex, b.ex]
def orderE (o : Option (Cl × Bool)) : List Ex := match o with | none => [] | some (c, _) => [c.ex]
def orderD (o : Option (Cl × Bool)) : Bool := match o with | none => false | some (_, d) => d
def whE (o : Option Pr) : List Ex := match o with | none => [] | some p => [p.ex]
def okW (D : Nat) (o : Option Pr) : Bool := match o with | none => true | some p => okPr D p
def okJ (o : Option (B × Cl × Cl)) : Bool := match o with | none => true | some (j, a, b) => okName j && a.ok && b.ok
def okO (o : Option (Cl × Bool)) : Bool := match o with | none => true | some (c, _) => c.ok
def Sel.ok (D : Nat) (s : Sel) : Bool := s.items.all Im.ok && okName s.table && okJ s.join && okW D s.wher && okO s.order
def Sel.st (s : Sel) : St := .mk 6 s.table [] [] [] [] (s.items.map Im.it) (joinN s.join) (joinE s.join) (whE s.wher) (orderE s.order) (orderD s.order) []
def itemsL : List Im → Line
  | [] => [(1, .sign [42])]
  | x :: r => x.line 1 ++ lines Im.line r
def whereL : Option Pr → Line
  | none => []
  | some p => (1, .word [119, 104, 101, 114, 101]) :: p.line 1
def joinL : Option (B × Cl × Cl) → Line
  | none => []
  | some (j, a, b) => (1, .word [106, 111, 105, 110]) :: (1, .name j) :: (1, .word [111, 110]) :: (a.line 1 ++ (1, .sign [61]) :: b.line 1)
def orderL : Option (Cl × Bool) → Line
  | none => []
  | some (c, d) => (1, .word [111, 114, 100, 101, 114]) :: (1, .word [98, 121]) :: (c.line 1 ++ if d then [(1, .word [100, 101, 115, 99])] else [])
def Sel.line (g : Nat) (s : Sel) : Line := (g, .word [115, 101, 108, 101, 99, 116]) :: (itemsL s.items ++ (1, .word [102, 114, 111, 109]) :: (1, .name s.table) :: (joinL s.join ++ (whereL s.wher ++ orderL s.order)))
inductive Wr where
  | insert (t : B) (x : Pr) (r : List Pr)
  | update (t m : B) (x : Pr) (wh : Option Pr)
  | delete (t : B) (wh : Option Pr)
def Wr.ok (D : Nat) : Wr → Bool
  | .insert t x r => okName t && okPr D x && r.all (okPr D)
  | .update t m x wh => okName t && okName m && okPr D x && okW D wh
  | .delete t wh => okName t && okW D wh
def Wr.st : Wr → St
  | .insert t x r => .mk 5 t [] [] [] ((x :: r).map Pr.ex) [] [] [] [] [] false []
  | .update t m x wh => .mk 7 t m [] [] [x.ex] [] [] [] (whE wh) [] false []
  | .delete t wh => .mk 8 t [] [] [] [] [] [] [] (whE wh) [] false []
def Wr.line (g : Nat) : Wr → Line
  | .insert t x r => (g, .word [105, 110, 115, 101, 114, 116]) :: (1, .word [105, 110, 116, 111]) :: (1, .name t) :: (1, .word [118, 97, 108, 117, 101, 115]) :: (0, .sign [40]) :: (x.line 0 ++ (lines (fun g p => p.line g) r ++ [(0, .sign [41])]))
  | .update t m x wh => (g, .word [117, 112, 100, 97, 116, 101]) :: (1, .name t) :: (1, .word [115, 101, 116]) :: (1, .name m) :: (1, .sign [61]) :: (x.line 1 ++ whereL wh)
  | .delete t wh => (g, .word [100, 101, 108, 101, 116, 101]) :: (1, .word [102, 114, 111, 109]) :: (1, .name t) :: whereL wh
/-- a statement that is shown -/
inductive Qs where
  | table (m : B) (c : Co) (r : List Co)
  | index (t m : B)
  | view (m : B) (tags : List Nat) (s : Sel)
  | closure (m : B) (tags : List Nat) (s : Wr)
  | select (s : Sel)
  | write (s : Wr)
  | plain (k : Nat)
  | raise (t : Nat) (r : List Nat)
  | call (m : B)
def okTag (t : Nat) : Bool := decide (t ≤ 65535)
def Qs.ok (D : Nat) : Qs → Bool
  | .table m c r => okName m && c.ok && r.all Co.ok
  | .index t m => okName t && okName m
  | .view m tags s => okName m && tags.all okTag && s.ok D
  | .closure m tags s => okName m && tags.all okTag && s.ok D
  | .select s => s.ok D
  | .write s => s.ok D
  | .plain k => decide (k < 3)
  | .raise t r => okTag t && r.all okTag
  | .call m => okName m
def tagI (t : Nat) : Int := t
def Qs.st : Qs → St
  | .table m c r => .mk 1 [] m ((c :: r).map Co.col) [] [] [] [] [] [] [] false []
  | .index t m => .mk 2 t m [] [] [] [] [] [] [] [] false []
  | .view m tags s => doorSt 3 m (tags.map tagI) s.st
  | .closure m tags s => doorSt 4 m (tags.map tagI) s.st
  | .select s => s.st
  | .write s => s.st
  | .plain k => .ofKind (9 + k)
  | .raise t r => .mk 12 [] [] [] ((t :: r).map tagI) [] [] [] [] [] [] false []
  | .call m => .mk 13 [] m [] [] [] [] [] [] [] [] false []
def tagsL : List Nat → Line
  | [] => []
  | t :: r => Tg 1 t ++ lines Tg r
def doorL (w : B) (m : B) (tags : List Nat) (inner : Line) : Line := (0, .word [99, 114, 101, 97, 116, 101]) :: (1, .word w) :: (1, .name m) :: (1, .word [115, 116, 114, 105, 112]) :: (tagsL tags ++ (1, .word [97, 115]) :: inner)
def plainW (k : Nat) : B := match k with | 0 => [98, 101, 103, 105, 110] | 1 => [99, 111, 109, 109, 105, 116] | _ => [114, 111, 108, 108, 98, 97, 99, 107]
def Qs.line : Qs → Line
  | .table m c r => (0, .word [99, 114, 101, 97, 116, 101]) :: (1, .word [116, 97, 98, 108, 101]) :: (1, .name m) :: (0, .sign [40]) :: (c.line 0 ++ (lines Co.line r ++ [(0, .sign [41])]))
  | .index t m => [(0, .word [99, 114, 101, 97, 116, 101]), (1, .word [105, 110, 100, 101, 120]), (1, .word [111, 110]), (1, .name t), (0, .sign [40]), (0, .name m), (0, .sign [41])]
  | .view m tags s => doorL [118, 105, 101, 119] m tags (s.line 1)
  | .closure m tags s => doorL [99, 108, 111, 115, 117, 114, 101] m tags (s.line 1)
  | .select s => s.line 0
  | .write s => s.line 0
  | .plain k => [(0, .word (plainW k))]
  | .raise t r => (0, .word [114, 97, 105, 115, 101]) :: (Tg 1 t ++ lines Tg r)
  | .call m => [(0, .word [99, 97, 108, 108]), (1, .name m)]

/-! ### the readers at what is shown -/
theorem nil_of {t : B} (h : t.isEmpty = true) : t = [] := by cases t with | nil => rfl | cons => cases h
theorem cl_ok {c : Cl} {g : Nat} {l r : List Tok} (h : Starts (keys (c.line g)) l r) (hr : is [46] r = false) : column l = .ok (c.ex, r) := by
  unfold Cl.line at h
  split at h
  · rename_i he
    obtain ⟨q, l1, rfl, rfl⟩ := h
    rw [column_one hr]
    unfold Cl.ex
    rw [nil_of he]
  · exact column_two h
theorem cl_first {c : Cl} {g : Nat} {l r : List Tok} (h : Starts (keys (c.line g)) l r) : ∃ n q m, l = (Pc.name n).tok q :: m := by
  unfold Cl.line at h
  split at h
  · obtain ⟨q, l1, rfl, _⟩ := h; exact ⟨_, q, l1, rfl⟩
  · obtain ⟨q, l1, rfl, _⟩ := h; exact ⟨_, q, l1, rfl⟩
theorem starts_len : ∀ {cs : List Pc} {l r : List Tok}, Starts cs l r → l.length = cs.length + r.length
  | [], l, r, h => by obtain rfl : l = r := h; simp
  | c :: cs, l, r, h => by
    obtain ⟨q, l', rfl, h⟩ := h
    have := starts_len h
    simp only [List.length_cons]
    omega
/-- more behind commas -/
theorem more_ok {α β : Type} (one : P β) (f : Nat → α → Line) (v : α → β) (Q : List Tok → Prop) (hQ : ∀ q l, Q ((Pc.sign [44]).tok q :: l)) (hg : ∀ g h x, keys (f g x) = keys (f h x)) (N : Nat) {r : List Tok} (hr : Q r) (hc : is [44] r = false) :
    ∀ (xs : List α) (n : Nat) (acc : List β) (l : List Tok), (∀ x ∈ xs, ∀ l m, l.length ≤ N → Starts (keys (f 1 x)) l m → Q m → one l = .ok (v x, m)) → xs.length ≤ n → l.length ≤ N → Starts (keys (lines f xs)) l r → more one n acc l = .ok (acc ++ xs.map v, r)
  | [], n, acc, l, _, _, _, h => by
    obtain rfl : l = r := h
    rw [List.map_nil, List.append_nil]
    cases n with
    | zero => rfl
    | succ n => exact opt_no hc
  | x :: xs, 0, acc, l, _, hn, _, _ => absurd hn (by simp)
  | x :: xs, n + 1, acc, l, h1, hn, hN, h => by
    obtain ⟨q, l1, rfl, h⟩ := h
    change Starts (keys (f 1 x ++ lines f xs)) l1 r at h
    rw [keys_app] at h
    obtain ⟨m, h2, h3⟩ := starts_app h
    have hm : Q m := by
      cases xs with
      | nil => obtain rfl : m = r := h3; exact hr
      | cons y ys => obtain ⟨q2, l2, rfl, _⟩ := h3; exact hQ q2 l2
    have hl2 := starts_len h2
    simp only [List.length_cons] at hN
    unfold more
    rw [opt_yes (by rw [is_mark]; rfl)]
    show bnd one _ l1 = _
    rw [bnd_ok (h1 x (by simp) l1 m (by omega) h2 hm), more_ok one f v Q hQ hg N hr hc xs n (acc ++ [v x]) m (fun y hy => h1 y (by simp [hy])) (by simpa using hn) (by omega) h3]
    simp
theorem lines_len {α : Type} {f : Nat → α → Line} : ∀ {xs : List α} {l r : List Tok}, Starts (keys (lines f xs)) l r → xs.length ≤ l.length
  | [], _, _, _ => Nat.zero_le _
  | x :: xs, _, r, h => by
    obtain ⟨q, l1, rfl, h⟩ := h
    change Starts (keys (f 1 x ++ lines f xs)) l1 r at h
    rw [keys_app] at h
    obtain ⟨m, h2, h3⟩ := starts_app h
    have h4 := lines_len h3
    have := starts_len h2
    simp only [List.length_cons]
    omega
theorem list_ok {α β : Type} (one : P β) (f : Nat → α → Line) (v : α → β) (Q : List Tok → Prop) (hQ : ∀ q l, Q ((Pc.sign [44]).tok q :: l)) (hg : ∀ g h x, keys (f g x) = keys (f h x)) {r : List Tok} (hr : Q r) (hc : is [44] r = false) (g : Nat) (x : α) (xs : List α) (l : List Tok)
    (h1 : ∀ y ∈ x :: xs, ∀ l' m, l'.length ≤ l.length → Starts (keys (f 1 y)) l' m → Q m → one l' = .ok (v y, m)) (h : Starts (keys (f g x ++ lines f xs)) l r) : list one l = .ok ((x :: xs).map v, r) := by
  rw [keys_app] at h
  obtain ⟨m, h2, h3⟩ := starts_app h
  have hm : Q m := by
    cases xs with
    | nil => obtain rfl : m = r := h3; exact hr
    | cons y ys => obtain ⟨q2, l2, rfl, _⟩ := h3; exact hQ q2 l2
  have hl2 := starts_len h2
  unfold list
  rw [hg g 1] at h2
  rw [bnd_ok (h1 x (by simp) l m (Nat.le_refl _) h2 hm)]
  exact more_ok one f v Q hQ hg l.length hr hc xs m.length [v x] m (fun y hy => h1 y (by simp [hy])) (lines_len h3) (by omega) h3
theorem needs_cons {c : Pc} {w : B} (h : mark c = some w) (r : List B) (q : Nat) (l : List Tok) : needs (w :: r) (c.tok q :: l) = needs r l := by
  show bnd (need w) _ _ = _
  rw [bnd_ok (need_ok h q l)]
theorem cl_gap (g h : Nat) (c : Cl) : keys (c.line g) = keys (c.line h) := by
  unfold Cl.line; split <;> rfl
theorem im_gap (g h : Nat) (x : Im) : keys (x.line g) = keys (x.line h) := by
  cases x with
  | col c => exact cl_gap g h c
  | count => rfl
  | agg k c => rfl
theorem co_gap (g h : Nat) (c : Co) : keys (c.line g) = keys (c.line h) := rfl
theorem im_ok {x : Im} {g : Nat} {l r : List Tok} (ho : x.ok = true) (h : Starts (keys (x.line g)) l r) (hr : is [46] r = false) : item l = .ok (x.it, r) := by
  cases x with
  | col c =>
    obtain ⟨n, q, m, rfl⟩ := cl_first h
    unfold item
    rw [opt_no (by rw [is_mark]; rfl)]
    simp only [sign_mark]
    rw [if_pos (show agg ((mark (Pc.name n)).getD []) = 0 from rfl), bnd_ok (cl_ok h hr)]
    rfl
  | count =>
    obtain ⟨q, l1, rfl, q2, l2, rfl, q3, l3, rfl, q4, l4, rfl, rfl⟩ := h
    unfold item
    rw [opt_yes (by rw [is_mark]; rfl)]
    show bnd (needs _) _ _ = _
    rw [bnd_ok (a := ()) (m := l4) (by rw [List.tail_cons, needs_cons rfl, needs_cons rfl, needs_cons rfl]; rfl)]
    rfl
  | agg k c =>
    simp only [Im.ok, Bool.and_eq_true, decide_eq_true_eq] at ho
    obtain ⟨q, l1, rfl, q2, l2, rfl, h⟩ := h
    change Starts (keys (c.line 0 ++ [(0, .sign [41])])) l2 r at h
    rw [keys_app] at h
    obtain ⟨m, h1, q3, l3, rfl, rfl⟩ := starts_app h
    unfold item
    rw [opt_no (by rw [is_mark]; rcases (by omega : k = 0 ∨ k = 1 ∨ k = 2) with rfl | rfl | rfl <;> rfl)]
    simp only [sign_mark]
    have ha : agg ((mark (Pc.word (aggW k))).getD []) = 2 + k := by
      rcases (by omega : k = 0 ∨ k = 1 ∨ k = 2) with rfl | rfl | rfl <;> rfl
    rw [ha, if_neg (by omega), List.tail_cons, bnd_ok (needs_one rfl q2 l2), bnd_ok (cl_ok h1 (free_close q3 l3).dot), bnd_ok (needs_one rfl q3 l3)]
    rfl
theorem co_ok {c : Co} {g : Nat} {l r : List Tok} (h : Starts (keys (c.line g)) l r) (hr : is [114, 101, 102] r = false) : col l = .ok (c.col, r) := by
  obtain ⟨q, l1, rfl, q2, l2, rfl, h⟩ := h
  unfold col
  rw [bnd_ok (name_ok _ q _)]
  have hk : colKind ((Pc.word (if c.text then [116, 101, 120, 116] else [105, 110, 116])).tok q2 :: l2) = .ok ((if c.text then 2 else 1), l2) := by
    unfold colKind
    cases c.text with
    | true => rw [opt_no (by rw [is_mark]; rfl), opt_yes (by rw [is_mark]; rfl)]; rfl
    | false => rw [opt_yes (by rw [is_mark]; rfl)]; rfl
  rw [bnd_ok hk]
  obtain ⟨cn, ct, cr⟩ := c
  cases cr with
  | nil =>
    obtain rfl : l2 = r := h
    rw [opt_no hr]
    rfl
  | cons a s =>
    obtain ⟨q3, l3, rfl, q4, l4, rfl, rfl⟩ := h
    rw [opt_yes (by rw [is_mark]; rfl)]
    rfl
theorem tag_ok {t g : Nat} {l r : List Tok} (ht : okTag t = true) (h : Starts (keys (Tg g t)) l r) : tag l = .ok (tagI t, r) := by
  obtain ⟨q, l1, rfl, rfl⟩ := h
  have ht : t ≤ 65535 := of_decide_eq_true ht
  unfold tag
  rw [if_neg (by show ¬ ((3 : Int) = 3 ∧ 65535 < (t : Int)); omega)]
  show Except.ok ((t : Int) % 65536, l1) = _
  rw [Int.emod_eq_of_lt (by omega) (by omega)]
  rfl
/-- what stands behind a statement: no word, or a bracket -/
structure End (r : List Tok) : Prop where
  isn : ∀ w : B, w ≠ [41] → CM.is w r = false
  free : Free r
  num : (now r).kind ≠ 3
theorem End.is {r : List Tok} (h : End r) (w : B) (hw : w ≠ [41] := by decide) : CM.is w r = false := h.isn w hw
theorem free_word {w : B} (h : (w == [97, 110, 100]) = false) (h2 : (w == [111, 114]) = false) (h3 : LexM.words.contains w = true) (q : Nat) (l : List Tok) : Free ((Pc.word w).tok q :: l) := by
  have hm : w ∈ LexM.words := by simpa using h3
  have key : (LexM.words.all fun w => (w == [97, 110, 100]) || (w == [111, 114]) || (!(w == [46]) && (opTerm w).isNone && (opSum w).isNone && (opComp w).isNone && (opAnd w).isNone && (opOr w).isNone)) = true := by decide
  have := List.all_eq_true.1 key w hm
  simp only [h, h2, Bool.false_or, Bool.and_eq_true, Bool.not_eq_true', Option.isNone_iff_eq_none] at this
  exact free_mark rfl this.1.1.1.1.1 this.1.1.1.1.2 this.1.1.1.2 this.1.1.2 this.1.2 this.2
end CM
end Go.Proofs.YtmdnhinpaflamaaDoor
namespace Go.Proofs.YtmdnhinpaflamaaDoor
open Go.RowKit
namespace CM
open LexM (Tok)
open PM (B Ex Col It St PS zeroTok wordy two un colEx opOr opAnd opSum opTerm opComp)
open Pc (Pc Line okName okText)

variable {D : Nat}
theorem nest_len : ∀ (p : Pr) (g : Nat), p.nest < (keys (p.line g)).length
  | .int _, _ => by simp [Pr.nest, Pr.line, keys]
  | .text _, _ => by simp [Pr.nest, Pr.line, keys]
  | .col _, _ => by simp [Pr.nest, Pr.line, keys]
  | .tcol _ _, _ => by simp [Pr.nest, Pr.line, keys]
  | .neg a, g => by have := nest_len a 0; simp [Pr.nest, Pr.line, keys] at this ⊢; omega
  | .not a, g => by have := nest_len a 1; simp [Pr.nest, Pr.line, keys] at this ⊢; omega
  | .bin o a b, g => by
    have h1 := nest_len a 0
    have h2 := nest_len b 1
    simp only [Pr.nest, Pr.line, keys, List.map_append, List.map_cons, List.length_append, List.length_cons, List.length_map, List.map_nil, List.length_nil] at h1 h2 ⊢
    omega
theorem expr_at {p : Pr} {n g : Nat} {l r : List Tok} (ho : okPr D p = true) (hl : l.length ≤ n) (h : Starts (keys (p.line g)) l r) (hr : Free r) : expr n (64 - (D : Int)) l = .ok (p.ex, r) := by
  simp only [okPr, Bool.and_eq_true, decide_eq_true_eq] at ho
  have h1 := nest_len p g
  have h2 := starts_len h
  exact expr_ok p n (64 - (D : Int)) g l r ho.1 (by omega) (by omega) h hr
theorem where_ok {o : Option Pr} {n : Nat} {l r : List Tok} (ho : okW D o = true) (hl : l.length ≤ n) (h : Starts (keys (whereL o)) l r) (hr : Free r) (hw : is [119, 104, 101, 114, 101] r = false) : wheres n (64 - (D : Int)) l = .ok (whE o, r) := by
  unfold wheres
  cases o with
  | none =>
    obtain rfl : l = r := h
    rw [opt_no hw]
    rfl
  | some p =>
    obtain ⟨q, l1, rfl, h⟩ := h
    rw [opt_yes (by rw [is_mark]; rfl), List.tail_cons, bnd_ok (expr_at ho (by simp only [List.length_cons] at hl; omega) h hr)]
    rfl
theorem join_ok {o : Option (B × Cl × Cl)} {l r : List Tok} (h : Starts (keys (joinL o)) l r) (hr : is [46] r = false) (hw : is [106, 111, 105, 110] r = false) : joins l = .ok ((joinN o, joinE o), r) := by
  unfold joins
  cases o with
  | none =>
    obtain rfl : l = r := h
    rw [opt_no hw]
    rfl
  | some x =>
    obtain ⟨j, a, b⟩ := x
    obtain ⟨q, l1, rfl, q2, l2, rfl, q3, l3, rfl, h⟩ := h
    change Starts (keys (a.line 1 ++ (1, .sign [61]) :: b.line 1)) l3 r at h
    rw [keys_app] at h
    obtain ⟨m, h1, q4, l4, rfl, h2⟩ := starts_app h
    rw [opt_yes (by rw [is_mark]; rfl), List.tail_cons, bnd_ok (name_ok j q2 _), bnd_ok (needs_one rfl q3 l3), bnd_ok (cl_ok h1 (by rw [is_mark]; rfl)), bnd_ok (needs_one rfl q4 l4), bnd_ok (cl_ok h2 hr)]
    rfl
theorem order_ok {o : Option (Cl × Bool)} {l r : List Tok} (h : Starts (keys (orderL o)) l r) (hr : End r) : orders l = .ok ((orderE o, orderD o), r) := by
  unfold orders
  cases o with
  | none =>
    obtain rfl : l = r := h
    rw [opt_no (hr.is _)]
    rfl
  | some x =>
    obtain ⟨c, d⟩ := x
    obtain ⟨q, l1, rfl, q2, l2, rfl, h⟩ := h
    change Starts (keys (c.line 1 ++ if d then [(1, .word [100, 101, 115, 99])] else [])) l2 r at h
    rw [keys_app] at h
    obtain ⟨m, h1, h2⟩ := starts_app h
    have hm : is [46] m = false := by
      cases d with
      | true => obtain ⟨q3, l3, rfl, _⟩ := h2; rw [is_mark]; rfl
      | false => obtain rfl : m = r := h2; exact hr.is _
    have hd : desc m = .ok (d, r) := by
      unfold desc
      cases d with
      | true => obtain ⟨q3, l3, rfl, rfl⟩ := h2; rw [opt_yes (by rw [is_mark]; rfl)]; rfl
      | false => obtain rfl : m = r := h2; rw [opt_no (hr.is _)]; rfl
    rw [opt_yes (by rw [is_mark]; rfl), List.tail_cons, bnd_ok (needs_one rfl q2 l2), bnd_ok (cl_ok h1 hm), bnd_ok hd]
    rfl
/-- a word of these alone may stand next -/
def Next (ws : List B) (r : List Tok) : Prop := End r ∨ ∃ w q l, w ∈ ws ∧ r = (Pc.word w).tok q :: l
theorem Next.is {ws : List B} {r : List Tok} (h : Next ws r) {v : B} (hv : ws.contains v = false) (hv2 : v ≠ [41] := by decide) : CM.is v r = false := by
  rcases h with h | ⟨w, q, l, hw, rfl⟩
  · exact h.is v hv2
  · rw [is_mark]
    show (w == v) = false
    rw [beq_eq_false_iff_ne]
    rintro rfl
    have : ws.contains w = true := by simpa using hw
    rw [this] at hv
    cases hv
theorem Next.free {ws : List B} {r : List Tok} (h : Next ws r) (hw : (ws.all fun w => !(w == [97, 110, 100]) && !(w == [111, 114]) && LexM.words.contains w) = true) : Free r := by
  rcases h with h | ⟨w, q, l, hm, rfl⟩
  · exact h.free
  · have := List.all_eq_true.1 hw w hm
    simp only [Bool.and_eq_true, Bool.not_eq_true'] at this
    exact free_word this.1.1 this.1.2 this.2 q l
theorem order_next {o : Option (Cl × Bool)} {l r : List Tok} (h : Starts (keys (orderL o)) l r) (hr : End r) : Next [[111, 114, 100, 101, 114]] l := by
  cases o with
  | none => obtain rfl : l = r := h; exact .inl hr
  | some x => obtain ⟨q, l1, rfl, _⟩ := h; exact .inr ⟨_, q, l1, by simp, rfl⟩
theorem where_next {o : Option Pr} {l r : List Tok} (h : Starts (keys (whereL o)) l r) {ws : List B} (hr : Next ws r) : Next ([119, 104, 101, 114, 101] :: ws) l := by
  cases o with
  | none =>
    obtain rfl : l = r := h
    rcases hr with hr | ⟨w, q, l, hw, rfl⟩
    · exact .inl hr
    · exact .inr ⟨w, q, l, by simp [hw], rfl⟩
  | some x => obtain ⟨q, l1, rfl, _⟩ := h; exact .inr ⟨_, q, l1, by simp, rfl⟩
theorem join_next {o : Option (B × Cl × Cl)} {l r : List Tok} (h : Starts (keys (joinL o)) l r) {ws : List B} (hr : Next ws r) : Next ([106, 111, 105, 110] :: ws) l := by
  cases o with
  | none =>
    obtain rfl : l = r := h
    rcases hr with hr | ⟨w, q, l, hw, rfl⟩
    · exact .inl hr
    · exact .inr ⟨w, q, l, by simp [hw], rfl⟩
  | some x => obtain ⟨j, a, b⟩ := x; obtain ⟨q, l1, rfl, _⟩ := h; exact .inr ⟨_, q, l1, by simp, rfl⟩
theorem items_ok {xs : List Im} {l m : List Tok} {q : Nat} (ho : xs.all Im.ok = true) (h : Starts (keys (itemsL xs)) l ((Pc.word [102, 114, 111, 109]).tok q :: m)) : items l = .ok (xs.map Im.it, (Pc.word [102, 114, 111, 109]).tok q :: m) := by
  unfold items
  cases xs with
  | nil =>
    obtain ⟨q, l1, rfl, rfl⟩ := h
    rw [opt_yes (by rw [is_mark]; rfl)]
    rfl
  | cons x r =>
    have hf : is [42] l = false := by
      cases x with
      | col c =>
        obtain ⟨m', h1, _⟩ := starts_app (show Starts (keys (c.line 1) ++ keys (lines Im.line r)) _ _ by rw [← keys_app]; exact h)
        obtain ⟨n, q, m, rfl⟩ := cl_first h1
        rw [is_mark]; rfl
      | count => obtain ⟨q, l1, rfl, _⟩ := h; rw [is_mark]; rfl
      | agg k c =>
        obtain ⟨q, l1, rfl, _⟩ := h
        rw [is_mark]
        show (aggW k == [42]) = false
        unfold aggW
        split <;> rfl
    rw [opt_no hf]
    refine list_ok item Im.line Im.it (fun l => is [46] l = false) (fun q l => by rw [is_mark]; rfl) im_gap (by rw [is_mark]; rfl) (by rw [is_mark]; rfl) 1 x r l (fun y hy l m _ h1 hm => ?_) h
    exact im_ok (List.all_eq_true.1 ho y hy) h1 hm
theorem sel_ok {s : Sel} {n : Nat} {g q : Nat} {l r : List Tok} (ho : s.ok D = true) (hl : l.length ≤ n) (h : Starts (keys (s.line g)) ((Pc.word [115, 101, 108, 101, 99, 116]).tok q :: l) r) (hr : End r) : selects n (64 - (D : Int)) l = .ok (s.st, r) := by
  simp only [Sel.ok, Bool.and_eq_true] at ho
  obtain ⟨⟨⟨⟨o1, o2⟩, o3⟩, o4⟩, o5⟩ := ho
  obtain ⟨q0, l0, e0, h⟩ := h
  obtain ⟨-, rfl⟩ := List.cons.inj e0
  change Starts (keys (itemsL s.items ++ (1, .word [102, 114, 111, 109]) :: (1, .name s.table) :: (joinL s.join ++ (whereL s.wher ++ orderL s.order)))) l r at h
  rw [keys_app] at h
  obtain ⟨m, h1, q2, l2, rfl, q3, l3, rfl, h⟩ := starts_app h
  change Starts (keys (joinL s.join ++ (whereL s.wher ++ orderL s.order))) l3 r at h
  rw [keys_app, keys_app] at h
  obtain ⟨m4, h4, h⟩ := starts_app h
  obtain ⟨m5, h5, h6⟩ := starts_app h
  have n5 := order_next h6 hr
  have n4 := where_next h5 n5
  have l1 := starts_len h1
  have l4 := starts_len h4
  simp only [List.length_cons] at l1
  unfold selects
  rw [bnd_ok (items_ok o1 h1), bnd_ok (needs_one rfl q2 _), bnd_ok (name_ok _ q3 l3), bnd_ok (join_ok h4 (n4.is rfl) (n4.is rfl)), bnd_ok (where_ok o4 (by omega) h5 (n5.free (by decide)) (n5.is rfl)), bnd_ok (order_ok h6 hr)]
  rfl
theorem writes_ok {s : Wr} {n : Nat} {g : Nat} {l r : List Tok} (ho : s.ok D = true) (hl : l.length ≤ n) (h : Starts (keys (s.line g)) l r) (hr : End r) (els : P St) : writes n (64 - (D : Int)) els l = .ok (s.st, r) := by
  unfold writes
  cases s with
  | insert t x xs =>
    simp only [Wr.ok, Bool.and_eq_true] at ho
    obtain ⟨q, l1, rfl, q2, l2, rfl, q3, l3, rfl, q4, l4, rfl, q5, l5, rfl, h⟩ := h
    change Starts (keys (x.line 0 ++ (lines (fun g p => p.line g) xs ++ [(0, .sign [41])]))) l5 r at h
    rw [← List.append_assoc, keys_app] at h
    obtain ⟨m, h1, q6, l6, rfl, rfl⟩ := starts_app h
    simp only [List.length_cons] at hl
    have hlist : list (expr n (64 - (D : Int))) l5 = .ok ((x :: xs).map Pr.ex, (Pc.sign [41]).tok q6 :: l6) := by
      refine list_ok (expr n (64 - (D : Int))) (fun g p => p.line g) Pr.ex Free free_comma (fun g h p => keys_gap g h p) (free_close _ _) (by rw [is_mark]; rfl) 0 x xs l5 (fun y hy l m hl2 h1 hm => expr_at ?_ (by omega) h1 hm) h1
      rcases List.mem_cons.1 hy with rfl | hy
      · exact ho.1.2
      · exact List.all_eq_true.1 ho.2 y hy
    rw [opt_yes (by rw [is_mark]; rfl), List.tail_cons]
    unfold inserts
    rw [bnd_ok (needs_one rfl q2 _), bnd_ok (name_ok t q3 _), bnd_ok (a := ()) (m := l5) (by rw [needs_cons rfl, needs_cons rfl]; rfl), bnd_ok hlist, bnd_ok (needs_one rfl q6 l6)]
    rfl
  | update t m x wh =>
    simp only [Wr.ok, Bool.and_eq_true] at ho
    obtain ⟨q, l1, rfl, q2, l2, rfl, q3, l3, rfl, q4, l4, rfl, q5, l5, rfl, h⟩ := h
    change Starts (keys (x.line 1 ++ whereL wh)) l5 r at h
    rw [keys_app] at h
    obtain ⟨m5, h1, h2⟩ := starts_app h
    simp only [List.length_cons] at hl
    have hl2 := starts_len h1
    have hn := where_next (ws := []) h2 (.inl hr)
    rw [opt_no (by rw [is_mark]; rfl), opt_yes (by rw [is_mark]; rfl), List.tail_cons]
    unfold updates
    rw [bnd_ok (name_ok t q2 _), bnd_ok (needs_one rfl q3 _), bnd_ok (name_ok m q4 _), bnd_ok (needs_one rfl q5 _), bnd_ok (expr_at ho.1.2 (by omega) h1 (hn.free (by decide))), bnd_ok (where_ok ho.2 (by omega) h2 hr.free (hr.is _))]
    rfl
  | delete t wh =>
    simp only [Wr.ok, Bool.and_eq_true] at ho
    obtain ⟨q, l1, rfl, q2, l2, rfl, q3, l3, rfl, h⟩ := h
    simp only [List.length_cons] at hl
    rw [opt_no (by rw [is_mark]; rfl), opt_no (by rw [is_mark]; rfl), opt_yes (by rw [is_mark]; rfl), List.tail_cons]
    unfold deletes
    rw [bnd_ok (needs_one rfl q2 _), bnd_ok (name_ok t q3 _), bnd_ok (where_ok ho.2 (by omega) h hr.free (hr.is _))]
    rfl
theorem tags_ok {ts : List Nat} {l r : List Tok} (ho : ts.all okTag = true) (h : Starts (keys (tagsL ts)) l r) (hr : (now r).kind ≠ 3) (hc : is [44] r = false) : tags l = .ok (ts.map tagI, r) := by
  unfold tags
  cases ts with
  | nil =>
    obtain rfl : l = r := h
    rw [if_neg hr]
    rfl
  | cons t ts =>
    have hk : (now l).kind = 3 := by obtain ⟨q, l1, rfl, _⟩ := h; rfl
    rw [if_pos hk]
    exact list_ok tag Tg tagI (fun _ => True) (fun _ _ => trivial) (fun _ _ _ => rfl) trivial hc 1 t ts l (fun y hy l m _ h1 _ => tag_ok (List.all_eq_true.1 ho y hy) h1) h
theorem door_ok {kind : Int} {inn : P St} {m : B} {ts : List Nat} {inner : Line} {st : St} {l2 r : List Tok} (ho : ts.all okTag = true)
    (h : Starts (keys ((1, .name m) :: (1, .word [115, 116, 114, 105, 112]) :: (tagsL ts ++ (1, .word [97, 115]) :: inner))) l2 r) (hi : ∀ l3, l3.length ≤ l2.length → Starts (keys inner) l3 r → inn l3 = .ok (st, r)) : door kind inn l2 = .ok (doorSt kind m (ts.map tagI) st, r) := by
  obtain ⟨q3, l3, rfl, q4, l4, rfl, h⟩ := h
  change Starts (keys (tagsL ts ++ (1, .word [97, 115]) :: inner)) l4 r at h
  rw [keys_app] at h
  obtain ⟨m5, h1, q5, l5, rfl, h2⟩ := starts_app h
  have hlen := starts_len h1
  simp only [List.length_cons] at hlen
  unfold door
  rw [bnd_ok (name_ok m q3 _), bnd_ok (needs_one rfl q4 _), bnd_ok (tags_ok ho h1 (by show (2 : Int) ≠ 3; decide) (by rw [is_mark]; rfl)), bnd_ok (needs_one rfl q5 l5), bnd_ok (hi l5 (by simp only [List.length_cons]; omega) h2)]
  rfl
theorem stmt_ok {q : Qs} {n : Nat} {l r : List Tok} (ho : q.ok D = true) (hl : l.length ≤ n) (h : Starts (keys q.line) l r) (hr : End r) : stmt n (64 - (D : Int)) l = .ok (q.st, r) := by
  unfold stmt
  cases q with
  | table m c cs =>
    simp only [Qs.ok, Bool.and_eq_true] at ho
    obtain ⟨q1, l1, rfl, q2, l2, rfl, q3, l3, rfl, q4, l4, rfl, h⟩ := h
    change Starts (keys (c.line 0 ++ (lines Co.line cs ++ [(0, .sign [41])]))) l4 r at h
    rw [← List.append_assoc, keys_app] at h
    obtain ⟨m, h1, q6, l6, rfl, rfl⟩ := starts_app h
    rw [opt_yes (by rw [is_mark]; rfl), List.tail_cons]
    unfold create
    rw [opt_yes (by rw [is_mark]; rfl), List.tail_cons]
    unfold tables
    rw [bnd_ok (name_ok _ q3 _), bnd_ok (needs_one rfl q4 _), bnd_ok (list_ok col Co.line Co.col (fun r => is [114, 101, 102] r = false) (fun q l => by rw [is_mark]; rfl) (fun _ _ _ => rfl) (by rw [is_mark]; rfl) (by rw [is_mark]; rfl) 0 c cs l4 (fun y hy l m _ h1 hm => co_ok h1 hm) h1), bnd_ok (needs_one rfl q6 _)]
    rfl
  | index t m =>
    obtain ⟨q1, l1, rfl, q2, l2, rfl, q3, l3, rfl, q4, l4, rfl, q5, l5, rfl, q6, l6, rfl, q7, l7, rfl, rfl⟩ := h
    rw [opt_yes (by rw [is_mark]; rfl), List.tail_cons]
    unfold create
    rw [opt_no (by rw [is_mark]; rfl), opt_yes (by rw [is_mark]; rfl), List.tail_cons]
    unfold indexes
    rw [bnd_ok (needs_one rfl q3 _), bnd_ok (name_ok _ q4 _), bnd_ok (needs_one rfl q5 _), bnd_ok (name_ok _ q6 _), bnd_ok (needs_one rfl q7 _)]
    rfl
  | view m ts s =>
    simp only [Qs.ok, Bool.and_eq_true] at ho
    obtain ⟨q1, l1, rfl, q2, l2, rfl, h⟩ := h
    rw [opt_yes (by rw [is_mark]; rfl), List.tail_cons]
    unfold create
    rw [opt_no (by rw [is_mark]; rfl), opt_no (by rw [is_mark]; rfl), opt_yes (by rw [is_mark]; rfl), List.tail_cons]
    simp only [List.length_cons] at hl
    refine door_ok ho.1.2 h (fun l3 h3 h4 => ?_)
    obtain ⟨q, l', rfl, h5⟩ := (show ∃ q l', l3 = (Pc.word [115, 101, 108, 101, 99, 116]).tok q :: l' ∧ _ from h4)
    rw [opt_yes (by rw [is_mark]; rfl), List.tail_cons]
    simp only [List.length_cons] at h3
    exact sel_ok ho.2 (by omega) h4 hr
  | closure m ts s =>
    simp only [Qs.ok, Bool.and_eq_true] at ho
    obtain ⟨q1, l1, rfl, q2, l2, rfl, h⟩ := h
    rw [opt_yes (by rw [is_mark]; rfl), List.tail_cons]
    unfold create
    rw [opt_no (by rw [is_mark]; rfl), opt_no (by rw [is_mark]; rfl), opt_no (by rw [is_mark]; rfl), opt_yes (by rw [is_mark]; rfl), List.tail_cons]
    simp only [List.length_cons] at hl
    exact door_ok ho.1.2 h (fun l3 h3 h4 => writes_ok ho.2 (by omega) h4 hr _)
  | select s =>
    have h0 := h
    obtain ⟨q1, l1, rfl, h⟩ := h
    rw [opt_no (by rw [is_mark]; rfl), opt_no (by rw [is_mark]; rfl), opt_yes (by rw [is_mark]; rfl), List.tail_cons]
    simp only [List.length_cons] at hl
    exact sel_ok ho (by omega) h0 hr
  | write s =>
    have hw := writes_ok ho hl h hr rest
    unfold writes at hw
    cases s with
    | insert t x xs =>
      obtain ⟨q1, l1, rfl, _⟩ := h
      rw [opt_yes (by rw [is_mark]; rfl)] at hw
      rw [opt_no (by rw [is_mark]; rfl), opt_yes (by rw [is_mark]; rfl)]
      exact hw
    | update t m x wh =>
      obtain ⟨q1, l1, rfl, _⟩ := h
      rw [opt_no (by rw [is_mark]; rfl)] at hw
      rw [opt_no (by rw [is_mark]; rfl), opt_no (by rw [is_mark]; rfl), opt_no (by rw [is_mark]; rfl)]
      exact hw
    | delete t wh =>
      obtain ⟨q1, l1, rfl, _⟩ := h
      rw [opt_no (by rw [is_mark]; rfl)] at hw
      rw [opt_no (by rw [is_mark]; rfl), opt_no (by rw [is_mark]; rfl), opt_no (by rw [is_mark]; rfl)]
      exact hw
  | plain k =>
    obtain ⟨q1, l1, rfl, rfl⟩ := h
    have ho : k < 3 := of_decide_eq_true ho
    rcases (by omega : k = 0 ∨ k = 1 ∨ k = 2) with rfl | rfl | rfl <;> rfl
  | raise t ts =>
    simp only [Qs.ok, Bool.and_eq_true] at ho
    obtain ⟨q1, l1, rfl, h⟩ := h
    have e : ∀ (a b c d e : P St), opt [99, 114, 101, 97, 116, 101] a (opt [105, 110, 115, 101, 114, 116] b (opt [115, 101, 108, 101, 99, 116] c (opt [117, 112, 100, 97, 116, 101] d (opt [100, 101, 108, 101, 116, 101] e rest)))) ((Pc.word [114, 97, 105, 115, 101]).tok q1 :: l1) = raises l1 := fun _ _ _ _ _ => rfl
    show opt [99, 114, 101, 97, 116, 101] _ _ ((Pc.word [114, 97, 105, 115, 101]).tok q1 :: l1) = _
    rw [e]
    unfold raises
    rw [bnd_ok (list_ok tag Tg tagI (fun _ => True) (fun _ _ => trivial) (fun _ _ _ => rfl) trivial (hr.is _) 1 t ts l1 (fun y hy l m _ h1 _ => tag_ok (by rcases List.mem_cons.1 hy with rfl | hy; exact ho.1; exact List.all_eq_true.1 ho.2 y hy) h1) h)]
    rfl
  | call m =>
    obtain ⟨q1, l1, rfl, q2, l2, rfl, rfl⟩ := h
    rfl
theorem end_of {r : List Tok} (h : wordy (now r) = false) (hn : (now r).kind ≠ 3) : End r := by
  have h1 : ∀ w, CM.is w r = false := fun w => by unfold CM.is; rw [h]; rfl
  have h2 : CM.sign r = [] := by unfold CM.sign; rw [h]; rfl
  exact ⟨fun w _ => h1 w, ⟨h1 _, by rw [h2]; rfl, by rw [h2]; rfl, by rw [h2]; rfl, by rw [h2]; rfl, by rw [h2]; rfl⟩, hn⟩
theorem end_tok (q : Nat) : End [⟨6, [], 0, q⟩] := end_of rfl (by show (6 : Int) ≠ 3; decide)
/-- a bracket too many -/
theorem end_close (q : Nat) (l : List Tok) : End ((Pc.sign [41]).tok q :: l) := ⟨fun w hw => by rw [is_mark]; show ([41] == w) = false; rw [beq_eq_false_iff_ne]; exact fun h => hw h.symm, free_close q l, by show (5 : Int) ≠ 3; decide⟩
end CM
end Go.Proofs.YtmdnhinpaflamaaDoor
namespace Go.Proofs.YtmdnhinpaflamaaDoor
open Go.RowKit
namespace CM
open PM (B)
open Pc (Pc Line okName okText)

/-- the byte behind: of the line, or of what follows (nought: a space, or the end) -/
def firstN : Line → UInt8 → UInt8
  | (0, c) :: _, _ => c.bytes.headD 0
  | (_ + 1, _) :: _, _ => 0
  | [], x => x
def fitsN : Line → UInt8 → Bool
  | [], _ => true
  | (_, c) :: L, x => c.ok && c.stops (firstN L x) && fitsN L x
theorem first_nil : ∀ L : Line, Pc.first L = firstN L 0
  | [] => rfl
  | (0, _) :: _ => rfl
  | (_ + 1, _) :: _ => rfl
theorem fits_nil : ∀ L : Line, Pc.fits L = fitsN L 0
  | [] => rfl
  | (g, c) :: L => by rw [Pc.fits, fitsN, first_nil, fits_nil L]
theorem firstN_app : ∀ (a b : Line) (x : UInt8), firstN (a ++ b) x = firstN a (firstN b x)
  | [], _, _ => rfl
  | (0, _) :: _, _, _ => rfl
  | (_ + 1, _) :: _, _, _ => rfl
theorem fitsN_app : ∀ (a b : Line) (x : UInt8), fitsN (a ++ b) x = (fitsN a (firstN b x) && fitsN b x)
  | [], b, x => (Bool.true_and _).symm
  | (g, c) :: a, b, x => by rw [List.cons_append, fitsN, fitsN, fitsN_app a b x, firstN_app, Bool.and_assoc (c.ok && _)]
/-- a byte behind which every word ends -/
def soft (x : UInt8) : Bool := x == 0 || x == 41 || x == 44
theorem stops_soft (c : Pc) {x : UInt8} (h : soft x = true) : c.stops x = true := by
  simp only [soft, Bool.or_eq_true, beq_iff_eq] at h
  rcases h with (rfl | rfl) | rfl <;> cases c <;> simp [Pc.stops] <;> decide
theorem stops_name (t : B) : Pc.stops 46 (.name t) = true := rfl
theorem stops_name2 (t : B) : Pc.stops 40 (.name t) = true := rfl
theorem stops_word2 (t : B) : Pc.stops 40 (.word t) = true := rfl
theorem first_one (p : Pr) (R : Line) (x : UInt8) : firstN (p.line 1 ++ R) x = 0 := by rw [firstN_app]; cases p <;> rfl
theorem first_one' (p : Pr) (x : UInt8) : firstN (p.line 1) x = 0 := by cases p <;> rfl
theorem op_ok (o : Nat) : (opPc o).ok = true := by unfold opPc; split <;> rfl
theorem soft0 : soft 0 = true := rfl
theorem soft41 : soft 41 = true := rfl
theorem soft44 : soft 44 = true := rfl
theorem close_first (L : Line) (x : UInt8) : firstN ((0, .sign [41]) :: L) x = 41 := rfl
theorem comma_first (L : Line) (x : UInt8) : firstN ((0, .sign [44]) :: L) x = 44 := rfl
theorem gap_first (g : Nat) (c : Pc) (L : Line) (x : UInt8) : firstN ((g + 1, c) :: L) x = 0 := rfl
theorem one_first (c : Pc) (L : Line) (x : UInt8) : firstN ((1, c) :: L) x = 0 := rfl
/-- a word with a space behind, or a bracket or a comma -/
theorem fit_soft {g : Nat} {c : Pc} {L : Line} {x : UInt8} (hc : c.ok = true) (hs : soft (firstN L x) = true) (hL : fitsN L x = true) : fitsN ((g, c) :: L) x = true := by
  rw [fitsN, hc, stops_soft c hs, hL]
  rfl
theorem fit_hard {g : Nat} {c : Pc} {L : Line} {x : UInt8} (hc : c.ok = true) (hs : ∀ y, c.stops y = true) (hL : fitsN L x = true) : fitsN ((g, c) :: L) x = true := by
  rw [fitsN, hc, hs _, hL]
  rfl
theorem fit_app {a b : Line} {x : UInt8} (h1 : fitsN a (firstN b x) = true) (h2 : fitsN b x = true) : fitsN (a ++ b) x = true := by rw [fitsN_app, h1, h2]; rfl
theorem fit_close {x : UInt8} (h : soft x = true) : fitsN [(0, .sign [41])] x = true := fit_soft rfl h rfl
theorem hard_open (y : UInt8) : Pc.stops y (.sign [40]) = true := rfl
theorem hard_minus (y : UInt8) : Pc.stops y (.sign [45]) = true := rfl
theorem hard_dot (y : UInt8) : Pc.stops y (.sign [46]) = true := rfl
theorem hard_comma (y : UInt8) : Pc.stops y (.sign [44]) = true := rfl
theorem pr_fits : ∀ (p : Pr) (g : Nat) (x : UInt8), p.ok = true → soft x = true → fitsN (p.line g) x = true
  | .int v, g, x, h, hx => fit_soft h hx rfl
  | .text t, g, x, h, hx => fit_soft h hx rfl
  | .col n, g, x, h, hx => fit_soft h hx rfl
  | .tcol t n, g, x, h, hx => by
    simp only [Pr.ok, Bool.and_eq_true] at h
    show fitsN ((g, .name t) :: (0, .sign [46]) :: [(0, .name n)]) x = true
    rw [fitsN, show (Pc.name t).ok = true from h.1, show (Pc.name t).stops (firstN ((0, .sign [46]) :: [(0, .name n)]) x) = true from rfl, fit_hard rfl hard_dot (fit_soft (c := .name n) (g := 0) (L := []) h.2 hx rfl)]
    rfl
  | .neg a, g, x, h, hx => fit_hard rfl hard_open (fit_hard rfl hard_minus (fit_app (pr_fits a 0 _ h soft41) (fit_close hx)))
  | .not a, g, x, h, hx => fit_hard rfl hard_open (fit_soft (by decide) (by rw [first_one]; rfl) (fit_app (pr_fits a 1 _ h soft41) (fit_close hx)))
  | .bin o a b, g, x, h, hx => by
    simp only [Pr.ok, Bool.and_eq_true] at h
    exact fit_hard rfl hard_open (fit_app (pr_fits a 0 _ h.1.2 soft0) (fit_soft (op_ok o) (by rw [first_one]; rfl) (fit_app (pr_fits b 1 _ h.2 soft41) (fit_close hx))))
theorem cl_fits {c : Cl} {g : Nat} {x : UInt8} (h : c.ok = true) (hx : soft x = true) : fitsN (c.line g) x = true := by
  simp only [Cl.ok, Bool.and_eq_true, Bool.or_eq_true] at h
  unfold Cl.line
  split
  · exact fit_soft h.2 hx rfl
  · rename_i he
    have ht : okName c.table = true := by rcases h.1 with h1 | h1; exact absurd h1 he; exact h1
    exact pr_fits (.tcol c.table c.name) g x (by simp [Pr.ok, ht, h.2]) hx
theorem cl_first1 (c : Cl) (R : Line) (x : UInt8) : firstN (c.line 1 ++ R) x = 0 := by
  rw [firstN_app]
  unfold Cl.line
  split <;> rfl
theorem fit_open {g : Nat} {c : Pc} {L : Line} {x : UInt8} (hc : c.ok = true) (hs : c.stops 40 = true) (hL : fitsN ((0, .sign [40]) :: L) x = true) : fitsN ((g, c) :: (0, .sign [40]) :: L) x = true := by
  rw [fitsN, hc, show c.stops (firstN ((0, .sign [40]) :: L) x) = true from hs, hL]
  rfl
theorem hard_star (y : UInt8) : Pc.stops y (.sign [42]) = true := rfl
theorem im_fits {c : Im} {g : Nat} {x : UInt8} (h : c.ok = true) (hx : soft x = true) : fitsN (c.line g) x = true := by
  cases c with
  | col c => exact cl_fits h hx
  | count => exact fit_open (by decide) rfl (fit_hard rfl hard_open (fit_hard rfl hard_star (fit_close hx)))
  | agg k c =>
    simp only [Im.ok, Bool.and_eq_true, decide_eq_true_eq] at h
    refine fit_open ?_ rfl (fit_hard rfl hard_open (fit_app (cl_fits h.2 soft41) (fit_close hx)))
    rcases (by omega : k = 0 ∨ k = 1 ∨ k = 2) with rfl | rfl | rfl <;> decide
theorem im_first1 (c : Im) (R : Line) (x : UInt8) : firstN (c.line 1 ++ R) x = 0 := by
  cases c with
  | col c => exact cl_first1 c R x
  | count => rfl
  | agg k c => rfl
theorem co_fits {c : Co} {g : Nat} {x : UInt8} (h : c.ok = true) (hx : soft x = true) : fitsN (c.line g) x = true := by
  obtain ⟨n, t, r⟩ := c
  simp only [Co.ok, Bool.and_eq_true, Bool.or_eq_true] at h
  refine fit_soft h.1 rfl ?_
  have ht : (Pc.word (if t = true then [116, 101, 120, 116] else [105, 110, 116])).ok = true := by cases t <;> decide
  refine fit_soft ht ?_ ?_
  · cases r with
    | nil => exact hx
    | cons => rfl
  · cases r with
    | nil => rfl
    | cons a s =>
      refine fit_soft (by decide) rfl (fit_soft ?_ hx rfl)
      rcases h.2 with h2 | h2
      · cases h2
      · exact h2
theorem tg_fits {t g : Nat} {x : UInt8} (h : okTag t = true) (hx : soft x = true) : fitsN (Tg g t) x = true := by
  have h : t ≤ 65535 := of_decide_eq_true h
  refine fit_soft ?_ hx rfl
  show decide (t ≤ 9223372036854775807) = true
  exact decide_eq_true (by omega)
theorem lines_soft {α : Type} (f : Nat → α → Line) (xs : List α) {x : UInt8} (hx : soft x = true) : soft (firstN (lines f xs) x) = true := by
  cases xs with
  | nil => exact hx
  | cons => rfl
theorem lines_fits {α : Type} {f : Nat → α → Line} {x : UInt8} (hx : soft x = true) : ∀ {xs : List α}, (∀ y ∈ xs, ∀ z, soft z = true → fitsN (f 1 y) z = true) → fitsN (lines f xs) x = true
  | [], _ => rfl
  | y :: ys, h => fit_hard rfl hard_comma (fit_app (h y (by simp) _ (lines_soft f ys hx)) (lines_fits hx fun z hz => h z (by simp [hz])))
/-- some, commas between -/
theorem list_fits {α : Type} {f : Nat → α → Line} {x : UInt8} (hx : soft x = true) {g : Nat} {y : α} {ys : List α} (h1 : ∀ z, soft z = true → fitsN (f g y) z = true) (h : ∀ y ∈ ys, ∀ z, soft z = true → fitsN (f 1 y) z = true) : fitsN (f g y ++ lines f ys) x = true :=
  fit_app (h1 _ (lines_soft f ys hx)) (lines_fits hx h)
theorem okPr_ok {D : Nat} {p : Pr} (h : okPr D p = true) : p.ok = true := by simp only [okPr, Bool.and_eq_true] at h; exact h.1
theorem where_first (o : Option Pr) (R : Line) (h : firstN R 0 = 0) : firstN (whereL o ++ R) 0 = 0 := by cases o with | none => exact h | some p => rfl
theorem where_fits {D : Nat} {o : Option Pr} (h : okW D o = true) {x : UInt8} (hx : soft x = true) : fitsN (whereL o) x = true := by
  cases o with
  | none => rfl
  | some p => exact fit_soft (by decide) (by rw [first_one']; rfl) (pr_fits p 1 x (okPr_ok h) hx)
theorem join_first (o : Option (B × Cl × Cl)) (R : Line) (h : firstN R 0 = 0) : firstN (joinL o ++ R) 0 = 0 := by cases o with | none => exact h | some p => rfl
theorem join_fits {o : Option (B × Cl × Cl)} (h : okJ o = true) {x : UInt8} (hx : soft x = true) : fitsN (joinL o) x = true := by
  cases o with
  | none => rfl
  | some p =>
    obtain ⟨j, a, b⟩ := p
    simp only [okJ, Bool.and_eq_true] at h
    refine fit_soft (by decide) rfl (fit_soft h.1.1 rfl (fit_soft (by decide) (by rw [cl_first1]; rfl) (fit_app (cl_fits h.1.2 rfl) (fit_soft rfl ?_ (cl_fits h.2 hx)))))
    have := cl_first1 b [] x
    rw [List.append_nil] at this
    rw [this]
    rfl
theorem order_first (o : Option (Cl × Bool)) : firstN (orderL o) 0 = 0 := by cases o with | none => rfl | some p => rfl
theorem order_fits {o : Option (Cl × Bool)} (h : okO o = true) : fitsN (orderL o) 0 = true := by
  cases o with
  | none => rfl
  | some p =>
    obtain ⟨c, d⟩ := p
    refine fit_soft (by decide) rfl (fit_soft (by decide) (by rw [cl_first1]; rfl) (fit_app (cl_fits h ?_) ?_)) <;> cases d <;> rfl
theorem items_first (xs : List Im) (R : Line) (x : UInt8) : firstN (itemsL xs ++ R) x = 0 := by
  cases xs with
  | nil => rfl
  | cons y ys =>
    show firstN ((y.line 1 ++ lines Im.line ys) ++ R) x = 0
    rw [List.append_assoc, im_first1]
theorem items_fits {xs : List Im} (h : xs.all Im.ok = true) : fitsN (itemsL xs) 0 = true := by
  cases xs with
  | nil => rfl
  | cons y ys =>
    simp only [List.all_cons, Bool.and_eq_true] at h
    exact list_fits rfl (fun z hz => im_fits h.1 hz) (fun w hw z hz => im_fits (List.all_eq_true.1 h.2 w hw) hz)
theorem sel_fits {D : Nat} {s : Sel} {g : Nat} (h : s.ok D = true) : fitsN (s.line g) 0 = true := by
  simp only [Sel.ok, Bool.and_eq_true] at h
  obtain ⟨⟨⟨⟨o1, o2⟩, o3⟩, o4⟩, o5⟩ := h
  have f2 := where_first s.wher _ (order_first s.order)
  have f1 := join_first s.join _ f2
  refine fit_soft (by decide) (by rw [items_first]; rfl) (fit_app (by rw [one_first]; exact items_fits o1) (fit_soft (by decide) rfl (fit_soft o2 (by rw [f1]; rfl) ?_)))
  exact fit_app (by rw [f2]; exact join_fits o3 rfl) (fit_app (by rw [order_first]; exact where_fits o4 rfl) (order_fits o5))
theorem wr_fits {D : Nat} {s : Wr} {g : Nat} (h : s.ok D = true) : fitsN (s.line g) 0 = true := by
  cases s with
  | insert t x r =>
    simp only [Wr.ok, Bool.and_eq_true] at h
    refine fit_soft (by decide) rfl (fit_soft (by decide) rfl (fit_soft h.1.1 rfl (fit_open (by decide) rfl (fit_hard rfl hard_open ?_))))
    rw [← List.append_assoc]
    exact fit_app (list_fits (f := fun g p => Pr.line g p) soft41 (fun z hz => pr_fits x 0 z (okPr_ok h.1.2) hz) (fun w hw z hz => pr_fits w 1 z (okPr_ok (List.all_eq_true.1 h.2 w hw)) hz)) (fit_close rfl)
  | update t m x wh =>
    simp only [Wr.ok, Bool.and_eq_true] at h
    have f1 : firstN (whereL wh) 0 = 0 := by have := where_first wh [] rfl; rwa [List.append_nil] at this
    exact fit_soft (by decide) rfl (fit_soft h.1.1.1 rfl (fit_soft (by decide) rfl (fit_soft h.1.1.2 rfl (fit_soft rfl (by rw [first_one]; rfl) (fit_app (by rw [f1]; exact pr_fits x 1 0 (okPr_ok h.1.2) rfl) (where_fits h.2 rfl))))))
  | delete t wh =>
    simp only [Wr.ok, Bool.and_eq_true] at h
    have f1 : firstN (whereL wh) 0 = 0 := by have := where_first wh [] rfl; rwa [List.append_nil] at this
    exact fit_soft (by decide) rfl (fit_soft (by decide) rfl (fit_soft h.1 (by rw [f1]; rfl) (where_fits h.2 rfl)))
theorem tags_first (ts : List Nat) (c : Pc) (L : Line) (x : UInt8) : firstN (tagsL ts ++ (1, c) :: L) x = 0 := by cases ts <;> rfl
theorem tags_fits {ts : List Nat} (h : ts.all okTag = true) : fitsN (tagsL ts) 0 = true := by
  cases ts with
  | nil => rfl
  | cons y ys =>
    simp only [List.all_cons, Bool.and_eq_true] at h
    exact list_fits rfl (fun z hz => tg_fits h.1 hz) (fun w hw z hz => tg_fits (List.all_eq_true.1 h.2 w hw) hz)
theorem door_fits {w m : B} {ts : List Nat} {L : Line} (hw : (Pc.word w).ok = true) (hm : okName m = true) (ht : ts.all okTag = true) (h1 : firstN L 0 = 0) (h2 : fitsN L 0 = true) : fitsN (doorL w m ts L) 0 = true :=
  fit_soft (by decide) rfl (fit_soft hw rfl (fit_soft hm rfl (fit_soft (by decide) (by rw [tags_first]; rfl) (fit_app (by rw [one_first]; exact tags_fits ht) (fit_soft (by decide) (by rw [h1]; rfl) h2)))))
/-- what is shown stands well -/
theorem qs_fits {D : Nat} {q : Qs} (h : q.ok D = true) : Pc.fits q.line = true := by
  rw [fits_nil]
  cases q with
  | table m c r =>
    simp only [Qs.ok, Bool.and_eq_true] at h
    refine fit_soft (by decide) rfl (fit_soft (by decide) rfl (fit_open h.1.1 rfl (fit_hard rfl hard_open ?_)))
    rw [← List.append_assoc]
    exact fit_app (list_fits soft41 (fun z hz => co_fits h.1.2 hz) (fun w hw z hz => co_fits (List.all_eq_true.1 h.2 w hw) hz)) (fit_close rfl)
  | index t m =>
    simp only [Qs.ok, Bool.and_eq_true] at h
    exact fit_soft (by decide) rfl (fit_soft (by decide) rfl (fit_soft (by decide) rfl (fit_open h.1 rfl (fit_hard rfl hard_open (fit_soft h.2 rfl (fit_close rfl))))))
  | view m ts s =>
    simp only [Qs.ok, Bool.and_eq_true] at h
    exact door_fits (by decide) h.1.1 h.1.2 rfl (sel_fits h.2)
  | closure m ts s =>
    simp only [Qs.ok, Bool.and_eq_true] at h
    exact door_fits (by decide) h.1.1 h.1.2 (by cases s <;> rfl) (wr_fits h.2)
  | select s => exact sel_fits h
  | write s => exact wr_fits h
  | plain k =>
    have h : k < 3 := of_decide_eq_true h
    rcases (by omega : k = 0 ∨ k = 1 ∨ k = 2) with rfl | rfl | rfl <;> decide
  | raise t r =>
    simp only [Qs.ok, Bool.and_eq_true] at h
    exact fit_soft (by decide) rfl (list_fits rfl (fun z hz => tg_fits h.1 hz) (fun w hw z hz => tg_fits (List.all_eq_true.1 h.2 w hw) hz))
  | call m => exact fit_soft (by decide) rfl (fit_soft h rfl rfl)
end CM
end Go.Proofs.YtmdnhinpaflamaaDoor
