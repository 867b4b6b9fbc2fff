/- What is parsed is a statement that is shown, and how long it is then. No program in sight. -/
import Derived.Test.YtmdnhinpaflamaaDoorPlD
namespace Go.Proofs.YtmdnhinpaflamaaDoor
open Go.RowKit
set_option linter.unusedVariables false
set_option linter.unusedSimpArgs false
namespace CM
open LexM (Tok)
open PM (B Ex Col It St PS zeroTok wordy two un colEx opOr opAnd opSum opTerm opComp)
open Pc (Pc Line okName okText render toks blanks)

/-- a word of a text, told -/
def TokOk (t : Tok) : Prop := (t.kind = 1 → okName t.text = true) ∧ (t.kind = 3 → 0 ≤ t.int ∧ t.int ≤ 9223372036854775807) ∧ (t.kind = 4 → okText t.text = true)
/-- words up to the end -/
def Inv (l : List Tok) : Prop := (∀ t ∈ l, TokOk t) ∧ ∃ e, l.getLast? = some e ∧ e.kind = 6
theorem inv_tail {t : Tok} {l : List Tok} (h : Inv (t :: l)) (h6 : t.kind ≠ 6) : Inv l := by
  obtain ⟨h1, e, h2, h3⟩ := h
  refine ⟨fun u hu => h1 u (by simp [hu]), e, ?_, h3⟩
  cases l with
  | nil =>
    simp at h2
    subst h2
    exact absurd h3 h6
  | cons u l => simpa using h2
theorem inv_ne {l : List Tok} (h : Inv l) : ∃ t r, l = t :: r := by
  cases l with
  | nil =>
    obtain ⟨_, e, h2, _⟩ := h
    simp at h2
  | cons t r => exact ⟨t, r, rfl⟩
/-- a reader's answers, of at most N words: Q of what it says and how many words it took -/
def Ret {α : Type} (N : Nat) (Q : α → Nat → Prop) (f : P α) : Prop :=
  ∀ l a r, l.length ≤ N → Inv l → f l = .ok (a, r) → Inv r ∧ ∃ k, l.length = r.length + k ∧ Q a k
section
variable {α β : Type} {N : Nat}
theorem Ret.mono {Q Q' : α → Nat → Prop} {f : P α} (h : Ret N Q f) (hQ : ∀ a k, Q a k → Q' a k) : Ret N Q' f := fun l a r h1 h2 h3 => by
  obtain ⟨i, k, e, q⟩ := h l a r h1 h2 h3
  exact ⟨i, k, e, hQ a k q⟩
theorem Ret.less {M : Nat} {Q : α → Nat → Prop} {f : P α} (h : Ret N Q f) (hM : M ≤ N) : Ret M Q f := fun l a r h1 => h l a r (Nat.le_trans h1 hM)
theorem ret_ret {Q : α → Nat → Prop} {a : α} (h : Q a 0) : Ret N Q (ret a) := fun l b r h1 h2 h3 => by
  obtain ⟨rfl, rfl⟩ := (Prod.mk.injEq _ _ _ _).mp (Except.ok.inj h3)
  exact ⟨h2, 0, rfl, h⟩
theorem ret_err {Q : α → Nat → Prop} {x : Int} : Ret N Q (err x : P α) := fun l b r h1 h2 h3 => by cases h3
theorem ret_bnd {Q1 : α → Nat → Prop} {Q2 : β → Nat → Prop} {f : P α} {g : α → P β} (hf : Ret N Q1 f) (hg : ∀ a k, Q1 a k → Ret N (fun b j => Q2 b (k + j)) (g a)) : Ret N Q2 (bnd f g) := fun l b r h1 h2 h3 => by
  unfold bnd at h3
  split at h3
  · cases h3
  · rename_i a m hm
    obtain ⟨i, k, e, q⟩ := hf l a m h1 h2 hm
    obtain ⟨i', k', e', q'⟩ := hg a k q m b r (by omega) i h3
    exact ⟨i', k + k', by omega, q'⟩
/-- what follows has one word less at least -/
theorem ret_bnd1 {Q1 : α → Nat → Prop} {Q2 : β → Nat → Prop} {f : P α} {g : α → P β} (hf : Ret (N + 1) Q1 f) (hg : ∀ a k, Q1 a k → 1 ≤ k ∧ Ret N (fun b j => Q2 b (k + j)) (g a)) : Ret (N + 1) Q2 (bnd f g) := fun l b r h1 h2 h3 => by
  unfold bnd at h3
  split at h3
  · cases h3
  · rename_i a m hm
    obtain ⟨i, k, e, q⟩ := hf l a m h1 h2 hm
    obtain ⟨hk, hg⟩ := hg a k q
    obtain ⟨i', k', e', q'⟩ := hg m b r (by omega) i h3
    exact ⟨i', k + k', by omega, q'⟩
theorem wordy_ne {t : Tok} (h : wordy t = true) : t.kind ≠ 6 := by
  intro e
  unfold wordy at h
  rw [e] at h
  exact absurd h (by decide)
theorem ret_tail {Q : β → Nat → Prop} {g : P β} {l : List Tok} {b : β} {r : List Tok} (hg : Ret N (fun b j => Q b (j + 1)) g) (h1 : l.length ≤ N + 1) (h2 : Inv l) (h6 : (now l).kind ≠ 6) (h3 : g l.tail = .ok (b, r)) : Inv r ∧ ∃ k, l.length = r.length + k ∧ Q b k := by
  obtain ⟨t, l, rfl⟩ := inv_ne h2
  obtain ⟨i, k, e, q⟩ := hg l b r (by simp at h1; omega) (inv_tail h2 h6) h3
  exact ⟨i, k + 1, by simp; omega, q⟩
theorem ret_opt1 (w : B) {Q : α → Nat → Prop} {f g : P α} (hf : Ret N (fun a k => Q a (k + 1)) f) (hg : Ret (N + 1) Q g) : Ret (N + 1) Q (opt w f g) := fun l a r h1 h2 h3 => by
  unfold opt at h3
  by_cases h : is w l = true
  · rw [if_pos h] at h3
    simp only [is, Bool.and_eq_true] at h
    exact ret_tail hf h1 h2 (wordy_ne h.1) h3
  · rw [if_neg h] at h3
    exact hg l a r h1 h2 h3
theorem ret_opt (w : B) {Q : α → Nat → Prop} {f g : P α} (hf : Ret N (fun a k => Q a (k + 1)) f) (hg : Ret N Q g) : Ret N Q (opt w f g) := by
  cases N with
  | zero =>
    intro l a r h1 h2 h3
    obtain ⟨t, l, rfl⟩ := inv_ne h2
    simp at h1
  | succ N => exact ret_opt1 w (hf.less (Nat.le_succ N)) hg
theorem ret_need (w : B) : Ret N (fun _ k => k = 1) (need w) := ret_opt w (ret_ret rfl) ret_err
theorem ret_needs : ∀ ws : List B, Ret N (fun _ k => k = ws.length) (needs ws)
  | [] => ret_ret rfl
  | w :: r => ret_bnd (ret_need w) fun _ k hk => by subst hk; exact (ret_needs r).mono fun _ j hj => by subst hj; simp; omega
theorem ret_word (c : Int) (hc : c ≠ 6) (h0 : c ≠ 0) : Ret N (fun t k => TokOk t ∧ t.kind = c ∧ k = 1) (word c) := fun l a r h1 h2 h3 => by
  unfold word at h3
  obtain ⟨t, l, rfl⟩ := inv_ne h2
  by_cases h : t.kind = c
  · rw [if_pos (show (now (t :: l)).kind = c from h)] at h3
    obtain ⟨rfl, rfl⟩ := (Prod.mk.injEq _ _ _ _).mp (Except.ok.inj h3)
    exact ⟨inv_tail h2 (by rw [h]; exact hc), 1, by simp, h2.1 _ (by simp [now]), h, rfl⟩
  · rw [if_neg (show ¬ (now (t :: l)).kind = c from h)] at h3
    cases h3
theorem ret_name : Ret N (fun n k => okName n = true ∧ k = 1) name := ret_bnd (ret_word 1 (by decide) (by decide)) fun t k ⟨h1, h2, h3⟩ => ret_ret ⟨h1.1 h2, by omega⟩
theorem ret_ite (p : Tok → Prop) [DecidablePred p] {Q : α → Nat → Prop} {f g : P α} (hf : Ret N Q f) (hg : Ret N Q g) : Ret N Q (fun l => if p (now l) then f l else g l) := fun l a r h1 h2 h3 => by
  by_cases h : p (now l)
  · exact hf l a r h1 h2 ((if_pos h).symm.trans h3)
  · exact hg l a r h1 h2 ((if_neg h).symm.trans h3)
/-- what an operation's sign tells -/
theorem ret_sign {γ : Type} (o : B → Option γ) (h0 : o [] = none) {Q : α → Nat → Prop} {f : γ → P α} {x : α} {M : Nat} (hN : N ≤ M + 1) (hf : ∀ w y, o w = some y → Ret M (fun a k => Q a (k + 1)) (f y)) (hx : Q x 0) {g : P α} (hg : ∀ l, g l = (o (sign l)).elim (.ok (x, l)) (fun y => f y l.tail)) :
    Ret N Q g := fun l a r h1 h2 h3 => by
  rw [hg] at h3
  cases h : o (sign l) with
  | none =>
    simp only [h, Option.elim] at h3
    obtain ⟨rfl, rfl⟩ := (Prod.mk.injEq _ _ _ _).mp (Except.ok.inj h3)
    exact ⟨h2, 0, rfl, hx⟩
  | some y =>
    simp only [h, Option.elim] at h3
    have hw : wordy (now l) = true := by
      cases hw : wordy (now l) with
      | true => rfl
      | false =>
        unfold sign at h
        rw [hw] at h
        simp only [Bool.false_eq_true, if_false] at h
        rw [h0] at h
        cases h
    exact ret_tail (hf _ y h) (by omega) h2 (wordy_ne hw) h3
end
theorem rlen_app (a b : Line) : (render (a ++ b)).length = (render a).length + (render b).length := by
  induction a with
  | nil => simp [render]
  | cons x a ih =>
    obtain ⟨g, c⟩ := x
    simp only [List.cons_append, render, List.length_append, ih]
    omega
theorem rlen_cons (g : Nat) (c : Pc) (L : Line) : (render ((g, c) :: L)).length = g + c.bytes.length + (render L).length := by simp [render, blanks]; omega
theorem b_name (t : B) : (Pc.name t).bytes = t := rfl
theorem b_word (t : B) : (Pc.word t).bytes = t := rfl
theorem b_num (v : Nat) : (Pc.num v).bytes = Lib.decDigits v := rfl
theorem b_text (t : B) : (Pc.text t).bytes = 39 :: (Pc.quo t ++ [39]) := rfl
theorem b_sign (t : B) : (Pc.sign t).bytes = t := rfl
theorem rlen_nil : (render []).length = 0 := rfl
theorem rlen_gap (p : Pr) (g : Nat) : (render (p.line g)).length = g + (render (p.line 0)).length := by cases p <;> simp only [Pr.line, rlen_cons] <;> omega
theorem okName_le {t : B} (h : okName t = true) : t.length ≤ 16 := by
  simp only [okName, Bool.and_eq_true, decide_eq_true_eq] at h
  exact h.2
theorem okText_le {t : B} (h : okText t = true) : t.length ≤ 30 := by
  simp only [okText, Bool.and_eq_true, decide_eq_true_eq] at h
  exact h.2
theorem quo_le : ∀ t : B, (Pc.quo t).length ≤ 2 * t.length
  | [] => by simp [Pc.quo]
  | c :: r => by
    have := quo_le r
    unfold Pc.quo
    split <;> simp <;> omega
theorem digits_le {v : Nat} (h : v ≤ 9223372036854775807) : (Lib.decDigits v).length ≤ 21 := by
  have h1 := Lib.itoa_length_le (v : Int) (by omega) (by omega)
  rw [Lib.itoa, if_neg (by omega)] at h1
  simpa using h1
theorem op_le (o : Nat) : (opPc o).bytes.length ≤ 3 := by unfold opPc; split <;> decide
/-- an expression that is shown, not too long -/
def QE (x : Ex) (k : Nat) : Prop := ∃ p : Pr, p.ok = true ∧ p.ex = x ∧ (render (p.line 0)).length ≤ 64 * k
def QC (x : Ex) (k : Nat) : Prop := ∃ c : Cl, c.ok = true ∧ c.ex = x ∧ (render (c.line 0)).length ≤ 64 * k
theorem ret_column {N : Nat} : Ret N QC column := by
  refine ret_bnd ret_name fun n k ⟨h1, h2⟩ => ret_opt _ (ret_bnd ret_name fun m j ⟨h3, h4⟩ => ret_ret ?_) (ret_ret ?_)
  · subst h2 h4
    refine ⟨⟨n, m⟩, by simp [Cl.ok, h1, h3], rfl, ?_⟩
    have := okName_le h1
    have := okName_le h3
    unfold Cl.line
    split <;> simp only [rlen_cons, rlen_nil, b_name, b_word, b_num, b_text, b_sign, List.length_cons, List.length_nil] <;> omega
  · subst h2
    refine ⟨⟨[], n⟩, by simp [Cl.ok, h1], rfl, ?_⟩
    have := okName_le h1
    simp only [Cl.line, List.isEmpty_nil, if_true, rlen_cons, rlen_nil, b_name, b_word, b_num, b_text, b_sign]
    omega
theorem qe_of_qc {x : Ex} {k : Nat} (h : QC x k) : QE x k := by
  obtain ⟨⟨t, n⟩, h1, rfl, h3⟩ := h
  simp only [Cl.ok, Bool.and_eq_true, Bool.or_eq_true] at h1
  unfold Cl.line at h3
  by_cases he : t.isEmpty = true
  · rw [if_pos he] at h3
    obtain rfl : t = [] := by cases t with | nil => rfl | cons => cases he
    exact ⟨.col n, h1.2, rfl, h3⟩
  · rw [if_neg he] at h3
    have ht : okName t = true := by rcases h1.1 with h | h; exact absurd h he; exact h
    exact ⟨.tcol t n, by simp [Pr.ok, ht, h1.2], rfl, h3⟩
theorem qe_bin {x y : Ex} {i j o : Nat} (ho : o < 11) (h1 : QE x i) (h2 : QE y j) : QE (two (5 + (o : Int)) x y) (i + j + 1) := by
  obtain ⟨p, a1, rfl, a3⟩ := h1
  obtain ⟨q, b1, rfl, b3⟩ := h2
  refine ⟨.bin o p q, by simp [Pr.ok, ho, a1, b1], rfl, ?_⟩
  have := op_le o
  simp only [Pr.line, rlen_cons, rlen_app, rlen_nil, rlen_gap q 1, b_name, b_word, b_num, b_text, b_sign, List.length_cons, List.length_nil]
  omega
def OpS (ops : B → Option Int) : Prop := ops [] = none ∧ ∀ w y, ops w = some y → ∃ o : Nat, o < 11 ∧ y = 5 + (o : Int)
theorem ops_or : OpS opOr := ⟨by decide, fun w y h => by unfold opOr at h; split at h <;> cases h; exact ⟨10, by decide, rfl⟩⟩
theorem ops_and : OpS opAnd := ⟨by decide, fun w y h => by unfold opAnd at h; split at h <;> cases h; exact ⟨9, by decide, rfl⟩⟩
theorem ops_sum : OpS opSum := ⟨by decide, fun w y h => by
  unfold opSum at h
  split at h
  · cases h; exact ⟨0, by decide, rfl⟩
  split at h <;> cases h
  exact ⟨1, by decide, rfl⟩⟩
theorem ops_term : OpS opTerm := ⟨by decide, fun w y h => by unfold opTerm at h; split at h <;> cases h; exact ⟨2, by decide, rfl⟩⟩
theorem ops_comp : OpS opComp := ⟨by decide, fun w y h => by
  unfold opComp at h
  split at h
  · cases h; exact ⟨3, by decide, rfl⟩
  split at h
  · cases h; exact ⟨4, by decide, rfl⟩
  split at h
  · cases h; exact ⟨5, by decide, rfl⟩
  split at h
  · cases h; exact ⟨6, by decide, rfl⟩
  split at h
  · cases h; exact ⟨7, by decide, rfl⟩
  split at h <;> cases h
  exact ⟨8, by decide, rfl⟩⟩
theorem ret_rowsF {N : Nat} {one : P Ex} {ops : B → Option Int} (ho : OpS ops) (h : Ret N QE one) : ∀ (f : Nat) (x : Ex) (i : Nat), QE x i → Ret N (fun y k => QE y (i + k)) (rowsF one ops f x)
  | 0, x, i, hx => ret_ret hx
  | f + 1, x, i, hx => by
    refine ret_sign ops ho.1 (Q := fun y k => QE y (i + k)) (f := fun op => bnd one (fun y => rowsF one ops f (two op x y))) (M := N) (Nat.le_succ N) (fun w op hw => ?_) hx (fun l => by
      show (match ops (sign l) with | none => Except.ok (x, l) | some op => bnd one (fun y => rowsF one ops f (two op x y)) l.tail) = _
      cases ops (sign l) <;> rfl)
    refine ret_bnd h fun y j hy => ?_
    obtain ⟨o, ho11, rfl⟩ := ho.2 w op hw
    refine (ret_rowsF ho h f _ _ (qe_bin ho11 hx hy)).mono fun a k hk => ?_
    have e : i + j + 1 + k = i + (j + k + 1) := by omega
    rwa [e] at hk
theorem ret_len {α : Type} {N : Nat} {Q : α → Nat → Prop} {f : Nat → P α} (h : ∀ n, Ret N Q (f n)) : Ret N Q (fun l => f l.length l) := fun l a r h1 h2 h3 => h l.length l a r h1 h2 h3
theorem ret_rows {N : Nat} {one : P Ex} {ops : B → Option Int} (ho : OpS ops) (h : Ret N QE one) : Ret N QE (rows one ops) :=
  ret_bnd h fun x i hx => ret_len (f := fun n => rowsF one ops n x) fun n => ret_rowsF ho h n x i hx
theorem ret_exprF {N : Nat} {nt : P Ex} (h : Ret N QE nt) : Ret N QE (exprF nt) := ret_rows ops_or (ret_rows ops_and h)
theorem ret_sumF {N : Nat} {u : P Ex} (h : Ret N QE u) : Ret N QE (sumF u) := ret_rows ops_sum (ret_rows ops_term h)
theorem ret_compF {N : Nat} {u : P Ex} (h : Ret N QE u) : Ret N QE (compF u) := by
  refine ret_bnd (ret_sumF h) fun x i hx => ?_
  refine ret_sign opComp ops_comp.1 (Q := fun y k => QE y (i + k)) (M := N) (Nat.le_succ N) (f := fun op => bnd (sumF u) (fun y => ret (two op x y))) (fun w op hw => ?_) hx (fun l => by cases opComp (sign l) <;> rfl)
  refine ret_bnd (ret_sumF h) fun y j hy => ret_ret ?_
  obtain ⟨o, ho11, rfl⟩ := ops_comp.2 w op hw
  have := qe_bin ho11 hx hy
  rwa [show i + (j + 0 + 1) = i + j + 1 by omega]
theorem ret_nests {N : Nat} {Q : Ex → Nat → Prop} {sg : B} {inn : Int → P Ex} {d : Int} (h : Ret N (fun a k => Q a (k + 1)) (inn (d + 1))) : Ret (N + 1) Q (nests sg inn d) := by
  unfold nests
  split
  · exact ret_err
  · refine ret_bnd1 (ret_need sg) fun _ k hk => ?_
    subst hk
    exact ⟨Nat.le_refl _, h.mono fun a k hk => by rwa [Nat.add_comm 1 k]⟩
theorem ret_if (w : B) {α : Type} {N : Nat} {Q : α → Nat → Prop} {f g : P α} (hf : Ret N Q f) (hg : Ret N Q g) : Ret N Q (fun l => if is w l then f l else g l) := ret_ite (fun t => (wordy t && t.text == w) = true) hf hg
theorem ret_notF {N : Nat} {u nt : Int → P Ex} (hu : ∀ d, Ret (N + 1) QE (u d)) (hn : ∀ d, Ret N QE (nt d)) (d : Int) : Ret (N + 1) QE (notF u nt d) := by
  unfold notF
  refine ret_if _ (ret_nests (ret_bnd (hn _) fun x k hx => ret_ret ?_)) (ret_compF (hu d))
  obtain ⟨p, a1, rfl, a3⟩ := hx
  refine ⟨.not p, a1, rfl, ?_⟩
  simp only [Pr.line, rlen_cons, rlen_app, rlen_nil, rlen_gap p 1, b_name, b_word, b_num, b_text, b_sign, List.length_cons, List.length_nil]
  omega
theorem ret_unaryF {N : Nat} {u nt : Int → P Ex} (hu : ∀ d, Ret N QE (u d)) (hn : ∀ d, Ret N QE (nt d)) (d : Int) : Ret (N + 1) QE (unaryF u nt d) := by
  unfold unaryF
  refine ret_if _ (ret_nests (ret_bnd (hu _) fun x k hx => ret_ret ?_)) (ret_if _ (ret_nests (ret_bnd (ret_exprF (hn _)) fun x k hx => ret_bnd (ret_needs _) fun _ j hj => ret_ret ?_)) (ret_ite (fun t => t.kind = 3) ?_ (ret_ite (fun t => t.kind = 4) ?_ (ret_column.mono fun _ _ => qe_of_qc))))
  · obtain ⟨p, a1, rfl, a3⟩ := hx
    refine ⟨.neg p, a1, rfl, ?_⟩
    simp only [Pr.line, rlen_cons, rlen_app, rlen_nil, b_name, b_word, b_num, b_text, b_sign, List.length_cons, List.length_nil]
    omega
  · obtain ⟨p, a1, rfl, a3⟩ := hx
    exact ⟨p, a1, rfl, by omega⟩
  · refine ret_bnd (ret_word 3 (by decide) (by decide)) fun t k ⟨h1, h2, h3⟩ => ret_ret ?_
    obtain ⟨h4, h5⟩ := h1.2.1 h2
    refine ⟨.int t.int.toNat, decide_eq_true (by omega), ?_, ?_⟩
    · show Ex.mk 1 1 ((t.int.toNat : Nat) : Int) [] [] [] [] = _
      rw [Int.toNat_of_nonneg h4]
    · have := digits_le (v := t.int.toNat) (by omega)
      simp only [Pr.line, rlen_cons, rlen_nil, b_name, b_word, b_num, b_text, b_sign]
      omega
  · refine ret_bnd (ret_word 4 (by decide) (by decide)) fun t k ⟨h1, h2, h3⟩ => ret_ret ?_
    have h4 := h1.2.2 h2
    refine ⟨.text t.text, h4, rfl, ?_⟩
    have := okText_le h4
    have := quo_le t.text
    simp only [Pr.line, rlen_cons, rlen_nil, b_name, b_word, b_num, b_text, b_sign, List.length_cons, List.length_append, List.length_nil]
    omega
theorem ret_lev : ∀ (N : Nat) (d : Int), Ret N QE ((lev N).1 d) ∧ Ret N QE ((lev N).2 d)
  | 0, d => ⟨fun l a r h1 h2 h3 => by obtain ⟨t, l, rfl⟩ := inv_ne h2; simp at h1, fun l a r h1 h2 h3 => by obtain ⟨t, l, rfl⟩ := inv_ne h2; simp at h1⟩
  | N + 1, d =>
    have hu := fun d => ret_unaryF (fun d => (ret_lev N d).1) (fun d => (ret_lev N d).2) d
    ⟨hu d, ret_notF hu (fun d => (ret_lev N d).2) d⟩
theorem ret_expr (N : Nat) (d : Int) : Ret N QE (expr N d) := ret_exprF (ret_lev N d).2

/-! ### statements -/
/-- a list of things that are shown: f: what they are; g: how they are shown -/
def QL {α γ : Type} (ok : γ → Bool) (f : γ → α) (g : Nat → γ → Line) (x : α) (k : Nat) : Prop := ∃ y, ok y = true ∧ f y = x ∧ (render (g 0 y)).length ≤ 64 * k ∧ (render (g 1 y)).length ≤ 64 * k + 1
def QLs {α γ : Type} (ok : γ → Bool) (f : γ → α) (g : Nat → γ → Line) (xs : List α) (k : Nat) : Prop := ∃ y ys, ok y = true ∧ ys.all ok = true ∧ (y :: ys).map f = xs ∧ (render (g 0 y ++ lines g ys)).length ≤ 64 * k ∧ (render (g 1 y ++ lines g ys)).length ≤ 64 * k + 1
theorem lines_snoc {γ : Type} (g : Nat → γ → Line) (y : γ) : ∀ ys : List γ, lines g (ys ++ [y]) = lines g ys ++ ((0, .sign [44]) :: g 1 y)
  | [] => by simp [lines]
  | x :: ys => by rw [List.cons_append, lines, lines, lines_snoc g y ys]; simp
theorem ret_more {α γ : Type} {N : Nat} {ok : γ → Bool} {f : γ → α} {g : Nat → γ → Line} {one : P α} (h : Ret N (QL ok f g) one) : ∀ (m : Nat) (acc : List α) (i : Nat), QLs ok f g acc i → Ret N (fun xs k => QLs ok f g xs (i + k)) (more one m acc)
  | 0, acc, i, hx => ret_ret hx
  | m + 1, acc, i, hx => by
    refine ret_opt _ (ret_bnd h fun x j hy => ?_) (ret_ret hx)
    have hz : QLs ok f g (acc ++ [x]) (i + j + 1) := by
      obtain ⟨y, ys, a1, a2, rfl, a4, a5⟩ := hx
      obtain ⟨z, b1, rfl, b3, b4⟩ := hy
      refine ⟨y, ys ++ [z], a1, by simp only [List.all_append, a2, List.all_cons, b1, List.all_nil, Bool.and_self], by simp, ?_, ?_⟩
      all_goals
        rw [lines_snoc, ← List.append_assoc, rlen_app, rlen_cons]
        simp only [b_name, b_word, b_num, b_text, b_sign, List.length_cons, List.length_nil]
        omega
    refine (ret_more h m _ _ hz).mono fun a k hk => ?_
    rwa [show i + j + 1 + k = i + (j + k + 1) by omega] at hk
theorem ret_list {α γ : Type} {N : Nat} {ok : γ → Bool} {f : γ → α} {g : Nat → γ → Line} {one : P α} (h : Ret N (QL ok f g) one) : Ret N (QLs ok f g) (list one) := by
  refine ret_bnd h fun x i hx => ret_len (f := fun n => more one n [x]) fun n => ret_more h n [x] i ?_
  obtain ⟨z, b1, rfl, b3, b4⟩ := hx
  exact ⟨z, [], b1, rfl, rfl, by simpa [lines] using b3, by simpa [lines] using b4⟩
theorem rlen_cl (c : Cl) (g : Nat) : (render (c.line g)).length = (render (c.line 0)).length + g := by
  unfold Cl.line
  split <;> simp only [rlen_cons] <;> omega
theorem ret_item {N : Nat} : Ret N (QL Im.ok Im.it Im.line) item := by
  refine ret_opt _ (ret_bnd (ret_needs _) fun _ k hk => ret_ret ?_) ?_
  · subst hk
    refine ⟨.count, rfl, rfl, by decide, by decide⟩
  · have key : ∀ {N : Nat}, Ret N (QL Im.ok Im.it Im.line) (bnd column (fun c => ret ⟨0, Ex.table c, Ex.name c⟩)) := fun {N} => by
      refine ret_bnd ret_column fun x k hx => ret_ret ?_
      obtain ⟨c, h1, rfl, h3⟩ := hx
      exact ⟨.col c, h1, rfl, h3, by have := rlen_cl c 1; show (render (c.line 1)).length ≤ _; omega⟩
    intro l a r h1 h2 h3
    dsimp only at h3
    by_cases h0 : agg (sign l) = 0
    · rw [if_pos h0] at h3
      exact key l a r h1 h2 h3
    · rw [if_neg h0] at h3
      have hw : wordy (now l) = true := by
        cases hw : wordy (now l) with
        | true => rfl
        | false =>
          exfalso
          unfold sign at h0
          rw [hw] at h0
          exact h0 rfl
      obtain ⟨j, hj, hj3⟩ : ∃ j : Nat, agg (sign l) = 2 + (j : Int) ∧ j < 3 := by
        unfold agg at h0 ⊢
        split
        · exact ⟨0, rfl, by decide⟩
        split
        · exact ⟨1, rfl, by decide⟩
        split
        · exact ⟨2, rfl, by decide⟩
        · rename_i e1 e2 e3
          rw [if_neg e1, if_neg e2, if_neg e3] at h0
          exact absurd rfl h0
      refine ret_tail (N := N) (g := bnd (needs [[40]]) (fun _ => bnd column fun c => bnd (needs [[41]]) fun _ => ret ⟨agg (sign l), Ex.table c, Ex.name c⟩)) ?_ (by omega) h2 (wordy_ne hw) h3
      refine ret_bnd (ret_needs _) fun _ k hk => ret_bnd ret_column fun x i hx => ret_bnd (ret_needs _) fun _ k' hk' => ret_ret ?_
      obtain ⟨c, h1, rfl, h3⟩ := hx
      subst hk hk'
      have hl : (aggW j).length ≤ 3 := by unfold aggW; split <;> decide
      refine ⟨.agg j c, by simp [Im.ok, hj3, h1], ?_, ?_, ?_⟩
      · show (⟨2 + (j : Int), c.table, c.name⟩ : It) = _
        rw [hj]
        rfl
      all_goals
        simp only [Im.line, rlen_cons, rlen_app, rlen_nil, b_name, b_word, b_num, b_text, b_sign, List.length_cons, List.length_nil]
        omega
theorem ret_tag {N : Nat} : Ret N (QL okTag tagI Tg) tag := by
  intro l a r h1 h2 h3
  unfold tag at h3
  by_cases h : (now l).kind = 3 ∧ 65535 < (now l).int
  · rw [if_pos h] at h3
    cases h3
  · rw [if_neg h] at h3
    obtain ⟨t, l, rfl⟩ := inv_ne h2
    have key : Ret N (fun u k => TokOk u ∧ u.kind = 3 ∧ k = 1) (word 3) := ret_word 3 (by decide) (by decide)
    unfold bnd at h3
    split at h3
    · cases h3
    · rename_i u m hm
      obtain ⟨i, k, e, h4, h5, rfl⟩ := key _ _ _ h1 h2 hm
      have hu : u = t := by
        unfold word at hm
        split at hm
        · obtain ⟨rfl, _⟩ := (Prod.mk.injEq _ _ _ _).mp (Except.ok.inj hm)
          rfl
        · cases hm
      subst hu
      obtain ⟨rfl, rfl⟩ := (Prod.mk.injEq _ _ _ _).mp (Except.ok.inj h3)
      obtain ⟨h6, h7⟩ := h4.2.1 h5
      have hle : u.int ≤ 65535 := by
        have : ¬ 65535 < u.int := fun hlt => h ⟨h5, hlt⟩
        omega
      refine ⟨i, 1, e, u.int.toNat, decide_eq_true (by omega), ?_, ?_, ?_⟩
      · show ((u.int.toNat : Nat) : Int) = _
        rw [Int.toNat_of_nonneg h6]
        omega
      all_goals
        have := digits_le (v := u.int.toNat) (by omega)
        simp only [Tg, rlen_cons, rlen_nil, b_name, b_word, b_num, b_text, b_sign]
        omega
theorem ret_colKind {N : Nat} : Ret N (fun t k => (t = 1 ∨ t = 2) ∧ k = 1) colKind := ret_opt _ (ret_ret ⟨.inl rfl, rfl⟩) (ret_opt _ (ret_ret ⟨.inr rfl, rfl⟩) ret_err)
theorem ret_col {N : Nat} : Ret N (QL Co.ok Co.col Co.line) col := by
  refine ret_bnd ret_name fun n k ⟨h1, h2⟩ => ret_bnd ret_colKind fun t j ⟨h3, h4⟩ => ret_opt _ (ret_bnd ret_name fun r i ⟨h5, h6⟩ => ret_ret ?_) (ret_ret ?_)
  all_goals
    subst h2 h4
    have hn := okName_le h1
    have htw : (if (decide (t = 2)) = true then [116, 101, 120, 116] else [105, 110, 116] : B).length ≤ 4 := by split <;> decide
    have htk : (if (decide (t = 2)) = true then 2 else 1 : Int) = t := by rcases h3 with rfl | rfl <;> rfl
  · subst h6
    have hr := okName_le h5
    have hre : r.isEmpty = false := by
      cases r with
      | nil => exact absurd h5 (by decide)
      | cons => rfl
    refine ⟨⟨n, decide (t = 2), r⟩, by simp [Co.ok, h1, h5], by simp only [Co.col]; rw [htk], ?_, ?_⟩
    all_goals
      simp only [Co.line, hre, Bool.false_eq_true, if_false, rlen_cons, rlen_nil, b_name, b_word, b_num, b_text, b_sign, List.length_cons, List.length_nil]
      omega
  · refine ⟨⟨n, decide (t = 2), []⟩, by simp [Co.ok, h1], by simp only [Co.col]; rw [htk], ?_, ?_⟩
    all_goals
      simp only [Co.line, List.isEmpty_nil, if_true, rlen_cons, rlen_nil, b_name, b_word, b_num, b_text, b_sign, List.length_cons, List.length_nil]
      omega
def QW (l : List Ex) (k : Nat) : Prop := ∃ (o : Option Pr), (∀ p, o = some p → p.ok = true) ∧ whE o = l ∧ (render (whereL o)).length ≤ 64 * k
theorem ret_wheres {N : Nat} (d : Int) : Ret N QW (wheres N d) := by
  refine ret_opt _ (ret_bnd (ret_expr N d) fun x k hx => ret_ret ?_) (ret_ret ⟨none, by simp, rfl, by simp [whereL, rlen_nil]⟩)
  obtain ⟨p, a1, rfl, a3⟩ := hx
  refine ⟨some p, fun q hq => by cases hq; exact a1, rfl, ?_⟩
  simp only [whereL, rlen_cons, rlen_gap p 1, b_name, b_word, b_num, b_text, b_sign, List.length_cons, List.length_nil]
  omega
def QJ (j : B × List Ex) (k : Nat) : Prop := ∃ o, okJ o = true ∧ joinN o = j.1 ∧ joinE o = j.2 ∧ (render (joinL o)).length ≤ 64 * k
theorem ret_joins {N : Nat} : Ret N QJ joins := by
  refine ret_opt _ (ret_bnd ret_name fun j k ⟨h1, h2⟩ => ret_bnd (ret_needs _) fun _ k1 hk1 => ret_bnd ret_column fun a ka ha => ret_bnd (ret_needs _) fun _ k2 hk2 => ret_bnd ret_column fun b kb hb => ret_ret ?_) (ret_ret ⟨none, rfl, rfl, rfl, by simp [joinL, rlen_nil]⟩)
  obtain ⟨c, c1, rfl, c3⟩ := ha
  obtain ⟨e, e1, rfl, e3⟩ := hb
  subst h2 hk1 hk2
  have := okName_le h1
  refine ⟨some (j, c, e), by simp [okJ, h1, c1, e1], rfl, rfl, ?_⟩
  simp only [joinL, rlen_cons, rlen_app, rlen_cl c 1, rlen_cl e 1, b_name, b_word, b_num, b_text, b_sign, List.length_cons, List.length_nil]
  omega
def QO (o : List Ex × Bool) (k : Nat) : Prop := ∃ x, okO x = true ∧ orderE x = o.1 ∧ orderD x = o.2 ∧ (render (orderL x)).length ≤ 64 * k
theorem ret_desc {N : Nat} : Ret N (fun d k => k = if d then 1 else 0) desc := ret_opt _ (ret_ret rfl) (ret_ret rfl)
theorem ret_orders {N : Nat} : Ret N QO orders := by
  refine ret_opt _ (ret_bnd (ret_needs _) fun _ k hk => ret_bnd ret_column fun a ka ha => ret_bnd ret_desc fun d kd hd => ret_ret ?_) (ret_ret ⟨none, rfl, rfl, rfl, by simp [orderL, rlen_nil]⟩)
  obtain ⟨c, c1, rfl, c3⟩ := ha
  subst hk hd
  refine ⟨some (c, d), c1, rfl, rfl, ?_⟩
  cases d <;> simp only [orderL, rlen_cons, rlen_app, rlen_nil, rlen_cl c 1, b_name, b_word, b_num, b_text, b_sign, List.length_cons, List.length_nil, if_true, if_false, Bool.false_eq_true] <;> omega
def QI (l : List It) (k : Nat) : Prop := ∃ is : List Im, is.all Im.ok = true ∧ is.map Im.it = l ∧ (render (itemsL is)).length ≤ 64 * k + 1
theorem ret_items {N : Nat} : Ret N QI items := by
  refine ret_opt _ (ret_ret ⟨[], rfl, rfl, by decide⟩) ((ret_list ret_item).mono fun l k h => ?_)
  obtain ⟨y, ys, a1, a2, rfl, a4, a5⟩ := h
  exact ⟨y :: ys, by simp only [List.all_cons, a1, a2, Bool.and_self], rfl, a5⟩
/-- a statement that is shown, however deep -/
def QSel (st : St) (k : Nat) : Prop := ∃ (s : Sel) (D : Nat), s.ok D = true ∧ s.st = st ∧ (render (s.line 0)).length ≤ 64 * k + 30
theorem okW_of {o : Option Pr} (h : ∀ p, o = some p → p.ok = true) : ∃ D, okW D o = true := by
  cases o with
  | none => exact ⟨0, rfl⟩
  | some p => exact ⟨p.nest, by simp [okW, okPr, h p rfl]⟩
theorem ret_selects {N : Nat} (d : Int) : Ret N QSel (selects N d) := by
  refine ret_bnd ret_items fun its k1 h1 => ret_bnd (ret_needs _) fun _ k2 h2 => ret_bnd ret_name fun t k3 ⟨h3, h4⟩ => ret_bnd ret_joins fun j k5 h5 => ret_bnd (ret_wheres d) fun w k6 h6 => ret_bnd ret_orders fun o k7 h7 => ret_ret ?_
  obtain ⟨is, i1, rfl, i3⟩ := h1
  obtain ⟨jo, j1, j2, j3, j4⟩ := h5
  obtain ⟨wo, w1, rfl, w3⟩ := h6
  obtain ⟨oo, o1, o2, o3, o4⟩ := h7
  obtain ⟨D, hD⟩ := okW_of w1
  subst h2 h4
  have := okName_le h3
  refine ⟨⟨is, t, jo, wo, oo⟩, D, by simp [Sel.ok, i1, h3, j1, hD, o1], ?_, ?_⟩
  · simp only [Sel.st, j2, j3, o2, o3]
  · simp only [Sel.line, rlen_cons, rlen_app, b_name, b_word, b_num, b_text, b_sign, List.length_cons, List.length_nil]
    omega
theorem okPr_of {p : Pr} (h : p.ok = true) {D : Nat} (hD : p.nest ≤ D) : okPr D p = true := by simp [okPr, h, hD]
theorem all_deep : ∀ l : List Pr, l.all Pr.ok = true → ∃ D, ∀ E, D ≤ E → l.all (okPr E) = true
  | [], _ => ⟨0, fun _ _ => rfl⟩
  | p :: r, h => by
    simp only [List.all_cons, Bool.and_eq_true] at h
    obtain ⟨D, hD⟩ := all_deep r h.2
    refine ⟨max D p.nest, fun E hE => ?_⟩
    have m1 := Nat.le_max_left D p.nest
    have m2 := Nat.le_max_right D p.nest
    rw [List.all_cons, okPr_of h.1 (by omega), hD E (by omega)]
    rfl
def QWr (st : St) (k : Nat) : Prop := ∃ (s : Wr) (D : Nat), s.ok D = true ∧ s.st = st ∧ (render (s.line 0)).length ≤ 64 * k + 30
theorem qe_list {x : Ex} {k : Nat} (h : QE x k) : QL Pr.ok Pr.ex (fun g p => p.line g) x k := by
  obtain ⟨p, a1, a2, a3⟩ := h
  exact ⟨p, a1, a2, a3, by have := rlen_gap p 1; show (render (p.line 1)).length ≤ _; omega⟩
theorem okW_deep {o : Option Pr} (h : ∀ p, o = some p → p.ok = true) : ∃ D, ∀ E, D ≤ E → okW E o = true := by
  cases o with
  | none => exact ⟨0, fun _ _ => rfl⟩
  | some p => exact ⟨p.nest, fun E hE => okPr_of (h p rfl) hE⟩
theorem ret_inserts {N : Nat} (d : Int) : Ret N QWr (inserts N d) := by
  refine ret_bnd (ret_needs _) fun _ k2 h2 => ret_bnd ret_name fun t k3 ⟨h3, h4⟩ => ret_bnd (ret_needs _) fun _ k4 hk4 => ret_bnd (ret_list ((ret_expr N d).mono fun _ _ => qe_list)) fun vs k5 h5 => ret_bnd (ret_needs _) fun _ k6 hk6 => ret_ret ?_
  obtain ⟨y, ys, a1, a2, rfl, a4, a5⟩ := h5
  obtain ⟨D, hD⟩ := all_deep ys a2
  replace a4 : (render (y.line 0 ++ lines (fun g p => Pr.line g p) ys)).length ≤ 64 * k5 := a4
  subst h2 h4 hk4 hk6
  have := okName_le h3
  have m1 := Nat.le_max_left D y.nest
  have m2 := Nat.le_max_right D y.nest
  refine ⟨.insert t y ys, max D y.nest, by simp [Wr.ok, h3, okPr_of a1 m2, hD _ m1], rfl, ?_⟩
  simp only [Wr.line, rlen_cons]
  rw [← List.append_assoc, rlen_app]
  simp only [rlen_cons, rlen_nil, b_name, b_word, b_num, b_text, b_sign, List.length_cons, List.length_nil]
  omega
theorem ret_updates {N : Nat} (d : Int) : Ret N QWr (updates N d) := by
  refine ret_bnd ret_name fun t k1 ⟨h1, h2⟩ => ret_bnd (ret_needs _) fun _ k3 h3 => ret_bnd ret_name fun m k4 ⟨h4, h5⟩ => ret_bnd (ret_needs _) fun _ k6 h6 => ret_bnd (ret_expr N d) fun x k7 h7 => ret_bnd (ret_wheres d) fun w k8 h8 => ret_ret ?_
  obtain ⟨p, a1, rfl, a3⟩ := h7
  obtain ⟨wo, w1, rfl, w3⟩ := h8
  obtain ⟨D, hD⟩ := okW_deep w1
  subst h2 h3 h5 h6
  have := okName_le h1
  have := okName_le h4
  have m1 := Nat.le_max_left D p.nest
  have m2 := Nat.le_max_right D p.nest
  refine ⟨.update t m p wo, max D p.nest, by simp [Wr.ok, h1, h4, okPr_of a1 m2, hD _ m1], rfl, ?_⟩
  simp only [Wr.line, rlen_cons, rlen_app, rlen_gap p 1, b_name, b_word, b_num, b_text, b_sign, List.length_cons, List.length_nil]
  omega
theorem ret_deletes {N : Nat} (d : Int) : Ret N QWr (deletes N d) := by
  refine ret_bnd (ret_needs _) fun _ k3 h3 => ret_bnd ret_name fun t k1 ⟨h1, h2⟩ => ret_bnd (ret_wheres d) fun w k8 h8 => ret_ret ?_
  obtain ⟨wo, w1, rfl, w3⟩ := h8
  obtain ⟨D, hD⟩ := okW_deep w1
  subst h2 h3
  have := okName_le h1
  refine ⟨.delete t wo, D, by simp [Wr.ok, h1, hD _ (Nat.le_refl _)], rfl, ?_⟩
  simp only [Wr.line, rlen_cons, b_name, b_word, b_num, b_text, b_sign, List.length_cons, List.length_nil]
  omega
def QS (st : St) (k : Nat) : Prop := ∃ (q : Qs) (D : Nat), q.ok D = true ∧ q.st = st ∧ (render q.line).length ≤ 64 * k + 100
theorem qs_sel {st : St} {k : Nat} (h : QSel st k) : QS st (k + 1) := by
  obtain ⟨s, D, a1, a2, a3⟩ := h
  exact ⟨.select s, D, a1, a2, by show (render (s.line 0)).length ≤ _; omega⟩
theorem qs_wr {st : St} {k : Nat} (h : QWr st k) : QS st (k + 1) := by
  obtain ⟨s, D, a1, a2, a3⟩ := h
  exact ⟨.write s, D, a1, a2, by show (render (s.line 0)).length ≤ _; omega⟩
theorem ret_writes {N : Nat} (d : Int) : Ret N (fun st k => ∃ j, k = j + 1 ∧ QWr st j) (writes N d (err 5)) :=
  ret_opt _ ((ret_inserts d).mono fun _ k h => ⟨k, rfl, h⟩) (ret_opt _ ((ret_updates d).mono fun _ k h => ⟨k, rfl, h⟩) (ret_opt _ ((ret_deletes d).mono fun _ k h => ⟨k, rfl, h⟩) ret_err))
def QT (l : List Int) (k : Nat) : Prop := ∃ ts : List Nat, ts.all okTag = true ∧ ts.map tagI = l ∧ (render (tagsL ts)).length ≤ 64 * k + 1
theorem qt_of {l : List Int} {k : Nat} (h : QLs okTag tagI Tg l k) : QT l k := by
  obtain ⟨y, ys, a1, a2, rfl, a4, a5⟩ := h
  exact ⟨y :: ys, by simp only [List.all_cons, a1, a2, Bool.and_self], rfl, a5⟩
theorem ret_tags {N : Nat} : Ret N QT tags := ret_ite (fun t => t.kind = 3) (g := ret []) ((ret_list ret_tag).mono fun _ _ => qt_of) (ret_ret ⟨[], rfl, rfl, by decide⟩)
theorem rlen_sel (s : Sel) : (render (s.line 1)).length = (render (s.line 0)).length + 1 := by simp only [Sel.line, rlen_cons]; omega
theorem rlen_wr (s : Wr) : (render (s.line 1)).length = (render (s.line 0)).length + 1 := by cases s <;> simp only [Wr.line, rlen_cons] <;> omega
theorem ret_view {N : Nat} (d : Int) : Ret N QS (door 3 (opt [115, 101, 108, 101, 99, 116] (selects N d) (err 5))) := by
  refine ret_bnd ret_name fun m k1 ⟨h1, h2⟩ => ret_bnd (ret_needs _) fun _ k3 h3 => ret_bnd ret_tags fun ts k4 h4 => ret_bnd (ret_needs _) fun _ k5 h5 => ret_bnd (ret_opt _ (Q := fun st k => ∃ j, k = j + 1 ∧ QSel st j) ((ret_selects d).mono fun _ k h => ⟨k, rfl, h⟩) ret_err) fun st k6 h6 => ret_ret ?_
  obtain ⟨tl, t1, rfl, t3⟩ := h4
  obtain ⟨j, rfl, s, D, s1, rfl, s3⟩ := h6
  subst h2 h3 h5
  have := okName_le h1
  refine ⟨.view m tl s, D, by simp [Qs.ok, h1, t1, s1], rfl, ?_⟩
  simp only [Qs.line, doorL, rlen_cons, rlen_app, rlen_sel, b_name, b_word, b_num, b_text, b_sign, List.length_cons, List.length_nil]
  omega
theorem ret_closure {N : Nat} (d : Int) : Ret N QS (door 4 (writes N d (err 5))) := by
  refine ret_bnd ret_name fun m k1 ⟨h1, h2⟩ => ret_bnd (ret_needs _) fun _ k3 h3 => ret_bnd ret_tags fun ts k4 h4 => ret_bnd (ret_needs _) fun _ k5 h5 => ret_bnd (ret_writes d) fun st k6 h6 => ret_ret ?_
  obtain ⟨tl, t1, rfl, t3⟩ := h4
  obtain ⟨j, rfl, s, D, s1, rfl, s3⟩ := h6
  subst h2 h3 h5
  have := okName_le h1
  refine ⟨.closure m tl s, D, by simp [Qs.ok, h1, t1, s1], rfl, ?_⟩
  simp only [Qs.line, doorL, rlen_cons, rlen_app, rlen_wr, b_name, b_word, b_num, b_text, b_sign, List.length_cons, List.length_nil]
  omega
theorem ret_tables {N : Nat} : Ret N QS tables := by
  refine ret_bnd ret_name fun m k1 ⟨h1, h2⟩ => ret_bnd (ret_needs _) fun _ k3 h3 => ret_bnd (ret_list ret_col) fun cs k4 h4 => ret_bnd (ret_needs _) fun _ k5 h5 => ret_ret ?_
  obtain ⟨y, ys, a1, a2, rfl, a4, a5⟩ := h4
  subst h2 h3 h5
  have := okName_le h1
  refine ⟨.table m y ys, 0, by simp [Qs.ok, h1, a1, a2], rfl, ?_⟩
  simp only [Qs.line, rlen_cons]
  rw [← List.append_assoc, rlen_app]
  simp only [rlen_cons, rlen_nil, b_name, b_word, b_num, b_text, b_sign, List.length_cons, List.length_nil]
  omega
theorem ret_indexes {N : Nat} : Ret N QS indexes := by
  refine ret_bnd (ret_needs _) fun _ k3 h3 => ret_bnd ret_name fun t k1 ⟨h1, h2⟩ => ret_bnd (ret_needs _) fun _ k4 h4 => ret_bnd ret_name fun m k5 ⟨h5, h6⟩ => ret_bnd (ret_needs _) fun _ k7 h7 => ret_ret ?_
  have := okName_le h1
  have := okName_le h5
  refine ⟨.index t m, 0, by simp [Qs.ok, h1, h5], rfl, ?_⟩
  simp only [Qs.line, rlen_cons, rlen_nil, b_name, b_word, b_num, b_text, b_sign, List.length_cons, List.length_nil]
  omega
theorem QS.up {st : St} {k j : Nat} (h : QS st k) (hj : k ≤ j) : QS st j := by
  obtain ⟨q, D, a1, a2, a3⟩ := h
  exact ⟨q, D, a1, a2, by omega⟩
theorem ret_up {N : Nat} {f : P St} (h : Ret N QS f) : Ret N (fun st k => QS st (k + 1)) f := h.mono fun _ k h => h.up (by omega)
theorem ret_create {N : Nat} (d : Int) : Ret N QS (create N d) :=
  ret_opt _ (ret_up ret_tables) (ret_opt _ (ret_up ret_indexes) (ret_opt _ (ret_up (ret_view d)) (ret_opt _ (ret_up (ret_closure d)) ret_err)))
theorem ret_rest {N : Nat} : Ret N QS rest := by
  refine ret_opt _ (ret_bnd (ret_list ret_tag) fun ts k h => ret_ret ?_) (ret_opt _ (ret_bnd ret_name fun m k ⟨h1, h2⟩ => ret_ret ?_) (ret_opt _ (ret_ret ⟨.plain 0, 0, rfl, rfl, by decide⟩) (ret_opt _ (ret_ret ⟨.plain 1, 0, rfl, rfl, by decide⟩) (ret_opt _ (ret_ret ⟨.plain 2, 0, rfl, rfl, by decide⟩) ret_err))))
  · obtain ⟨y, ys, a1, a2, rfl, a4, a5⟩ := h
    refine ⟨.raise y ys, 0, by simp only [Qs.ok, a1, a2, Bool.and_self], rfl, ?_⟩
    simp only [Qs.line, rlen_cons, b_name, b_word, b_num, b_text, b_sign, List.length_cons, List.length_nil]
    omega
  · have := okName_le h1
    refine ⟨.call m, 0, h1, rfl, ?_⟩
    simp only [Qs.line, rlen_cons, rlen_nil, b_name, b_word, b_num, b_text, b_sign, List.length_cons, List.length_nil]
    omega
theorem ret_stmt {N : Nat} (d : Int) : Ret N QS (stmt N d) :=
  ret_opt _ (ret_up (ret_create d)) (ret_opt _ ((ret_inserts d).mono fun _ _ => qs_wr) (ret_opt _ ((ret_selects d).mono fun _ _ => qs_sel) (ret_opt _ ((ret_updates d).mono fun _ _ => qs_wr) (ret_opt _ ((ret_deletes d).mono fun _ _ => qs_wr) ret_rest))))
/-- what is parsed is shown -/
theorem parseL_told {l : List Tok} {st : St} (hl : Inv l) (h : parseL l = .inr st) : ∃ (q : Qs) (D : Nat), q.ok D = true ∧ q.st = st ∧ (render q.line).length ≤ 64 * l.length + 100 := by
  unfold parseL ends at h
  split at h
  · cases h
  · rename_i s r hs
    split at h
    · cases h
      obtain ⟨_, k, e, q, D, a1, a2, a3⟩ := ret_stmt (N := l.length) 0 l st r (Nat.le_refl _) hl hs
      exact ⟨q, D, a1, a2, by omega⟩
    · cases h
/-! ### the words of a text are told -/
theorem txt_ok : ∀ (n : Nat) (s : B) (p : Nat) (l : B) (q : Nat), s.length ≤ n → LexM.txt p s = .inr (l, q) → l.all Pc.good = true
  | 0, s, p, l, q, h, e => by
    obtain rfl := List.eq_nil_of_length_eq_zero (by omega : s.length = 0)
    simp [LexM.txt] at e
  | n + 1, s, p, l, q, h, e => by
    cases s with
    | nil => simp [LexM.txt] at e
    | cons c r =>
      simp only [List.length_cons] at h
      unfold LexM.txt at e
      split at e
      · cases e
      · rename_i hg
        split at e
        · split at e
          · rename_i d r' 
            split at e
            · split at e
              · cases e
              · rename_i l' q' hx
                simp only [Sum.inr.injEq, Prod.mk.injEq] at e
                obtain ⟨rfl, rfl⟩ := e
                simp only [List.length_cons] at h
                rw [List.all_cons, txt_ok n r' _ _ _ (by omega) hx]
                decide
            · simp only [Sum.inr.injEq, Prod.mk.injEq] at e
              obtain ⟨rfl, rfl⟩ := e
              rfl
          · simp only [Sum.inr.injEq, Prod.mk.injEq] at e
            obtain ⟨rfl, rfl⟩ := e
            rfl
        · split at e
          · cases e
          · rename_i l' q' hx
            simp only [Sum.inr.injEq, Prod.mk.injEq] at e
            obtain ⟨rfl, rfl⟩ := e
            rw [List.all_cons, txt_ok n r _ _ _ (by omega) hx]
            simp only [Pc.good, Bool.and_true, Bool.and_eq_true, decide_eq_true_eq]
            omega
theorem tok_other {k : Int} (h1 : k ≠ 1) (h3 : k ≠ 3) (h4 : k ≠ 4) (t : B) (i : Int) (p : Nat) : TokOk ⟨k, t, i, p⟩ := ⟨fun h => absurd h h1, fun h => absurd h h3, fun h => absurd h h4⟩
theorem tok_ok {p : Nat} {s : B} {t : Tok} {q : Nat} (h : LexM.tok1 p s = .inr (t, q)) : TokOk t := by
  cases s with
  | nil => simp [LexM.tok1] at h
  | cons c r =>
    simp only [LexM.tok1] at h
    split at h
    · rename_i hc
      split at h
      · simp only [Sum.inr.injEq, Prod.mk.injEq] at h
        obtain ⟨rfl, rfl⟩ := h
        exact tok_other (by decide) (by decide) (by decide) _ _ _
      · rename_i hw
        split at h
        · cases h
        · rename_i hl
          simp only [Sum.inr.injEq, Prod.mk.injEq] at h
          obtain ⟨rfl, rfl⟩ := h
          refine ⟨fun _ => ?_, fun h => absurd (show (1 : Int) = 3 from h) (by decide), fun h => absurd (show (1 : Int) = 4 from h) (by decide)⟩
          have hall : ((c :: r).takeWhile LexM.nameByte).all LexM.nameByte = true := by
            exact List.all_takeWhile
          have hhd : ((c :: r).takeWhile LexM.nameByte).headD 0 = c := by
            rw [List.takeWhile_cons, if_pos (by unfold LexM.nameByte; rw [hc]; rfl)]
            rfl
          simp only [okName, hhd, hc, hall, Bool.true_and, Bool.and_eq_true, Bool.not_eq_true', decide_eq_true_eq]
          exact ⟨by simpa using hw, by omega⟩
    · split at h
      · split at h
        · cases h
        · split at h
          · cases h
          · simp only [Sum.inr.injEq, Prod.mk.injEq] at h
            obtain ⟨rfl, rfl⟩ := h
            refine ⟨fun h => absurd (show (3 : Int) = 1 from h) (by decide), fun _ => ⟨?_, ?_⟩, fun h => absurd (show (3 : Int) = 4 from h) (by decide)⟩
            · show (0 : Int) ≤ ((LexM.val _ : Nat) : Int); omega
            · show ((LexM.val _ : Nat) : Int) ≤ _; omega
      · split at h
        · split at h
          · cases h
          · rename_i l q' hx
            split at h
            · cases h
            · rename_i hl
              simp only [Sum.inr.injEq, Prod.mk.injEq] at h
              obtain ⟨rfl, rfl⟩ := h
              refine ⟨fun h => absurd (show (4 : Int) = 1 from h) (by decide), fun h => absurd (show (4 : Int) = 3 from h) (by decide), fun _ => ?_⟩
              simp only [okText, Bool.and_eq_true, decide_eq_true_eq]
              exact ⟨txt_ok _ _ _ _ _ (Nat.le_refl _) hx, by omega⟩
        · split at h
          · split at h
            all_goals
              simp only [Sum.inr.injEq, Prod.mk.injEq] at h
              obtain ⟨rfl, rfl⟩ := h
              exact tok_other (by decide) (by decide) (by decide) _ _ _
          · cases h
theorem lexN_inv (S : B) : ∀ (n p : Nat) (l : List Tok), LexM.lexN S n p = .inr l → Inv l
  | 0, p, l, h => by simp [LexM.lexN] at h
  | n + 1, p, l, h => by
    unfold LexM.lexN at h
    split at h
    · simp only [Sum.inr.injEq] at h
      subst h
      refine ⟨fun t ht => ?_, ⟨6, [], 0, S.length⟩, rfl, rfl⟩
      simp only [List.mem_singleton] at ht
      subst ht
      exact tok_other (by decide) (by decide) (by decide) _ _ _
    · split at h
      · exact lexN_inv S n _ l h
      · split at h
        · cases h
        · rename_i t q ht
          split at h
          · cases h
          · rename_i l' hl'
            simp only [Sum.inr.injEq] at h
            subst h
            obtain ⟨i1, e, i2, i3⟩ := lexN_inv S n _ l' hl'
            refine ⟨fun u hu => ?_, e, ?_, i3⟩
            · rcases List.mem_cons.1 hu with rfl | hu
              · exact tok_ok ht
              · exact i1 u hu
            · cases l' with
              | nil => simp at i2
              | cons a b => simpa using i2
theorem lex_inv {S : B} {l : List Tok} (h : LexM.lex S = .inr l) : Inv l := by
  unfold LexM.lex at h
  split at h
  · cases h
  · exact lexN_inv S _ _ l h
theorem okPr_up {D E : Nat} (hE : D ≤ E) {p : Pr} (h : okPr D p = true) : okPr E p = true := by
  simp only [okPr, Bool.and_eq_true, decide_eq_true_eq] at h ⊢
  exact ⟨h.1, by omega⟩
theorem okW_up {D E : Nat} (hE : D ≤ E) {o : Option Pr} (h : okW D o = true) : okW E o = true := by
  cases o with
  | none => rfl
  | some p => exact okPr_up hE h
theorem sel_up {D E : Nat} (hE : D ≤ E) {s : Sel} (h : s.ok D = true) : s.ok E = true := by
  simp only [Sel.ok, Bool.and_eq_true] at h ⊢
  exact ⟨⟨h.1.1, okW_up hE h.1.2⟩, h.2⟩
theorem wr_up {D E : Nat} (hE : D ≤ E) {s : Wr} (h : s.ok D = true) : s.ok E = true := by
  cases s <;> simp only [Wr.ok, Bool.and_eq_true] at h ⊢
  · exact ⟨⟨h.1.1, okPr_up hE h.1.2⟩, List.all_eq_true.2 fun x hx => okPr_up hE (List.all_eq_true.1 h.2 x hx)⟩
  · exact ⟨⟨h.1.1, okPr_up hE h.1.2⟩, okW_up hE h.2⟩
  · exact ⟨h.1, okW_up hE h.2⟩
theorem qs_up {D E : Nat} (hE : D ≤ E) {q : Qs} (h : q.ok D = true) : q.ok E = true := by
  cases q
  case view => simp only [Qs.ok, Bool.and_eq_true] at h ⊢; exact ⟨h.1, sel_up hE h.2⟩
  case closure => simp only [Qs.ok, Bool.and_eq_true] at h ⊢; exact ⟨h.1, wr_up hE h.2⟩
  case select => exact sel_up hE h
  case write => exact wr_up hE h
  all_goals exact h
end CM
end Go.Proofs.YtmdnhinpaflamaaDoor
