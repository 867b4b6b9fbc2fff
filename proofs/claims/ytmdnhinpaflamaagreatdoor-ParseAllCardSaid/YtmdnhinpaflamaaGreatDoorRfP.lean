/- A reader of statements, step by step: what one step is, in words of the readers that end at the first error. No program in sight. -/
import Derived.Test.YtmdnhinpaflamaaGreatDoorPlB
namespace Go.Proofs.YtmdnhinpaflamaaGreatDoor
open Go.RowKit
set_option linter.unusedVariables false
set_option linter.unusedSimpArgs false
namespace Rf
open LexM (Tok)
open PM (B Ex Col It PS zeroTok wordy two un colEx opOr opAnd opSum opTerm opComp)
open CM (P)
/-- a step from s to s' that gives a: as the reader c says; where something has failed ahead, that stays -/
def St {α : Type} (c : Int → P α) (s : PS) (a : α) (s' : PS) : Prop :=
  (s.e ≠ 0 → s'.e = s.e ∧ s'.pos = s.pos ∧ s'.l = s.l) ∧
  (s.e = 0 → match c s.deep s.l with | .ok (a', l') => a = a' ∧ s'.e = 0 ∧ s'.l = l' ∧ s'.deep = s.deep | .error (q, x) => s'.e = x ∧ s'.pos = q ∧ x ≠ 0)
section
variable {α β : Type} {c : Int → P α} {d : α → Int → P β} {s s1 s2 : PS} {a : α} {b : β}
theorem St.bnd (h : St c s a s1) (k : St (d a) s1 b s2) : St (fun dp => CM.bnd (c dp) (fun a => d a dp)) s b s2 := by
  obtain ⟨h1, h2⟩ := h
  obtain ⟨k1, k2⟩ := k
  refine ⟨fun e => ?_, fun e => ?_⟩
  · obtain ⟨e1, e2, e3⟩ := h1 e
    obtain ⟨g1, g2, g3⟩ := k1 (by rw [e1]; exact e)
    exact ⟨g1.trans e1, g2.trans e2, g3.trans e3⟩
  · have h2 := h2 e
    show match CM.bnd (c s.deep) (fun a => d a s.deep) s.l with | .ok (a', l') => _ | .error (q, x) => _
    unfold CM.bnd
    cases hc : c s.deep s.l with
    | error x =>
      obtain ⟨q, x⟩ := x
      rw [hc] at h2
      obtain ⟨e1, e2, e3⟩ := h2
      obtain ⟨g1, g2, g3⟩ := k1 (by rw [e1]; exact e3)
      exact ⟨g1.trans e1, g2.trans e2, e3⟩
    | ok r =>
      obtain ⟨a', l'⟩ := r
      rw [hc] at h2
      obtain ⟨rfl, e1, e2, e3⟩ := h2
      have k2 := k2 e1
      rw [e2, e3] at k2
      exact k2
theorem St.ret (a : α) (s : PS) : St (fun _ => CM.ret a) s a s := ⟨fun _ => ⟨rfl, rfl, rfl⟩, fun e => ⟨rfl, e, rfl, rfl⟩⟩
theorem St.congr {c' : Int → P α} (h : St c s a s1) (hc : ∀ d l, c d l = c' d l) : St c' s a s1 := by
  obtain ⟨h1, h2⟩ := h
  exact ⟨h1, fun e => by rw [← hc]; exact h2 e⟩
/-- behind a failure any value will do -/
theorem St.dead (h : s.e ≠ 0) (a : α) : St c s a s := ⟨fun _ => ⟨rfl, rfl, rfl⟩, fun e => absurd e h⟩
/-- only the words and the failure matter -/
theorem St.same {s' : PS} (h : s.e ≠ 0) (h1 : s'.e = s.e) (h2 : s'.pos = s.pos) (h3 : s'.l = s.l) (a : α) : St c s a s' := ⟨fun _ => ⟨h1, h2, h3⟩, fun e => absurd e h⟩
end
/-! ### the small steps -/
def now (s : PS) : Tok := CM.now s.l
/-- what fail does -/
def failed (x : Int) (s : PS) : PS := if s.e = 0 then { s with e := x, pos := (now s).pos } else s
theorem St.fail {α : Type} (x : Int) (hx : x ≠ 0) (a : α) (s : PS) : St (fun _ => CM.err x) s a (failed x s) := by
  unfold failed
  by_cases h : s.e = 0
  · rw [if_pos h]
    exact ⟨fun e => absurd h e, fun _ => ⟨rfl, rfl, hx⟩⟩
  · rw [if_neg h]
    exact St.dead h a
/-- take: a word that stands there is read -/
def taken (w : B) (s : PS) : Bool := s.e == 0 && CM.is w s.l
def skip (s : PS) : PS := { s with l := s.l.tail }
def took (w : B) (s : PS) : PS := if taken w s then skip s else s
theorem taken_pos {w : B} {s : PS} (h : taken w s = true) : s.e = 0 ∧ CM.is w s.l = true := by simpa [taken] using h
theorem St.opt {α : Type} {w : B} {f g : Int → P α} {s s1 : PS} {a : α} (h1 : taken w s = true → St f (skip s) a s1) (h2 : taken w s = false → St g s a s1) : St (fun d => CM.opt w (f d) (g d)) s a s1 := by
  cases ht : taken w s with
  | true =>
    obtain ⟨e0, hi⟩ := taken_pos ht
    obtain ⟨_, k⟩ := h1 ht
    refine ⟨fun e => absurd e0 e, fun _ => ?_⟩
    have := k e0
    show match (if CM.is w s.l then f s.deep s.l.tail else g s.deep s.l) with | .ok (a', l') => _ | .error (q, x) => _
    rw [if_pos hi]
    exact this
  | false =>
    have k := h2 ht
    by_cases e0 : s.e = 0
    · have hi : ¬ CM.is w s.l = true := by
        intro hi
        simp [taken, e0, hi] at ht
      refine ⟨fun e => absurd e0 e, fun _ => ?_⟩
      show match (if CM.is w s.l then f s.deep s.l.tail else g s.deep s.l) with | .ok (a', l') => _ | .error (q, x) => _
      rw [if_neg hi]
      exact k.2 e0
    · exact ⟨fun _ => k.1 e0, fun e => absurd e e0⟩
/-- must -/
def musted (w : B) (s : PS) : PS := if taken w s then skip s else failed 5 s
theorem St.must (w : B) (s : PS) : St (fun _ => CM.need w) s () (musted w s) := by
  unfold musted CM.need
  refine St.opt (f := fun _ => CM.ret ()) (g := fun _ => CM.err 5) (fun h => ?_) (fun h => ?_)
  · rw [if_pos h]; exact St.ret () _
  · rw [h]; exact St.fail 5 (by decide) () s
/-- a word of a kind -/
def worded (k : Int) (s : PS) : PS := if s.e ≠ 0 ∨ (now s).kind ≠ k then failed 5 s else skip s
theorem St.word (k : Int) (s : PS) (t : Tok) (ht : s.e = 0 → (now s).kind = k → t = now s) : St (fun _ => CM.word k) s t (worded k s) := by
  unfold worded
  by_cases e0 : s.e = 0
  · by_cases hk : (now s).kind = k
    · rw [if_neg (by rintro (h | h); exact h e0; exact h hk)]
      have hw : CM.word k s.l = .ok (CM.now s.l, s.l.tail) := by unfold CM.word; exact if_pos hk
      refine ⟨fun e => absurd e0 e, fun _ => ?_⟩
      simp only [hw]
      exact ⟨ht e0 hk, e0, rfl, rfl⟩
    · rw [if_pos (.inr hk)]
      have hw : CM.word k s.l = .error ((CM.now s.l).pos, 5) := by unfold CM.word; exact if_neg hk
      refine ⟨fun e => absurd e0 e, fun _ => ?_⟩
      simp only [hw]
      unfold failed
      rw [if_pos e0]
      exact ⟨rfl, rfl, by decide⟩
  · rw [if_pos (.inl e0)]
    unfold failed
    rw [if_neg e0]
    exact St.dead e0 t
/-! ### no more words behind than ahead -/
/-- no more words behind than ahead -/
def Ng {α : Type} (f : P α) : Prop := ∀ l a l', f l = .ok (a, l') → l'.length ≤ l.length
section
variable {α β : Type}
theorem ng_ret (a : α) : Ng (CM.ret a) := fun l b l' h => by cases h; exact Nat.le_refl _
theorem ng_err (x : Int) : Ng (CM.err (α := α) x) := fun l b l' h => by cases h
theorem ng_bnd {f : P α} {g : α → P β} (hf : Ng f) (hg : ∀ a, Ng (g a)) : Ng (CM.bnd f g) := fun l b l' h => by
  unfold CM.bnd at h
  cases hx : f l with
  | error e => rw [hx] at h; cases h
  | ok r =>
    obtain ⟨a, l1⟩ := r
    rw [hx] at h
    exact Nat.le_trans (hg a l1 b l' h) (hf l a l1 hx)
theorem tail_le (l : List Tok) : l.tail.length ≤ l.length := by simp
theorem ng_opt {w : B} {f g : P α} (hf : Ng f) (hg : Ng g) : Ng (CM.opt w f g) := fun l b l' h => by
  unfold CM.opt at h
  split at h
  · exact Nat.le_trans (hf _ _ _ h) (tail_le l)
  · exact hg _ _ _ h
theorem ng_ite (p : List Tok → Prop) [DecidablePred p] {f g : P α} (hf : Ng f) (hg : Ng g) : Ng (fun l => if p l then f l else g l) := fun l b l' h => by
  have h : (if p l then f l else g l) = .ok (b, l') := h
  split at h
  · exact hf _ _ _ h
  · exact hg _ _ _ h
theorem ng_need (w : B) : Ng (CM.need w) := ng_opt (ng_ret ()) (ng_err 5)
theorem ng_needs : ∀ ws : List B, Ng (CM.needs ws)
  | [] => ng_ret ()
  | w :: r => ng_bnd (ng_need w) fun _ => ng_needs r
theorem ng_word (k : Int) : Ng (CM.word k) := fun l b l' h => by
  unfold CM.word at h
  split at h
  · cases h; exact tail_le l
  · cases h
theorem ng_name : Ng CM.name := ng_bnd (ng_word 1) fun _ => ng_ret _
theorem ng_len {f : Nat → P α} (h : ∀ n, Ng (f n)) : Ng (fun l => f l.length l) := fun l b l' e => h _ l b l' e
theorem ng_column : Ng CM.column := ng_bnd ng_name fun _ => ng_opt (ng_bnd ng_name fun _ => ng_ret _) (ng_ret _)
theorem ng_rowsF {one : P Ex} (h : Ng one) (ops : B → Option Int) : ∀ (n : Nat) (x : Ex), Ng (CM.rowsF one ops n x)
  | 0, x => ng_ret x
  | n + 1, x => fun l b l' e => by
    unfold CM.rowsF at e
    split at e
    · cases e; exact Nat.le_refl _
    · exact Nat.le_trans (ng_bnd h (fun y => ng_rowsF h ops n _) _ _ _ e) (tail_le l)
theorem ng_rows {one : P Ex} (h : Ng one) (ops : B → Option Int) : Ng (CM.rows one ops) := ng_bnd h fun x => ng_len fun n => ng_rowsF h ops n x
theorem ng_exprF {nt : P Ex} (h : Ng nt) : Ng (CM.exprF nt) := ng_rows (ng_rows h _) _
theorem ng_sumF {u : P Ex} (h : Ng u) : Ng (CM.sumF u) := ng_rows (ng_rows h _) _
theorem ng_compF {u : P Ex} (h : Ng u) : Ng (CM.compF u) := ng_bnd (ng_sumF h) fun x l b l' e => by
  change (match opComp (CM.sign l) with | none => Except.ok (x, l) | some op => CM.bnd (CM.sumF u) (fun y => CM.ret (two op x y)) l.tail) = .ok (b, l') at e
  split at e
  · cases e; exact Nat.le_refl _
  · exact Nat.le_trans (ng_bnd (ng_sumF h) (fun y => ng_ret _) _ _ _ e) (tail_le l)
theorem ng_nests (sg : B) {inn : Int → P Ex} (d : Int) (h : ∀ d, Ng (inn d)) : Ng (CM.nests sg inn d) := by
  unfold CM.nests
  split
  · exact ng_err 6
  · exact ng_bnd (ng_need sg) fun _ => h _
theorem ng_unaryF {u nt : Int → P Ex} (hu : ∀ d, Ng (u d)) (hn : ∀ d, Ng (nt d)) (d : Int) : Ng (CM.unaryF u nt d) :=
  ng_ite (fun l => CM.is [45] l = true) (ng_nests _ d fun d => ng_bnd (hu d) fun _ => ng_ret _) (ng_ite (fun l => CM.is [40] l = true) (ng_nests _ d fun d => ng_bnd (ng_exprF (hn d)) fun _ => ng_bnd (ng_needs _) fun _ => ng_ret _)
    (ng_ite (fun l => (CM.now l).kind = 3) (ng_bnd (ng_word 3) fun _ => ng_ret _) (ng_ite (fun l => (CM.now l).kind = 4) (ng_bnd (ng_word 4) fun _ => ng_ret _) ng_column)))
theorem ng_notF {u nt : Int → P Ex} (hu : ∀ d, Ng (u d)) (hn : ∀ d, Ng (nt d)) (d : Int) : Ng (CM.notF u nt d) :=
  ng_ite (fun l => CM.is [110, 111, 116] l = true) (ng_nests _ d fun d => ng_bnd (hn d) fun _ => ng_ret _) (ng_compF (hu d))
theorem ng_lev : ∀ n, (∀ d, Ng ((CM.lev n).1 d)) ∧ ∀ d, Ng ((CM.lev n).2 d)
  | 0 => ⟨fun _ => ng_ret _, fun _ => ng_ret _⟩
  | n + 1 => ⟨ng_unaryF (ng_lev n).1 (ng_lev n).2, ng_notF (ng_unaryF (ng_lev n).1 (ng_lev n).2) (ng_lev n).2⟩
theorem ng_expr (n : Nat) (d : Int) : Ng (CM.expr n d) := ng_exprF ((ng_lev n).2 d)
end
/-! ### more behind some signs -/
theorem rowsF_fuel {one : P Ex} (h : Ng one) (ops : B → Option Int) (h0 : ops [] = none) : ∀ (f g : Nat) (x : Ex) (l : List Tok), l.length ≤ f → l.length ≤ g → CM.rowsF one ops f x l = CM.rowsF one ops g x l
  | 0, 0, _, _, _, _ => rfl
  | 0, g + 1, x, l, hf, _ => by
    have hl : l = [] := List.eq_nil_of_length_eq_zero (by omega)
    subst hl
    show _ = (match ops (CM.sign []) with | none => _ | some op => _)
    rw [show CM.sign [] = [] from rfl, h0]
    rfl
  | f + 1, 0, x, l, _, hg => by
    have hl : l = [] := List.eq_nil_of_length_eq_zero (by omega)
    subst hl
    show (match ops (CM.sign []) with | none => _ | some op => _) = _
    rw [show CM.sign [] = [] from rfl, h0]
    rfl
  | f + 1, g + 1, x, l, hf, hg => by
    unfold CM.rowsF
    cases ho : ops (CM.sign l) with
    | none => rfl
    | some op =>
      have hl : l ≠ [] := fun e => by subst e; rw [show CM.sign [] = [] from rfl, h0] at ho; cases ho
      have ht : l.tail.length < l.length := by cases l with | nil => exact absurd rfl hl | cons => simp
      show CM.bnd one _ l.tail = CM.bnd one _ l.tail
      unfold CM.bnd
      cases hx : one l.tail with
      | error e => rfl
      | ok r =>
        obtain ⟨y, l1⟩ := r
        have := h _ _ _ hx
        exact rowsF_fuel h ops h0 f g (two op x y) l1 (by omega) (by omega)
/-- as many as there are words -/
def rowsL (one : P Ex) (ops : B → Option Int) (x : Ex) : P Ex := fun l => CM.rowsF one ops l.length x l
theorem rowsL_none {one : P Ex} {ops : B → Option Int} {x : Ex} {l : List Tok} (h : ops (CM.sign l) = none) : rowsL one ops x l = .ok (x, l) := by
  unfold rowsL
  cases l with
  | nil => rfl
  | cons t r => unfold CM.rowsF; rw [List.length_cons]; show (match ops (CM.sign (t :: r)) with | none => _ | some op => _) = _; rw [h]
theorem rowsL_some {one : P Ex} (hn : Ng one) {ops : B → Option Int} (h0 : ops [] = none) {x : Ex} {l : List Tok} {op : Int} (h : ops (CM.sign l) = some op) : rowsL one ops x l = CM.bnd one (fun y => rowsL one ops (two op x y)) l.tail := by
  cases l with
  | nil => rw [show CM.sign [] = [] from rfl, h0] at h; cases h
  | cons t r =>
    show (match ops (CM.sign (t :: r)) with | none => Except.ok (x, t :: r) | some op => CM.bnd one (fun y => CM.rowsF one ops r.length (two op x y)) r) = CM.bnd one (fun y => rowsL one ops (two op x y)) r
    rw [h]
    show CM.bnd one (fun y => CM.rowsF one ops r.length (two op x y)) r = _
    unfold CM.bnd
    cases hx : one r with
    | error e => rfl
    | ok q =>
      obtain ⟨y, l1⟩ := q
      exact rowsF_fuel hn ops h0 _ _ _ _ (by have := hn _ _ _ hx; omega) (Nat.le_refl _)
/-- nothing more -/
theorem St.rows_end {one : Int → P Ex} {ops : B → Option Int} {x : Ex} {s : PS} (h : s.e = 0 → ops (CM.sign s.l) = none) : St (fun d => rowsL (one d) ops x) s x s := by
  by_cases e0 : s.e = 0
  · refine ⟨fun e => absurd e0 e, fun _ => ?_⟩
    simp only [rowsL_none (h e0)]
    exact ⟨trivial, e0, trivial, trivial⟩
  · exact St.dead e0 x
/-- one more -/
theorem St.rows_next {one : Int → P Ex} (hn : ∀ d, Ng (one d)) {ops : B → Option Int} (h0 : ops [] = none) {x y b : Ex} {s s2 s3 : PS} {op : Int} (e0 : s.e = 0) (h : ops (CM.sign s.l) = some op) (h1 : St one (skip s) y s2) (h2 : St (fun d => rowsL (one d) ops (two op x y)) s2 b s3) : St (fun d => rowsL (one d) ops x) s b s3 := by
  have k := (St.bnd (d := fun y d => rowsL (one d) ops (two op x y)) h1 h2).2 e0
  refine ⟨fun e => absurd e0 e, fun _ => ?_⟩
  simp only [rowsL_some (hn _) h0 h]
  exact k
theorem rows_L (one : P Ex) (ops : B → Option Int) (l : List Tok) : CM.rows one ops l = CM.bnd one (fun x => rowsL one ops x) l := rfl
end Rf
end Go.Proofs.YtmdnhinpaflamaaGreatDoor
