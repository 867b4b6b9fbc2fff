/- A reader of statements, step by step: what one step is, in words of the readers that end at the first error. No program in sight. -/
import Derived.Test.YtmdnhinpaflamaaGreatDoorPlA
import Derived.Test.YtmdnhinpaflamaaGreatDoorLex
namespace Go.Proofs.YtmdnhinpaflamaaGreatDoor
open Go.RowKit
set_option linter.unusedVariables false
set_option linter.unusedSimpArgs false
namespace Rf
open LexM (Tok)
open PM (B Ex Col It PS zeroTok wordy two un colEx opOr opAnd opSum opTerm opComp)
open CM (P)
def St {α : Type} (c : Int -> P α) (s : PS) (a : α) (s' : PS) : Prop :=
 (s.e ≠ 0 -> s'.e = s.e /\ s'.pos = s.pos /\ s'.l = s.l) /\
 (s.e = 0 -> match c s.deep s.l with | .ok (a', l') => a = a' /\ s'.e = 0 /\ s'.l = l' /\ s'.deep = s.deep | .error (q, x) => s'.e = x /\ s'.pos = q /\ x ≠ 0)
section
variable {α β : Type} {c : Int -> P α} {d : α -> Int -> P β} {s s1 s2 : PS} {a : α} {b : β}
theorem St.bnd (h : St c s a s1) (k : St (d a) s1 b s2) : St (fun dp => CM.bnd (c dp) (fun a => d a dp)) s b s2 := by
 obtain ⟨h1, h2⟩ := h
 obtain ⟨k1, k2⟩ := k
 refine ⟨fun e => ?_, fun e => ?_⟩
 ·obtain ⟨e1, e2, e3⟩ := h1 e
  obtain ⟨g1, g2, g3⟩ := k1 (by rw [e1]; exact e)
  exact ⟨g1.trans e1, g2.trans e2, g3.trans e3⟩
 ·have h2 := h2 e
  show match CM.bnd (c s.deep) (fun a => d a s.deep) s.l with | .ok (a', l') => _ | .error (q, x) => _
  unfold CM.bnd
  cases hc : c s.deep s.l with
  |error x =>
   obtain ⟨q, x⟩ := x
   rw [hc] at h2
   obtain ⟨e1, e2, e3⟩ := h2
   obtain ⟨g1, g2, g3⟩ := k1 (by rw [e1]; exact e3)
   exact ⟨g1.trans e1, g2.trans e2, e3⟩
  |ok r =>
   obtain ⟨a', l'⟩ := r
   rw [hc] at h2
   obtain ⟨rfl, e1, e2, e3⟩ := h2
   have k2 := k2 e1
   rw [e2, e3] at k2
   exact k2
theorem St.ret (a : α) (s : PS) : St (fun _ => CM.ret a) s a s := ⟨fun _ => ⟨rfl, rfl, rfl⟩, fun e => ⟨rfl, e, rfl, rfl⟩⟩
theorem St.congr {c' : Int -> P α} (h : St c s a s1) (hc : ∀ d l, c d l = c' d l) : St c' s a s1 := by
 obtain ⟨h1, h2⟩ := h
 exact ⟨h1, fun e => by rw [<- hc]; exact h2 e⟩
theorem St.dead (h : s.e ≠ 0) (a : α) : St c s a s := ⟨fun _ => ⟨rfl, rfl, rfl⟩, fun e => absurd e h⟩
theorem St.same {s' : PS} (h : s.e ≠ 0) (h1 : s'.e = s.e) (h2 : s'.pos = s.pos) (h3 : s'.l = s.l) (a : α) : St c s a s' := ⟨fun _ => ⟨h1, h2, h3⟩, fun e => absurd e h⟩
end
def now (s : PS) : Tok := CM.now s.l
def failed (x : Int) (s : PS) : PS := if s.e = 0 then { s with e := x, pos := (now s).pos } else s
theorem St.fail {α : Type} (x : Int) (hx : x ≠ 0) (a : α) (s : PS) : St (fun _ => CM.err x) s a (failed x s) := by
 unfold failed
 by_cases h : s.e = 0
 ·rw [if_pos h]
  exact ⟨fun e => absurd h e, fun _ => ⟨rfl, rfl, hx⟩⟩
 ·rw [if_neg h]
  exact St.dead h a
def taken (w : B) (s : PS) : Bool := s.e == 0 && CM.is w s.l
def skip (s : PS) : PS := { s with l := s.l.tail }
def took (w : B) (s : PS) : PS := if taken w s then skip s else s
theorem taken_pos {w : B} {s : PS} (h : taken w s = true) : s.e = 0 /\ CM.is w s.l = true := by simpa [taken] using h
theorem St.opt {α : Type} {w : B} {f g : Int -> P α} {s s1 : PS} {a : α} (h1 : taken w s = true -> St f (skip s) a s1) (h2 : taken w s = false -> St g s a s1) : St (fun d => CM.opt w (f d) (g d)) s a s1 := by
 cases ht : taken w s with
 |true =>
  obtain ⟨e0, hi⟩ := taken_pos ht
  obtain ⟨_, k⟩ := h1 ht
  refine ⟨fun e => absurd e0 e, fun _ => ?_⟩
  have := k e0
  show match (if CM.is w s.l then f s.deep s.l.tail else g s.deep s.l) with | .ok (a', l') => _ | .error (q, x) => _
  rw [if_pos hi]
  exact this
 |false =>
  have k := h2 ht
  by_cases e0 : s.e = 0
  ·have hi : ¬ CM.is w s.l = true := by
    intro hi
    simp [taken, e0, hi] at ht
   refine ⟨fun e => absurd e0 e, fun _ => ?_⟩
   show match (if CM.is w s.l then f s.deep s.l.tail else g s.deep s.l) with | .ok (a', l') => _ | .error (q, x) => _
   rw [if_neg hi]
   exact k.2 e0
  ·exact ⟨fun _ => k.1 e0, fun e => absurd e e0⟩
def musted (w : B) (s : PS) : PS := if taken w s then skip s else failed 5 s
theorem St.must (w : B) (s : PS) : St (fun _ => CM.need w) s () (musted w s) := by
 unfold musted CM.need
 refine St.opt (f := fun _ => CM.ret ()) (g := fun _ => CM.err 5) (fun h => ?_) (fun h => ?_)
 ·rw [if_pos h]; exact St.ret () _
 ·rw [h]; exact St.fail 5 (by decide) () s
def worded (k : Int) (s : PS) : PS := if s.e ≠ 0 \/ (now s).kind ≠ k then failed 5 s else skip s
theorem St.word (k : Int) (s : PS) (t : Tok) (ht : s.e = 0 -> (now s).kind = k -> t = now s) : St (fun _ => CM.word k) s t (worded k s) := by
 unfold worded
 by_cases e0 : s.e = 0
 ·by_cases hk : (now s).kind = k
  ·rw [if_neg (by rintro (h | h); exact h e0; exact h hk)]
   have hw : CM.word k s.l = .ok (CM.now s.l, s.l.tail) := by unfold CM.word; exact if_pos hk
   refine ⟨fun e => absurd e0 e, fun _ => ?_⟩
   simp only [hw]
   exact ⟨ht e0 hk, e0, rfl, rfl⟩
  ·rw [if_pos (.inr hk)]
   have hw : CM.word k s.l = .error ((CM.now s.l).pos, 5) := by unfold CM.word; exact if_neg hk
   refine ⟨fun e => absurd e0 e, fun _ => ?_⟩
   simp only [hw]
   unfold failed
   rw [if_pos e0]
   exact ⟨rfl, rfl, by decide⟩
 ·rw [if_pos (.inl e0)]
  unfold failed
  rw [if_neg e0]
  exact St.dead e0 t
def Ng {α : Type} (f : P α) : Prop := ∀ l a l', f l = .ok (a, l') -> l'.length <= l.length
section
variable {α β : Type}
theorem ng_ret (a : α) : Ng (CM.ret a) := fun l b l' h => by cases h; exact Nat.le_refl _
theorem ng_err (x : Int) : Ng (CM.err (α := α) x) := fun l b l' h => by cases h
theorem ng_bnd {f : P α} {g : α -> P β} (hf : Ng f) (hg : ∀ a, Ng (g a)) : Ng (CM.bnd f g) := fun l b l' h => by
 unfold CM.bnd at h
 cases hx : f l with
 |error e => rw [hx] at h; cases h
 |ok r =>
  obtain ⟨a, l1⟩ := r
  rw [hx] at h
  exact Nat.le_trans (hg a l1 b l' h) (hf l a l1 hx)
theorem tail_le (l : List Tok) : l.tail.length <= l.length := by simp
theorem ng_opt {w : B} {f g : P α} (hf : Ng f) (hg : Ng g) : Ng (CM.opt w f g) := fun l b l' h => by
 unfold CM.opt at h
 split at h
 ·exact Nat.le_trans (hf _ _ _ h) (tail_le l)
 ·exact hg _ _ _ h
theorem ng_ite (p : List Tok -> Prop) [DecidablePred p] {f g : P α} (hf : Ng f) (hg : Ng g) : Ng (fun l => if p l then f l else g l) := fun l b l' h => by
 have h : (if p l then f l else g l) = .ok (b, l') := h
 split at h
 ·exact hf _ _ _ h
 ·exact hg _ _ _ h
theorem ng_need (w : B) : Ng (CM.need w) := ng_opt (ng_ret ()) (ng_err 5)
theorem ng_needs : ∀ ws : List B, Ng (CM.needs ws)
 |[] => ng_ret ()
 |w :: r => ng_bnd (ng_need w) fun _ => ng_needs r
theorem ng_word (k : Int) : Ng (CM.word k) := fun l b l' h => by
 unfold CM.word at h
 split at h
 ·cases h; exact tail_le l
 ·cases h
theorem ng_name : Ng CM.name := ng_bnd (ng_word 1) fun _ => ng_ret _
theorem ng_len {f : Nat -> P α} (h : ∀ n, Ng (f n)) : Ng (fun l => f l.length l) := fun l b l' e => h _ l b l' e
theorem ng_column : Ng CM.column := ng_bnd ng_name fun _ => ng_opt (ng_bnd ng_name fun _ => ng_ret _) (ng_ret _)
theorem ng_rowsF {one : P Ex} (h : Ng one) (ops : B -> Option Int) : ∀ (n : Nat) (x : Ex), Ng (CM.rowsF one ops n x)
 |0, x => ng_ret x
 |n + 1, x => fun l b l' e => by
  unfold CM.rowsF at e
  split at e
  ·cases e; exact Nat.le_refl _
  ·exact Nat.le_trans (ng_bnd h (fun y => ng_rowsF h ops n _) _ _ _ e) (tail_le l)
theorem ng_rows {one : P Ex} (h : Ng one) (ops : B -> Option Int) : Ng (CM.rows one ops) := ng_bnd h fun x => ng_len fun n => ng_rowsF h ops n x
theorem ng_exprF {nt : P Ex} (h : Ng nt) : Ng (CM.exprF nt) := ng_rows (ng_rows h _) _
theorem ng_sumF {u : P Ex} (h : Ng u) : Ng (CM.sumF u) := ng_rows (ng_rows h _) _
theorem ng_compF {u : P Ex} (h : Ng u) : Ng (CM.compF u) := ng_bnd (ng_sumF h) fun x l b l' e => by
 change (match opComp (CM.sign l) with | none => Except.ok (x, l) | some op => CM.bnd (CM.sumF u) (fun y => CM.ret (two op x y)) l.tail) = .ok (b, l') at e
 split at e
 ·cases e; exact Nat.le_refl _
 ·exact Nat.le_trans (ng_bnd (ng_sumF h) (fun y => ng_ret _) _ _ _ e) (tail_le l)
theorem ng_nests (sg : B) {inn : Int -> P Ex} (d : Int) (h : ∀ d, Ng (inn d)) : Ng (CM.nests sg inn d) := by
 unfold CM.nests
 split
 ·exact ng_err 6
 ·exact ng_bnd (ng_need sg) fun _ => h _
theorem ng_unaryF {u nt : Int -> P Ex} (hu : ∀ d, Ng (u d)) (hn : ∀ d, Ng (nt d)) (d : Int) : Ng (CM.unaryF u nt d) :=
 ng_ite (fun l => CM.is [45] l = true) (ng_nests _ d fun d => ng_bnd (hu d) fun _ => ng_ret _) (ng_ite (fun l => CM.is [40] l = true) (ng_nests _ d fun d => ng_bnd (ng_exprF (hn d)) fun _ => ng_bnd (ng_needs _) fun _ => ng_ret _)
  (ng_ite (fun l => (CM.now l).kind = 3) (ng_bnd (ng_word 3) fun _ => ng_ret _) (ng_ite (fun l => (CM.now l).kind = 4) (ng_bnd (ng_word 4) fun _ => ng_ret _) ng_column)))
theorem ng_notF {u nt : Int -> P Ex} (hu : ∀ d, Ng (u d)) (hn : ∀ d, Ng (nt d)) (d : Int) : Ng (CM.notF u nt d) :=
 ng_ite (fun l => CM.is [110, 111, 116] l = true) (ng_nests _ d fun d => ng_bnd (hn d) fun _ => ng_ret _) (ng_compF (hu d))
theorem ng_lev : ∀ n, (∀ d, Ng ((CM.lev n).1 d)) /\ ∀ d, Ng ((CM.lev n).2 d)
 |0 => ⟨fun _ => ng_ret _, fun _ => ng_ret _⟩
 |n + 1 => ⟨ng_unaryF (ng_lev n).1 (ng_lev n).2, ng_notF (ng_unaryF (ng_lev n).1 (ng_lev n).2) (ng_lev n).2⟩
theorem ng_expr (n : Nat) (d : Int) : Ng (CM.expr n d) := ng_exprF ((ng_lev n).2 d)
end
theorem rowsF_fuel {one : P Ex} (h : Ng one) (ops : B -> Option Int) (h0 : ops [] = none) : ∀ (f g : Nat) (x : Ex) (l : List Tok), l.length <= f -> l.length <= g -> CM.rowsF one ops f x l = CM.rowsF one ops g x l
 |0, 0, _, _, _, _ => rfl
 |0, g + 1, x, l, hf, _ => by
  have hl : l = [] := List.eq_nil_of_length_eq_zero (by omega)
  subst hl
  show _ = (match ops (CM.sign []) with | none => _ | some op => _)
  rw [show CM.sign [] = [] from rfl, h0]
  rfl
 |f + 1, 0, x, l, _, hg => by
  have hl : l = [] := List.eq_nil_of_length_eq_zero (by omega)
  subst hl
  show (match ops (CM.sign []) with | none => _ | some op => _) = _
  rw [show CM.sign [] = [] from rfl, h0]
  rfl
 |f + 1, g + 1, x, l, hf, hg => by
  unfold CM.rowsF
  cases ho : ops (CM.sign l) with
  |none => rfl
  |some op =>
   have hl : l ≠ [] := fun e => by subst e; rw [show CM.sign [] = [] from rfl, h0] at ho; cases ho
   have ht : l.tail.length < l.length := by cases l with | nil => exact absurd rfl hl | cons => simp
   show CM.bnd one _ l.tail = CM.bnd one _ l.tail
   unfold CM.bnd
   cases hx : one l.tail with
   |error e => rfl
   |ok r =>
    obtain ⟨y, l1⟩ := r
    have := h _ _ _ hx
    exact rowsF_fuel h ops h0 f g (two op x y) l1 (by omega) (by omega)
def rowsL (one : P Ex) (ops : B -> Option Int) (x : Ex) : P Ex := fun l => CM.rowsF one ops l.length x l
theorem rowsL_none {one : P Ex} {ops : B -> Option Int} {x : Ex} {l : List Tok} (h : ops (CM.sign l) = none) : rowsL one ops x l = .ok (x, l) := by
 unfold rowsL
 cases l with
 |nil => rfl
 |cons t r => unfold CM.rowsF; rw [List.length_cons]; show (match ops (CM.sign (t :: r)) with | none => _ | some op => _) = _; rw [h]
theorem rowsL_some {one : P Ex} (hn : Ng one) {ops : B -> Option Int} (h0 : ops [] = none) {x : Ex} {l : List Tok} {op : Int} (h : ops (CM.sign l) = some op) : rowsL one ops x l = CM.bnd one (fun y => rowsL one ops (two op x y)) l.tail := by
 cases l with
 |nil => rw [show CM.sign [] = [] from rfl, h0] at h; cases h
 |cons t r =>
  show (match ops (CM.sign (t :: r)) with | none => Except.ok (x, t :: r) | some op => CM.bnd one (fun y => CM.rowsF one ops r.length (two op x y)) r) = CM.bnd one (fun y => rowsL one ops (two op x y)) r
  rw [h]
  show CM.bnd one (fun y => CM.rowsF one ops r.length (two op x y)) r = _
  unfold CM.bnd
  cases hx : one r with
  |error e => rfl
  |ok q =>
   obtain ⟨y, l1⟩ := q
   exact rowsF_fuel hn ops h0 _ _ _ _ (by have := hn _ _ _ hx; omega) (Nat.le_refl _)
theorem St.rows_end {one : Int -> P Ex} {ops : B -> Option Int} {x : Ex} {s : PS} (h : s.e = 0 -> ops (CM.sign s.l) = none) : St (fun d => rowsL (one d) ops x) s x s := by
 by_cases e0 : s.e = 0
 ·refine ⟨fun e => absurd e0 e, fun _ => ?_⟩
  simp only [rowsL_none (h e0)]
  exact ⟨trivial, e0, trivial, trivial⟩
 ·exact St.dead e0 x
theorem St.rows_next {one : Int -> P Ex} (hn : ∀ d, Ng (one d)) {ops : B -> Option Int} (h0 : ops [] = none) {x y b : Ex} {s s2 s3 : PS} {op : Int} (e0 : s.e = 0) (h : ops (CM.sign s.l) = some op) (h1 : St one (skip s) y s2) (h2 : St (fun d => rowsL (one d) ops (two op x y)) s2 b s3) : St (fun d => rowsL (one d) ops x) s b s3 := by
 have k := (St.bnd (d := fun y d => rowsL (one d) ops (two op x y)) h1 h2).2 e0
 refine ⟨fun e => absurd e0 e, fun _ => ?_⟩
 simp only [rowsL_some (hn _) h0 h]
 exact k
theorem rows_L (one : P Ex) (ops : B -> Option Int) (l : List Tok) : CM.rows one ops l = CM.bnd one (fun x => rowsL one ops x) l := rfl
end Rf
end Go.Proofs.YtmdnhinpaflamaaGreatDoor
namespace Go.Proofs.YtmdnhinpaflamaaGreatDoor
open Go.RowKit
set_option linter.unusedVariables false
set_option linter.unusedSimpArgs false
namespace Rf
open LexM (Tok)
open PM (B Ex Col It PS zeroTok wordy two un colEx)
structure RR (w : World) (P : Nat) (s : PS) : Prop where
 ex : ∃ (g off cap N n : Nat) (T : List Tok), Blk w P 54 [.slice (some ⟨g, off, none⟩) N cap, .int .i64 n, .int .i64 s.deep, .int .i64 s.pos, .int .i64 s.e] /\
  Row w 45 4 (.slice (some ⟨g, off, none⟩) N cap) N (Lx.toksC T) /\ T.length = N /\ n < N /\ T.drop n = s.l /\ g < P /\ N <= 1000 /\ (∀ k t, T[k]? = some t -> k + 1 = N -> t.kind = 6)
theorem RR.lt {w : World} {P : Nat} {s : PS} (h : RR w P s) : P < w.heap.size := by
 obtain ⟨g, off, cap, N, n, T, h1, _⟩ := h.ex
 exact h1.lt
theorem RR.keep {w w' : World} {P : Nat} {s : PS} {X : List (Option Nat)} (h : RR w P s) (hf : Fr X w w') (hX : ∀ g, g < w.heap.size -> some g ∉ X) : RR w' P s := by
 obtain ⟨g, off, cap, N, n, T, h1, h2, h3⟩ := h.ex
 exact ⟨g, off, cap, N, n, T, h1.keep hf (hX _ h1.lt), h2.keep hf (fun b hb => hX b (h2.block_lt hb)), h3⟩
theorem RR.keepP {w w' : World} {P : Nat} {s : PS} {X : List (Option Nat)} (h : RR w P s) (hf : Fr X w w') (hX : ∀ g, g <= P -> some g ∉ X) : RR w' P s := by
 obtain ⟨g, off, cap, N, n, T, h1, h2, h3, h4, h5, h6, h7⟩ := h.ex
 exact ⟨g, off, cap, N, n, T, h1.keep hf (hX _ (Nat.le_refl _)), h2.keep hf (fun b hb => by simp only [Value.ownBlock, Option.some.injEq] at hb; subst hb; exact hX _ (Nat.le_of_lt h6)), h3, h4, h5, h6, h7⟩
theorem RR.alloc {w : World} {P : Nat} {s : PS} (h : RR w P s) (o : Obj) : RR (w.alloc o) P s := h.keep ((Fr.refl [] w).alloc o) (by simp)
theorem RR.drew {w : World} {P : Nat} {s : PS} (h : RR w P s) : RR w.drew P s := h.keep (Fr.drew (Fr.refl [] w)) (by simp)
theorem tok_cell {T : List Tok} {n : Nat} {t : Tok} (h : T[n]? = some t) (i : Nat) (hi : i < 4) : (Lx.toksC T).getD (n * 4 + i) undef = (Lx.tokC t).getD i undef := by
 induction T generalizing n with
 |nil => simp at h
 |cons x l ih =>
  show (Lx.tokC x ++ Lx.toksC l).getD (n * 4 + i) undef = _
  cases n with
  |zero =>
   cases h
   rw [Nat.zero_mul, Nat.zero_add, List.getD_eq_getElem?_getD, List.getElem?_append_left (by show i < 4; exact hi), <- List.getD_eq_getElem?_getD]
  |succ n =>
   have := ih (by simpa using h)
   rw [List.getD_eq_getElem?_getD] at this ⊢
   rw [List.getElem?_append_right (by show 4 <= _; omega), show (n + 1) * 4 + i - (Lx.tokC x).length = n * 4 + i by show (n + 1) * 4 + i - 4 = _; omega]
   exact this
structure At (w : World) (P : Nat) (s : PS) (g off cap N n : Nat) : Prop where
 c0 : w.cell? ⟨P, 0, none⟩ = some (.slice (some ⟨g, off, none⟩) N cap)
 c1 : w.cell? ⟨P, 1, none⟩ = some (.int .i64 n)
 c2 : w.cell? ⟨P, 2, none⟩ = some (.int .i64 s.deep)
 c3 : w.cell? ⟨P, 3, none⟩ = some (.int .i64 s.pos)
 c4 : w.cell? ⟨P, 4, none⟩ = some (.int .i64 s.e)
 f0 : ∀ j, w.frozen? ⟨P, j, none⟩ = false
 t0 : w.cell? ⟨g, off + n * 4, none⟩ = some (.int .i64 (now s).kind)
 t1 : w.cell? ⟨g, off + n * 4 + 1, none⟩ = some (.string ⟨(now s).text.toArray⟩)
 t2 : w.cell? ⟨g, off + n * 4 + 2, none⟩ = some (.int .i64 (now s).int)
 t3 : w.cell? ⟨g, off + n * 4 + 3, none⟩ = some (.int .i64 (now s).pos)
 lt : P < w.heap.size
 gl : g < w.heap.size
 gP : g ≠ P
 n0 : (0 : Int) <= n
 nN : (n : Int) < N
 N1 : (N : Int) <= 1000
 cap : N <= cap
 last : n + 1 = N -> (now s).kind = 6
theorem RR.at {w : World} {P : Nat} {s : PS} (h : RR w P s) : ∃ g off cap N n, At w P s g off cap N n := by
 obtain ⟨g, off, cap, N, n, T, h1, h2, h3, h4, h5, h6, h7, h8⟩ := h.ex
 obtain ⟨t, ht⟩ : ∃ t, T[n]? = some t := ⟨T[n]'(by omega), List.getElem?_eq_getElem (by omega)⟩
 have hnow : now s = t := by
  unfold now CM.now
  rw [<- h5, List.drop_eq_getElem_cons (by omega : n < T.length)]
  exact (List.getElem?_eq_some_iff.1 ht).2
 have hlt : ∀ i, i < 4 -> n * 4 + i < (Lx.toksC T).length := fun i hi => by rw [h2.1]; omega
 have hc : ∀ i, i < 4 -> w.cell? ⟨g, off + (n * 4 + i), none⟩ = some ((Lx.tokC t).getD i undef) := fun i hi => by rw [h2.cells _ (hlt i hi), tok_cell ht i hi]
 have hcap : N <= cap := by
  rcases h2.2 with ⟨h, _⟩ | ⟨g', off', cap', cur, h, _, hc, _⟩
  ·cases h
  ·cases h; exact hc
 refine ⟨g, off, cap, N, n, h1.cell 0, h1.cell 1, h1.cell 2, h1.cell 3, h1.cell 4, h1.free, ?_, ?_, ?_, ?_, h1.lt, h2.block_lt rfl, Nat.ne_of_lt h6, by omega, by omega, by omega, hcap, by rw [hnow]; exact h8 n t ht⟩
 ·rw [hnow]; exact hc 0 (by omega)
 ·rw [hnow]; exact hc 1 (by omega)
 ·rw [hnow]; exact hc 2 (by omega)
 ·rw [hnow]; exact hc 3 (by omega)
open Px (frSet ret_cell4)
theorem RR.setE {w : World} {P : Nat} {s : PS} (h : RR w P s) (x : Int) : RR (w.setCell ⟨P, 4, none⟩ (.int .i64 x)) P { s with e := x } := by
 obtain ⟨g, off, cap, N, n, T, h1, h2, h3, h4, h5, h6, h7⟩ := h.ex
 exact ⟨g, off, cap, N, n, T, h1.set 4 _, h2.keep (frSet (P := P) _) (fun b hb => by simp only [Value.ownBlock, Option.some.injEq] at hb; simp; omega), h3, h4, h5, h6, h7⟩
theorem RR.setA {w : World} {P : Nat} {s : PS} (h : RR w P s) (x : Int) : RR (w.setCell ⟨P, 3, none⟩ (.int .i64 x)) P { s with pos := x } := by
 obtain ⟨g, off, cap, N, n, T, h1, h2, h3, h4, h5, h6, h7⟩ := h.ex
 exact ⟨g, off, cap, N, n, T, h1.set 3 _, h2.keep (frSet (P := P) _) (fun b hb => by simp only [Value.ownBlock, Option.some.injEq] at hb; simp; omega), h3, h4, h5, h6, h7⟩
theorem RR.setD {w : World} {P : Nat} {s : PS} (h : RR w P s) (x : Int) : RR (w.setCell ⟨P, 2, none⟩ (.int .i64 x)) P { s with deep := x } := by
 obtain ⟨g, off, cap, N, n, T, h1, h2, h3, h4, h5, h6, h7⟩ := h.ex
 exact ⟨g, off, cap, N, n, T, h1.set 2 _, h2.keep (frSet (P := P) _) (fun b hb => by simp only [Value.ownBlock, Option.some.injEq] at hb; simp; omega), h3, h4, h5, h6, h7⟩
theorem RR.next {w : World} {P : Nat} {s : PS} {g off cap N n : Nat} (h : RR w P s) (ha : At w P s g off cap N n) (hs : n + 1 < N) : RR (w.setCell ⟨P, 1, none⟩ (.int .i64 ((n : Int) + 1))) P (skip s) := by
 obtain ⟨g', off', cap', N', n', T, h1, h2, h3, h4, h5, h6, h7, h8⟩ := h.ex
 have e0 := (h1.cell 0).symm.trans ha.c0
 have e1 := (h1.cell 1).symm.trans ha.c1
 simp only [List.getElem?_cons_zero, List.getElem?_cons_succ, Option.some.injEq, Value.slice.injEq, Addr.mk.injEq, and_true, Value.int.injEq, true_and] at e0 e1
 obtain ⟨⟨rfl, rfl⟩, rfl, rfl⟩ := e0
 have e1 : n' = n := by omega
 subst e1
 refine ⟨g', off', cap', N', n' + 1, T, h1.set 1 _, h2.keep (frSet (P := P) _) (fun b hb => by simp only [Value.ownBlock, Option.some.injEq] at hb; simp; omega), h3, hs, ?_, h6, h7, h8⟩
 show T.drop (n' + 1) = s.l.tail
 rw [<- h5, List.tail_drop]
set_option maxRecDepth 100000 in
set_option maxHeartbeats 2000000 in
theorem now_any (P : Nat) (s : PS) (w : World) (h : RR w P s) :
  Calls Tryz.prog 22 #[.pointer (some ⟨P, 0, none⟩)] w fun e w' => e = .returned (.agg #[.int .i64 (now s).kind, .string ⟨(now s).text.toArray⟩, .int .i64 (now s).int, .int .i64 (now s).pos]) /\ Fr [] w w' := by
 obtain ⟨g, off, cap, N, n, ha⟩ := h.at
 obtain ⟨c0, c1, c2, c3, c4, f0, t0, t1, t2, t3, lt, gl, gP, n0, nN, N1, cap', last⟩ := ha
 obtain ⟨k, x, i, p, he⟩ : ∃ k x i p, (now s).kind = k /\ (now s).text = x /\ (now s).int = i /\ (now s).pos = p := ⟨_, _, _, _, rfl, rfl, rfl, rfl⟩
 obtain ⟨e0, e1, e2, e3⟩ := he
 rw [e0] at t0 ⊢
 rw [e1] at t1 ⊢
 rw [e2] at t2 ⊢
 rw [e3] at t3 ⊢
 have hnP : ¬ P = w.heap.size := by omega
 have hng : ¬ g = w.heap.size := by omega
 clear e0 e1 e2 e3 last f0 c2 c3 c4 h
 go_enter Tryz.func22, Tryz.ntmps22
 go_wp2_with fail
 go_region
 all_goals
  go_wp2_with fail
  exact bodyPost_ret (ret_cell4 rfl _ w.heap.size rfl _ _ _ _ _ (Blk.new w 45 [.int .i64 k, .string ⟨x.toArray⟩, .int .i64 i, .int .i64 p]).drew) rfl ⟨rfl, ((Fr.refl [] w).alloc _).drew⟩
set_option maxRecDepth 100000 in
set_option maxHeartbeats 2000000 in
theorem next_any (P : Nat) (s : PS) (w : World) (h : RR w P s) (hk : (now s).kind ≠ 6) :
  Calls Tryz.prog 110 #[.pointer (some ⟨P, 0, none⟩)] w fun e w' => e = .returned (.tuple #[]) /\ RR w' P (skip s) /\ Fr [some P] w w' := by
 obtain ⟨g, off, cap, N, n, ha⟩ := h.at
 have HA := Hd ha
 obtain ⟨c0, c1, c2, c3, c4, f0, t0, t1, t2, t3, lt, gl, gP, n0, nN, N1, cap', last⟩ := ha
 have hs : n + 1 < N := by
  rcases Nat.lt_or_ge (n + 1) N with h' | h'
  ·exact h'
  ·exact absurd (last (by omega)) hk
 have hsi : (n : Int) + 1 < N := by omega
 have f1 := f0 1
 have HR := Hd h
 have HS := Hd hs
 clear t0 t1 t2 t3 last f0 h hk c2 c3 c4 hs
 go_enter Tryz.func110, Tryz.ntmps110
 go_wp2_with fail
 go_region
 all_goals
  go_wp2_with fail
  go_end0
  exact ⟨rfl, HR.out.drew.next ⟨HA.out.c0, HA.out.c1, HA.out.c2, HA.out.c3, HA.out.c4, HA.out.f0, HA.out.t0, HA.out.t1, HA.out.t2, HA.out.t3, HA.out.lt, HA.out.gl, HA.out.gP, HA.out.n0, HA.out.nN, HA.out.N1, HA.out.cap, HA.out.last⟩ HS.out, ((Fr.refl [some P] w).drew).setCell (p := ⟨P, 1, none⟩) (.inl (by simp)) _⟩
theorem field_pos (a b c d : Value) (w : World) : (Instr.field 45 (.agg #[a, b, c, d]) 3).run Tryz.prog w = .ok d w := by kernel_rfl
set_option maxRecDepth 100000 in
set_option maxHeartbeats 2000000 in
theorem fail_any (P : Nat) (x : Int) (s : PS) (w : World) (h : RR w P s) :
  Calls Tryz.prog 23 #[.pointer (some ⟨P, 0, none⟩), .int .i64 x] w fun e w' => e = .returned (.tuple #[]) /\ RR w' P (failed x s) /\ Fr [some P] w w' := by
 obtain ⟨g, off, cap, N, n, ha⟩ := h.at
 have c4 := ha.c4
 have hlt := ha.lt
 have HR := Hd h
 clear ha h
 go_enter Tryz.func23, Tryz.ntmps23
 by_cases h0 : s.e = 0
 ·go_wp2_with fail
  refine (now_any P s w HR.out).mono ?_
  rintro e w1 ⟨rfl, hf⟩
  have HR1 := Hd (HR.out.keep hf (by simp))
  have HF := Hd (hf.mono (S' := [some P]) (by simp))
  obtain ⟨g, off, cap, N, n, ha⟩ := HR1.out.at
  have d3 := ha.c3
  have d4 := ha.c4
  have e3 := ha.f0 3
  have e4 := ha.f0 4
  have hl1 := ha.lt
  have hfd := fun (w : World) => field_pos (.int .i64 (now s).kind) (.string ⟨(now s).text.toArray⟩) (.int .i64 (now s).int) (.int .i64 (now s).pos) w
  clear ha hf c4
  go_wp2_with fail
  clear hfd
  go_end0
  refine ⟨rfl, ?_, (HF.out.setCell (p := ⟨P, 4, none⟩) (.inl (by simp)) _).setCell (p := ⟨P, 3, none⟩) (.inl (by simp)) _⟩
  rw [failed, if_pos h0]
  exact (HR1.out.setE x).setA (now s).pos
 ·go_wp2_with fail
  go_end0
  refine ⟨rfl, ?_, Fr.refl _ _⟩
  rw [failed, if_neg h0]
  exact HR.out
set_option maxRecDepth 100000 in
set_option maxHeartbeats 2000000 in
theorem is_any (P : Nat) (wd : B) (s : PS) (w : World) (h : RR w P s) :
  Calls Tryz.prog 62 #[.pointer (some ⟨P, 0, none⟩), .string ⟨wd.toArray⟩] w fun e w' => e = .returned (.bool (CM.is wd s.l)) /\ Fr [] w w' := by
 obtain ⟨bb, hbb⟩ : ∃ bb, CM.is wd s.l = bb := ⟨_, rfl⟩
 have HI : Hid ((((now s).kind == 2 || (now s).kind == 5) && (now s).text == wd) = bb) := Hd hbb
 rw [hbb]
 have HR := Hd h
 clear h hbb
 go_enter Tryz.func62, Tryz.ntmps62
 go_wp2_with fail
 refine (now_any P s w HR.out).mono ?_
 rintro e w1 ⟨rfl, hf⟩
 have HF := Hd (hf.alloc (.cells #[.int .i64 (now s).kind, .string ⟨(now s).text.toArray⟩, .int .i64 (now s).int, .int .i64 (now s).pos] 45))
 clear hf
 obtain ⟨k, x, i, p, he⟩ : ∃ k x i p, (now s).kind = k /\ (now s).text = x /\ (now s).int = i /\ (now s).pos = p := ⟨_, _, _, _, rfl, rfl, rfl, rfl⟩
 obtain ⟨e0, e1, e2, e3⟩ := he
 rw [e0, e1] at HI
 rw [e0, e1, e2, e3] at HF ⊢
 clear e0 e1 e2 e3
 by_cases h2 : k = 2
 ·subst h2
  go_wp2_with fail
  go_ret
  exact ⟨congrArg (fun b => Ending.returned (.bool b)) HI.out, HF.out⟩
 ·by_cases h5 : k = 5
  ·subst h5
   go_wp2_with fail
   go_ret
   exact ⟨congrArg (fun b => Ending.returned (.bool b)) HI.out, HF.out⟩
  ·have hb : bb = false := by rw [<- HI.out, show (k == 2) = false by simpa using h2, show (k == 5) = false by simpa using h5]; rfl
   subst hb
   go_wp2_with fail
   go_ret
   exact ⟨rfl, HF.out⟩
theorem is_kind {wd : B} {s : PS} (h : CM.is wd s.l = true) : (now s).kind ≠ 6 := by
 intro h6
 have : (((now s).kind == 2 || (now s).kind == 5) && (now s).text == wd) = true := h
 rw [h6] at this
 simp at this
set_option maxRecDepth 100000 in
set_option maxHeartbeats 2000000 in
theorem take_any (P : Nat) (wd : B) (s : PS) (w : World) (h : RR w P s) :
  Calls Tryz.prog 60 #[.pointer (some ⟨P, 0, none⟩), .string ⟨wd.toArray⟩] w fun e w' => e = .returned (.bool (taken wd s)) /\ RR w' P (took wd s) /\ Fr [some P] w w' := by
 obtain ⟨bb, hbb⟩ : ∃ bb, taken wd s = bb := ⟨_, rfl⟩
 have HT := Hd hbb
 rw [hbb]
 obtain ⟨g, off, cap, N, n, ha⟩ := h.at
 have c4 := ha.c4
 have hlt := ha.lt
 have HR := Hd h
 clear ha h hbb
 go_enter Tryz.func60, Tryz.ntmps60
 by_cases h0 : s.e = 0
 ·go_wp2_with fail
  refine (is_any P wd s w HR.out).mono ?_
  rintro e w1 ⟨rfl, hf⟩
  have HR1 := Hd (HR.out.keep hf (by simp))
  have HF := Hd (hf.mono (S' := [some P]) (by simp))
  clear hf c4
  have hti : taken wd s = CM.is wd s.l := by unfold taken; rw [h0]; rfl
  have HTI := Hd hti
  clear hti
  cases hi : CM.is wd s.l with
  |true =>
   have HI := Hd hi
   clear hi
   obtain rfl : bb = true := by rw [<- HT.out, HTI.out, HI.out]
   go_wp2_with fail
   refine (next_any P s w1 HR1.out (is_kind HI.out)).mono ?_
   rintro e w2 ⟨rfl, h2, hf2⟩
   have H2 := Hd h2
   have HF2 := Hd (HF.out.trans hf2)
   clear h2 hf2
   go_wp2_with fail
   go_ret
   exact ⟨rfl, by rw [took, HT.out]; exact H2.out, HF2.out⟩
  |false =>
   have HI := Hd hi
   clear hi
   obtain rfl : bb = false := by rw [<- HT.out, HTI.out, HI.out]
   go_wp2_with fail
   go_ret
   exact ⟨rfl, by rw [took, HT.out]; exact HR1.out, HF.out⟩
 ·obtain rfl : bb = false := by rw [<- HT.out]; unfold taken; rw [show (s.e == 0) = false by simpa using h0]; rfl
  go_wp2_with fail
  go_ret
  exact ⟨rfl, by rw [took, HT.out]; exact HR.out, Fr.refl _ _⟩
set_option maxRecDepth 100000 in
set_option maxHeartbeats 2000000 in
theorem must_any (P : Nat) (wd : B) (s : PS) (w : World) (h : RR w P s) :
  Calls Tryz.prog 111 #[.pointer (some ⟨P, 0, none⟩), .string ⟨wd.toArray⟩] w fun e w' => e = .returned (.tuple #[]) /\ RR w' P (musted wd s) /\ Fr [some P] w w' := by
 have HR := Hd h
 clear h
 go_enter Tryz.func111, Tryz.ntmps111
 go_wp2_with fail
 refine (take_any P wd s w HR.out).mono ?_
 rintro e w1 ⟨rfl, h1, hf1⟩
 have H1 := Hd h1
 have HF1 := Hd hf1
 clear h1 hf1
 cases ht : taken wd s with
 |true =>
  have HT := Hd ht
  clear ht
  go_wp2_with fail
  go_end0
  exact ⟨rfl, by have := H1.out; rw [took, HT.out] at this; rw [musted, HT.out]; exact this, HF1.out⟩
 |false =>
  have HT := Hd ht
  clear ht
  go_wp2_with fail
  refine (fail_any P 5 s w1 (by have := H1.out; rw [took, HT.out] at this; exact this)).mono ?_
  rintro e w2 ⟨rfl, h2, hf2⟩
  have H2 := Hd h2
  have HF2 := Hd (HF1.out.trans hf2)
  clear h2 hf2
  go_wp2_with fail
  go_end0
  exact ⟨rfl, by rw [musted, HT.out]; exact H2.out, HF2.out⟩
set_option maxRecDepth 100000 in
set_option maxHeartbeats 2000000 in
theorem name_any (P : Nat) (s : PS) (w : World) (h : RR w P s) :
  Calls Tryz.prog 65 #[.pointer (some ⟨P, 0, none⟩)] w fun e w' => ∃ nm : B, e = .returned (.string ⟨nm.toArray⟩) /\ RR w' P (worded 1 s) /\ St (fun _ => CM.name) s nm (worded 1 s) /\ Fr [some P] w w' := by
 have HST : Hid (∀ nm : B, (s.e = 0 -> (now s).kind = 1 -> nm = (now s).text) -> St (fun _ => CM.name) s nm (worded 1 s)) := Hd (fun nm hn => by
  have h1 := St.word 1 s (if s.e = 0 /\ (now s).kind = 1 then now s else ⟨0, nm, 0, 0⟩) (fun a b => if_pos ⟨a, b⟩)
  have h2 := St.bnd (d := fun t _ => CM.ret t.text) h1 (St.ret _ _)
  have e : (if s.e = 0 /\ (now s).kind = 1 then now s else ⟨0, nm, 0, 0⟩ : Tok).text = nm := by
   by_cases hc : s.e = 0 /\ (now s).kind = 1
   ·rw [if_pos hc]; exact (hn hc.1 hc.2).symm
   ·rw [if_neg hc]
  rw [e] at h2
  exact h2)
 have HR := Hd h
 clear h
 go_enter Tryz.func65, Tryz.ntmps65
 go_wp2_with fail
 refine (now_any P s w HR.out).mono ?_
 rintro e w1 ⟨rfl, hf⟩
 have hPl := HR.out.lt
 have hs1 := hf.size
 have hnP : ¬ P = w1.heap.size := by omega
 have hlP : P < w1.heap.size := by omega
 obtain ⟨g, off, cap, N, n, ha⟩ := (HR.out.keep hf (by simp)).at
 have c4 := ha.c4
 have HF0 := Hd hf
 clear hf ha
 obtain ⟨k, x, i, p, he⟩ : ∃ k x i p, (now s).kind = k /\ (now s).text = x /\ (now s).int = i /\ (now s).pos = p := ⟨_, _, _, _, rfl, rfl, rfl, rfl⟩
 obtain ⟨e0, e1, e2, e3⟩ := he
 have HK := Hd e0
 have HX := Hd e1
 rw [e0, e1, e2, e3]
 clear e0 e1 e2 e3
 have HR1 := Hd ((HR.out.keep HF0.out (by simp)).alloc (.cells #[.int .i64 k, .string ⟨x.toArray⟩, .int .i64 i, .int .i64 p] 45))
 have HF := Hd ((HF0.out.mono (S' := [some P]) (by simp)).alloc (.cells #[.int .i64 k, .string ⟨x.toArray⟩, .int .i64 i, .int .i64 p] 45))
 have HB := Hd (Blk.new w1 45 [.int .i64 k, .string ⟨x.toArray⟩, .int .i64 i, .int .i64 p])
 by_cases hg : s.e = 0 /\ k = 1
 ·obtain ⟨h0, rfl⟩ := hg
  have HE : Hid (worded 1 s = skip s) := Hd (by unfold worded; exact if_neg (by rintro (h | h); exact h h0; exact h HK.out))
  go_wp2_with fail
  refine (next_any P s _ HR1.out (by rw [HK.out]; decide)).mono ?_
  rintro e w2 ⟨rfl, h2, hf2⟩
  have H2 := Hd h2
  have HB2 := Hd (HB.out.keep hf2 (by simp; omega))
  have HF2 := Hd (HF.out.trans hf2)
  have d1 := HB2.out.cell 1
  clear h2 hf2 c4
  go_wp2_with fail
  go_ret
  exact ⟨_, rfl, by rw [HE.out]; exact H2.out, HST.out _ (fun _ _ => HX.out.symm), HF2.out⟩
 ·have HE : Hid (worded 1 s = failed 5 s) := Hd (by unfold worded; exact if_pos (by by_cases h : s.e = 0; exact .inr (fun hk => hg ⟨h, HK.out.symm.trans hk⟩); exact .inl h))
  have HG := Hd hg
  by_cases h0 : s.e = 0
  ·have h1 : ¬ k = 1 := fun hk => hg ⟨h0, hk⟩
   clear hg
   go_wp2_with fail
   refine (fail_any P 5 s _ HR1.out).mono ?_
   rintro e w2 ⟨rfl, h2, hf2⟩
   have H2 := Hd h2
   have HF2 := Hd (HF.out.trans hf2)
   clear h2 hf2 c4
   go_wp2_with fail
   go_ret
   exact ⟨[], rfl, by rw [HE.out]; exact H2.out, HST.out _ (fun a b => absurd ⟨a, HK.out.symm.trans b⟩ HG.out), HF2.out⟩
  ·clear hg
   go_wp2_with fail
   refine (fail_any P 5 s _ HR1.out).mono ?_
   rintro e w2 ⟨rfl, h2, hf2⟩
   have H2 := Hd h2
   have HF2 := Hd (HF.out.trans hf2)
   clear h2 hf2 c4
   go_wp2_with fail
   go_ret
   exact ⟨[], rfl, by rw [HE.out]; exact H2.out, HST.out _ (fun a b => absurd ⟨a, HK.out.symm.trans b⟩ HG.out), HF2.out⟩
end Rf
end Go.Proofs.YtmdnhinpaflamaaGreatDoor
namespace Go.Proofs.YtmdnhinpaflamaaGreatDoor
open Go.RowKit
set_option linter.unusedVariables false
set_option linter.unusedSimpArgs false
namespace Rf
open LexM (Tok)
open PM (B Ex Col It PS zeroTok wordy two un colEx opOr opAnd opSum opTerm opComp)
open CM (P)
structure Wd (s : PS) : Prop where
 d0 : 0 <= s.deep
 d65 : s.deep <= 65
 d64 : s.e = 0 -> s.deep <= 64
structure Dp (s s' : PS) : Prop where
 wd : Wd s'
 ge : s.deep <= s'.deep
 len : s'.l.length <= s.l.length
theorem Dp.refl {s : PS} (h : Wd s) : Dp s s := ⟨h, Int.le_refl _, Nat.le_refl _⟩
theorem Dp.trans {a b c : PS} (h : Dp a b) (k : Dp b c) : Dp a c := ⟨k.wd, Int.le_trans h.ge k.ge, Nat.le_trans k.len h.len⟩
theorem Dp.skip {s : PS} (h : Wd s) : Dp s (skip s) := ⟨⟨h.d0, h.d65, h.d64⟩, Int.le_refl _, tail_le _⟩
theorem Dp.failed {s : PS} (h : Wd s) (x : Int) : Dp s (failed x s) := by
 unfold Rf.failed
 split
 ·rename_i h0
  exact ⟨⟨h.d0, h.d65, fun _ => h.d64 h0⟩, Int.le_refl _, Nat.le_refl _⟩
 ·exact Dp.refl h
theorem Dp.took {s : PS} (h : Wd s) (w : B) : Dp s (took w s) := by
 unfold Rf.took
 split
 ·exact Dp.skip h
 ·exact Dp.refl h
theorem Dp.musted {s : PS} (h : Wd s) (w : B) : Dp s (musted w s) := by
 unfold Rf.musted
 split
 ·exact Dp.skip h
 ·exact Dp.failed h _
theorem Dp.worded {s : PS} (h : Wd s) (k : Int) : Dp s (worded k s) := by
 unfold Rf.worded
 split
 ·exact Dp.failed h _
 ·exact Dp.skip h
theorem skip_lt {s : PS} {w : B} (h : taken w s = true) : (Rf.skip s).l.length < s.l.length := by
 obtain ⟨_, hi⟩ := taken_pos h
 show s.l.tail.length < s.l.length
 cases hl : s.l with
 |nil => rw [hl] at hi; exact absurd hi (by simp [CM.is, CM.now, wordy, zeroTok])
 |cons => simp
section
variable {α : Type}
theorem comma_nil (w : B) : CM.is w [] = false := by simp [CM.is, CM.now, wordy, zeroTok]
theorem more_fuel {one : P α} (h : Ng one) : ∀ (f g : Nat) (acc : List α) (l : List Tok), l.length <= f -> l.length <= g -> CM.more one f acc l = CM.more one g acc l
 |0, 0, _, _, _, _ => rfl
 |0, g + 1, acc, l, hf, _ => by
  have hl : l = [] := List.eq_nil_of_length_eq_zero (by omega)
  subst hl
  show CM.ret acc [] = (if CM.is [44] [] = true then CM.bnd one (fun x => CM.more one g (acc ++ [x])) [] else CM.ret acc [])
  rw [if_neg (by rw [comma_nil]; decide)]
 |f + 1, 0, acc, l, _, hg => by
  have hl : l = [] := List.eq_nil_of_length_eq_zero (by omega)
  subst hl
  show (if CM.is [44] [] = true then CM.bnd one (fun x => CM.more one f (acc ++ [x])) [] else CM.ret acc []) = CM.ret acc []
  rw [if_neg (by rw [comma_nil]; decide)]
 |f + 1, g + 1, acc, l, hf, hg => by
  show (if CM.is [44] l = true then CM.bnd one _ l.tail else CM.ret acc l) = (if CM.is [44] l = true then CM.bnd one _ l.tail else CM.ret acc l)
  by_cases hi : CM.is [44] l = true
  ·rw [if_pos hi, if_pos hi]
   have ht : l.tail.length < l.length := by
    cases l with
    |nil => rw [comma_nil] at hi; cases hi
    |cons => simp
   unfold CM.bnd
   cases hx : one l.tail with
   |error e => rfl
   |ok r =>
    obtain ⟨y, l1⟩ := r
    have := h _ _ _ hx
    exact more_fuel h f g (acc ++ [y]) l1 (by omega) (by omega)
  ·rw [if_neg hi, if_neg hi]
def moreL (one : P α) (acc : List α) : P (List α) := fun l => CM.more one l.length acc l
theorem moreL_none {one : P α} {acc : List α} {l : List Tok} (h : CM.is [44] l = false) : moreL one acc l = .ok (acc, l) := by
 unfold moreL
 cases l with
 |nil => rfl
 |cons t r =>
  show (if CM.is [44] (t :: r) = true then _ else CM.ret acc (t :: r)) = _
  rw [if_neg (by rw [h]; decide)]
  rfl
theorem moreL_some {one : P α} (hn : Ng one) {acc : List α} {l : List Tok} (h : CM.is [44] l = true) : moreL one acc l = CM.bnd one (fun x => moreL one (acc ++ [x])) l.tail := by
 cases l with
 |nil => rw [comma_nil] at h; cases h
 |cons t r =>
  show (if CM.is [44] (t :: r) = true then CM.bnd one (fun x => CM.more one r.length (acc ++ [x])) r else CM.ret acc (t :: r)) = CM.bnd one (fun x => moreL one (acc ++ [x])) r
  rw [if_pos h]
  unfold CM.bnd
  cases hx : one r with
  |error e => rfl
  |ok q =>
   obtain ⟨y, l1⟩ := q
   exact more_fuel hn _ _ _ _ (by have := hn _ _ _ hx; omega) (Nat.le_refl _)
theorem St.more_end {one : Int -> P α} {acc : List α} {s : PS} (h : taken [44] s = false) : St (fun d => moreL (one d) acc) s acc s := by
 by_cases e0 : s.e = 0
 ·refine ⟨fun e => absurd e0 e, fun _ => ?_⟩
  have hi : CM.is [44] s.l = false := by
   unfold taken at h
   rw [e0] at h
   simpa using h
  simp only [moreL_none hi]
  exact ⟨trivial, e0, trivial, trivial⟩
 ·exact St.dead e0 acc
theorem St.more_next {one : Int -> P α} (hn : ∀ d, Ng (one d)) {acc b : List α} {x : α} {s s2 s3 : PS} (ht : taken [44] s = true) (h1 : St one (Rf.skip s) x s2) (h2 : St (fun d => moreL (one d) (acc ++ [x])) s2 b s3) : St (fun d => moreL (one d) acc) s b s3 := by
 obtain ⟨e0, hi⟩ := taken_pos ht
 have k := (St.bnd (d := fun x d => moreL (one d) (acc ++ [x])) h1 h2).2 e0
 refine ⟨fun e => absurd e0 e, fun _ => ?_⟩
 simp only [moreL_some (hn _) hi]
 exact k
theorem list_L (one : P α) : CM.list one = CM.bnd one (fun x => moreL one [x]) := rfl
end
def downed (s : PS) : PS := if s.deep = 64 then failed 6 { s with deep := s.deep + 1 } else { s with deep := s.deep + 1 }
def undeep (s : PS) : PS := { s with deep := s.deep - 1 }
theorem downed_dp {s : PS} (h : Wd s) (h0 : s.e = 0) : Dp s (downed s) := by
 have h1 := h.d0
 have h2 := h.d64 h0
 unfold downed failed
 split
 ·exact ⟨⟨by show 0 <= s.deep + 1; omega, by show s.deep + 1 <= 65; omega, fun e => by cases e⟩, by show s.deep <= s.deep + 1; omega, Nat.le_refl _⟩
 ·exact ⟨⟨by show 0 <= s.deep + 1; omega, by show s.deep + 1 <= 65; omega, fun e => by show s.deep + 1 <= 64; omega⟩, by show s.deep <= s.deep + 1; omega, Nat.le_refl _⟩
theorem nests_eq (sg : B) (inn : Int -> P Ex) : CM.nests sg inn = fun d => if d = 64 then CM.err 6 else CM.bnd (CM.need sg) fun _ => inn (d + 1) := rfl
theorem St.deep_fail {sg : B} {inn : Int -> P Ex} {s : PS} (h0 : s.e = 0) (hd : s.deep = 64) (a : Ex) : St (CM.nests sg inn) s a (downed s) := by
 rw [nests_eq]
 refine ⟨fun e => absurd h0 e, fun _ => ?_⟩
 unfold downed failed
 rw [if_pos hd, if_pos (show ({ s with deep := s.deep + 1 } : PS).e = 0 from h0)]
 simp only [hd, if_true]
 exact ⟨rfl, rfl, by decide⟩
theorem St.deep_ok {sg : B} {inn : Int -> P Ex} {s s2 : PS} {a : Ex} (h0 : s.e = 0) (hd : s.deep ≠ 64) (hi : CM.is sg s.l = true) (h : St inn (Rf.skip (downed s)) a s2) : St (CM.nests sg inn) s a (undeep s2) := by
 rw [nests_eq]
 refine ⟨fun e => absurd h0 e, fun _ => ?_⟩
 have hds : downed s = { s with deep := s.deep + 1 } := by unfold downed; rw [if_neg hd]
 have hn : CM.need sg s.l = .ok ((), s.l.tail) := by
  unfold CM.need CM.opt
  rw [if_pos hi]
  rfl
 have k := h.2 (by rw [hds]; exact h0)
 rw [hds] at k
 have hx0 : inn (Rf.skip ({ s with deep := s.deep + 1 } : PS)).deep (Rf.skip ({ s with deep := s.deep + 1 } : PS)).l = inn (s.deep + 1) s.l.tail := rfl
 rw [hx0] at k
 simp only [if_neg hd]
 have hb : CM.bnd (CM.need sg) (fun _ => inn (s.deep + 1)) s.l = inn (s.deep + 1) s.l.tail := by unfold CM.bnd; rw [hn]
 rw [hb]
 cases hx : inn (s.deep + 1) s.l.tail with
 |error e =>
  obtain ⟨q, x⟩ := e
  rw [hx] at k
  exact k
 |ok r =>
  obtain ⟨a', l'⟩ := r
  rw [hx] at k
  have k4 : s2.deep = s.deep + 1 := k.2.2.2
  exact ⟨k.1, k.2.1, k.2.2.1, by show s2.deep - 1 = s.deep; omega⟩
theorem undeep_dp {s s2 : PS} (h : Wd s) (h0 : s.e = 0) (hd : s.deep ≠ 64) (k : Dp (Rf.skip (downed s)) s2) : Dp s (undeep s2) := by
 have hds : downed s = { s with deep := s.deep + 1 } := by unfold downed; rw [if_neg hd]
 rw [hds] at k
 have h1 := h.d0
 have k1 : s.deep + 1 <= s2.deep := k.ge
 have k2 := k.wd.d65
 have k3 : s2.l.length <= s.l.tail.length := k.len
 exact ⟨⟨by show 0 <= s2.deep - 1; omega, by show s2.deep - 1 <= 65; omega, fun e => by have := k.wd.d64 e; show s2.deep - 1 <= 64; omega⟩, by show s.deep <= s2.deep - 1; omega, Nat.le_trans k3 (tail_le _)⟩
theorem St.map {α β : Type} {c : Int -> P α} {s s1 : PS} {a : α} (f : α -> β) (h : St c s a s1) : St (fun d => CM.bnd (c d) fun a => CM.ret (f a)) s (f a) s1 := St.bnd (d := fun a _ => CM.ret (f a)) h (St.ret _ _)
theorem St.needs1 (w : B) (s : PS) : St (fun _ => CM.needs [w]) s () (musted w s) := St.bnd (d := fun _ _ => CM.ret ()) (St.must w s) (St.ret () _)
end Rf
end Go.Proofs.YtmdnhinpaflamaaGreatDoor
namespace Go.Proofs.YtmdnhinpaflamaaGreatDoor
open Go.RowKit
set_option linter.unusedVariables false
set_option linter.unusedSimpArgs false
namespace Rf
open LexM (Tok)
open PM (B Ex Col It PS zeroTok wordy two un colEx)
open Px (frSet ret_cell7 blkPut7 frPut7 c7_of colCells col_rep z7)
theorem es_mk {A : Nat -> Prop} {w : World} {l : List Ex} {cs : List Value} (hL : Rep.L 82 A w l cs) (hn : A w.heap.size) (hm : l.length <= maxLen) :
  Rep.Es 82 A (w.alloc (.cells cs.toArray 82)) l (.slice (some ⟨w.heap.size, 0, none⟩) l.length l.length) := by
 have hb := Blk.new w 82 cs
 refine .mk _ _ cs (hL.keep ((Fr.refl [] w).alloc _) (by simp)) ⟨hL.length, .inr ⟨w.heap.size, 0, l.length, cs, rfl, hb, Nat.le_refl _, hm, by rw [hL.length]; omega, ?_⟩⟩ (fun g hg => by simp only [Value.ownBlock, Option.some.injEq] at hg; subst hg; exact hn)
 rw [List.drop_zero, List.take_of_length_le (by rw [hL.length]; omega)]
theorem e_cells {A : Nat -> Prop} {w : World} {x : Ex} {cs : List Value} (h : Rep.E 82 A w x cs) : ∃ (op kind int : Int) (text table name : B) (args : List Ex) (a : Option Addr) (n c : Nat),
  x = .mk op kind int text table name args /\ cs = [.int .i64 op, .int .i64 kind, .int .i64 int, .string ⟨text.toArray⟩, .string ⟨table.toArray⟩, .string ⟨name.toArray⟩, .slice a n c] /\ Rep.Es 82 A w args (.slice a n c) := by
 cases h with
 |mk op kind int text table name args v h =>
  cases h with
  |mk _ _ xs hl hr hb =>
   rcases hr.form with ⟨rfl, h1, h2⟩ | ⟨g, off, cap, rfl, h1⟩
   ·exact ⟨op, kind, int, text, table, name, args, none, 0, 0, rfl, rfl, .mk _ _ xs hl hr hb⟩
   ·exact ⟨op, kind, int, text, table, name, args, _, _, _, rfl, rfl, .mk _ _ xs hl hr hb⟩
def ExO (c : Int -> CM.P Ex) (P : Nat) (s : PS) (w : World) (e : Ending) (w' : World) : Prop :=
 ∃ (x : Ex) (s' : PS) (cs : List Value), e = .returned (.agg cs.toArray) /\ Rep.E 82 (fun b => w.heap.size <= b) w' x cs /\ RR w' P s' /\ St c s x s' /\ Dp s s' /\ Fr [some P] w w'
set_option maxRecDepth 100000 in
set_option maxHeartbeats 2000000 in
theorem down_any (P : Nat) (s : PS) (w : World) (h : RR w P s) (hw : Wd s) (h0 : s.e = 0) :
  Calls Tryz.prog 164 #[.pointer (some ⟨P, 0, none⟩)] w fun e w' => e = .returned (.bool (decide (s.deep ≠ 64))) /\ RR w' P (downed s) /\ Fr [some P] w w' := by
 obtain ⟨g, off, cap, N, n, ha⟩ := h.at
 have c2 := ha.c2
 have c4 := ha.c4
 have f2 := ha.f0 2
 have hlt := ha.lt
 have hd0 := hw.d0
 have hd64 := hw.d64 h0
 have HR0 := Hd h
 have HR := Hd (h.setD (s.deep + 1))
 have HF := Hd ((Fr.refl [some P] w).setCell (p := ⟨P, 2, none⟩) (.inl (by simp)) (.int .i64 (s.deep + 1)))
 clear ha h hw
 go_enter Tryz.func164, Tryz.ntmps164
 by_cases h64 : s.deep = 64
 ·have HR := Hd (HR0.out.setD 65)
  have HF := Hd ((Fr.refl [some P] w).setCell (p := ⟨P, 2, none⟩) (.inl (by simp)) (.int .i64 65))
  have HD : Hid (downed s = failed 6 { s with deep := 65 }) := Hd (by unfold downed; rw [if_pos h64, h64]; rfl)
  have hdd : decide (s.deep ≠ 64) = false := by simp [h64]
  rw [hdd]
  clear hdd
  go_wp2_with fail
  refine (fail_any P 6 { s with deep := 65 } _ HR.out).mono ?_
  rintro e w1 ⟨rfl, h1, hf1⟩
  have hx : (failed 6 { s with deep := 65 }).e = 6 := by unfold failed; rw [if_pos (show ({ s with deep := 65 } : PS).e = 0 from h0)]
  obtain ⟨g, off, cap, N, n, ha⟩ := h1.at
  have d4 := ha.c4
  rw [hx] at d4
  have hl1 := ha.lt
  have H1 := Hd h1
  have HF1 := Hd (HF.out.trans hf1)
  clear ha h1 hf1 c2 c4 f2 hx
  go_wp2_with fail
  go_ret
  exact ⟨rfl, by rw [HD.out]; exact H1.out, HF1.out⟩
 ·have HD : Hid (downed s = { s with deep := s.deep + 1 }) := Hd (by unfold downed; rw [if_neg h64])
  have hdd : decide (s.deep ≠ 64) = true := by simp [h64]
  have hle : s.deep + 1 <= 64 := by omega
  rw [hdd]
  clear hdd
  rw [h0] at c4
  go_wp2_with fail
  go_ret
  exact ⟨rfl, by rw [HD.out]; exact HR.out, HF.out⟩
set_option maxRecDepth 100000 in
set_option maxHeartbeats 2000000 in
theorem two_any (op : Int) (a b : Ex) (ca cb : List Value) (w : World) (A : Nat -> Prop) (ha : Rep.E 82 A w a ca) (hb : Rep.E 82 A w b cb) :
  Calls Tryz.prog 137 #[.int .i64 op, .agg ca.toArray, .agg cb.toArray] w fun e w' => ∃ cs : List Value, e = .returned (.agg cs.toArray) /\ Rep.E 82 (fun g => A g \/ w.heap.size <= g) w' (PM.two op a b) cs /\ Fr [] w w' := by
 have HA := Hd ha
 have HBB := Hd hb
 obtain ⟨op1, kind1, int1, t1, tb1, n1, l1, a1, m1, c1, rfl, rfl, h1⟩ := e_cells ha
 obtain ⟨op2, kind2, int2, t2, tb2, n2, l2, a2, m2, c2, rfl, rfl, h2⟩ := e_cells hb
 clear ha hb h1 h2
 go_enter Tryz.func137, Tryz.ntmps137
 go_wp2_with fail
 have HW : Hid (Fr [] w (((w.alloc (.cells #[.int .i64 op1, .int .i64 kind1, .int .i64 int1, .string ⟨t1.toArray⟩, .string ⟨tb1.toArray⟩, .string ⟨n1.toArray⟩, .slice a1 m1 c1] 82)).alloc (.cells #[.int .i64 op2, .int .i64 kind2, .int .i64 int2, .string ⟨t2.toArray⟩, .string ⟨tb2.toArray⟩, .string ⟨n2.toArray⟩, .slice a2 m2 c2] 82)).alloc (.cells #[.int .i64 op, .int .i64 0, .int .i64 0, .string ⟨#[]⟩, .string ⟨#[]⟩, .string ⟨#[]⟩, .slice (some ⟨w.heap.size + 1 + 1 + 1, 0, none⟩) 2 2] 82))) := Hd ((((Fr.refl [] w).alloc _).alloc _).alloc _)
 have hb := Blk.new ((w.alloc (.cells #[.int .i64 op1, .int .i64 kind1, .int .i64 int1, .string ⟨t1.toArray⟩, .string ⟨tb1.toArray⟩, .string ⟨n1.toArray⟩, .slice a1 m1 c1] 82)).alloc (.cells #[.int .i64 op2, .int .i64 kind2, .int .i64 int2, .string ⟨t2.toArray⟩, .string ⟨tb2.toArray⟩, .string ⟨n2.toArray⟩, .slice a2 m2 c2] 82)) 82 [.int .i64 op, .int .i64 0, .int .i64 0, .string ⟨#[]⟩, .string ⟨#[]⟩, .string ⟨#[]⟩, .slice (some ⟨w.heap.size + 1 + 1 + 1, 0, none⟩) 2 2]
 rw [World.size_alloc, World.size_alloc] at hb
 refine bodyPost_ret (ret_cell7 rfl _ (w.heap.size + 1 + 1) rfl _ _ _ _ _ _ _ _ (hb.alloc _)) rfl ⟨_, rfl, ?_, HW.out.alloc _⟩
 have hL : Rep.L 82 (fun g => A g \/ w.heap.size <= g) _ [_, _] _ := .cons _ _ _ _ (Rep.E.mono (fun g h => .inl h) (Rep.E.keep HW.out (by simp) HA.out)) (.cons _ _ _ _ (Rep.E.mono (fun g h => .inl h) (Rep.E.keep HW.out (by simp) HBB.out)) .nil)
 have hes := es_mk hL (.inr (by simp; omega)) (by simp [maxLen])
 exact .mk op 0 0 [] [] [] _ _ (by simpa using hes)
set_option maxRecDepth 100000 in
set_option maxHeartbeats 2000000 in
theorem column_any (P : Nat) (s : PS) (w : World) (h : RR w P s) (hw : Wd s) :
  Calls Tryz.prog 114 #[.pointer (some ⟨P, 0, none⟩)] w (ExO (fun _ => CM.column) P s w) := by
 have hPl := h.lt
 have HR := Hd h
 have HW := Hd hw
 clear h hw
 go_enter Tryz.func114, Tryz.ntmps114
 go_wp2_with fail
 refine (name_any P s _ (HR.out.alloc _)).mono ?_
 rintro e w1 ⟨n, rfl, h1, hst, hf1⟩
 have HB1 := Hd ((Blk.new w 82 z7).keep hf1 (by simp; omega))
 have HF1 : Hid (Fr [some P] w w1) := ((Fr.refl [some P] w).alloc _).trans hf1
 have H1 := Hd h1
 have HST := Hd hst
 have HD1 := Hd (Dp.worded HW.out 1)
 have hl1 := h1.lt
 have hl2 := HB1.out.lt
 obtain ⟨s1, hs1⟩ : ∃ z, worded 1 s = z := ⟨_, rfl⟩
 rw [hs1] at H1 HST HD1
 clear h1 hf1 hst hs1
 go_wp2_with fail
 refine (take_any P [46] s1 _ (H1.out.alloc _)).mono ?_
 rintro e w2 ⟨rfl, h2, hf2⟩
 have HX2 := Hd ((Blk.new w1 82 (colCells [] n)).keep hf2 (by simp; omega))
 have HB2 := Hd ((Blk.alloc HB1.out _).keep hf2 (by simp; omega))
 have HF2 : Hid (Fr [some P] w w2) := (HF1.out.alloc _).trans hf2
 have H2 := Hd h2
 have hs1 := hf2.size
 have hl3 := HX2.out.lt
 have hl4 := HB2.out.lt
 have hl5 := h2.lt
 clear h2 hf2
 have hne1 : ¬ w1.heap.size = w.heap.size := by omega
 have hne2 : ¬ w.heap.size = w1.heap.size := by omega
 obtain ⟨x0, x1, x2, x3, x4, x5, x6, g0, g1, g2, g3, g4, g5, g6⟩ := c7_of HX2.out
 obtain ⟨y0, y1, y2, y3, y4, y5, y6, k0, k1, k2, k3, k4, k5, k6⟩ := c7_of HB2.out
 cases hi : taken [46] s1
 ·have HI := Hd hi
  have e1 : took [46] s1 = s1 := by rw [took, hi]; rfl
  rw [e1] at H2
  have HS : Hid (St (fun _ => CM.column) s (colEx [] n) s1) := Hd (St.bnd HST.out (St.opt (fun h => absurd h (by rw [HI.out]; decide)) (fun _ => St.ret _ _)))
  clear hi e1
  go_wp2_with fail
  refine bodyPost_ret (ret_cell7 rfl _ w.heap.size rfl _ _ _ _ _ _ _ _ (blkPut7 HB2.out rfl _ _ _ _ _ _ _)) rfl ⟨colEx [] n, s1, colCells [] n, rfl, col_rep _ _ [] n, H2.out.keepP (frPut7 (Fr.refl [some w.heap.size] _) (.inl (by simp)) _ _ _ _ _ _ _) (fun g hg => by simp; omega), HS.out, HD1.out, frPut7 HF2.out (.inr (Nat.le_refl _)) _ _ _ _ _ _ _⟩
 ·have HI := Hd hi
  have e1 : took [46] s1 = skip s1 := by rw [took, hi]; rfl
  rw [e1] at H2
  have H2D : Hid (RR w2.drew P (skip s1)) := H2.out.drew
  have HX2D : Hid (Blk w2.drew w1.heap.size 82 (colCells [] n)) := HX2.out
  have HB2D : Hid (Blk w2.drew w.heap.size 82 z7) := HB2.out
  have HF2D : Hid (Fr [some P] w w2.drew) := HF2.out.drew
  have HLS : Hid (P < w1.heap.size /\ P < w.heap.size /\ w.heap.size < w1.heap.size) := ⟨by omega, by omega, by omega⟩
  clear e1 hi y0 y1 y2 y3 y4 y5 y6 k0 k1 k2 k3 k4 k5 k6
  go_wp2_with fail
  go_region_with (
   go_at_call 65
   refine (name_any P (skip s1) _ ?_).mono ?_
   exact H2D.out
   rintro e w3 ⟨m, rfl, h3, hst3, hf3⟩
   have H3 := Hd h3
   have HST3 := Hd hst3
   have HF3 := Hd (HF2D.out.trans hf3)
   have HX3 := Hd (HX2D.out.keep hf3 (by simp; have := HLS.out; omega))
   have HB3 := Hd (HB2D.out.keep hf3 (by simp; have := HLS.out; omega))
   obtain ⟨v0, v1, v2, v3, v4, v5, v6, r0, r1, r2, r3, r4, r5, r6⟩ := c7_of HX3.out
   clear h3 hst3 hf3)
  all_goals
   have hls := HLS.out
   have hs3 := HF3.out.size
   have hl6 := HX3.out.lt
   have hl7 := HB3.out.lt
   obtain ⟨y0, y1, y2, y3, y4, y5, y6, k0, k1, k2, k3, k4, k5, k6⟩ := c7_of HB3.out
   have hp1 : ¬ P = w1.heap.size := by omega
   have hp2 : ¬ P = w.heap.size := by omega
   have HD3 : Hid (Dp s (worded 1 (skip s1))) := Hd (HD1.out.trans ((Dp.skip HD1.out.wd).trans (Dp.worded (Dp.skip HD1.out.wd).wd 1)))
   have HS : Hid (St (fun _ => CM.column) s (colEx n m) (worded 1 (skip s1))) := Hd (St.bnd HST.out (St.opt (fun _ => St.bnd HST3.out (St.ret _ _)) (fun h => absurd h (by rw [HI.out]; decide))))
   go_wp2_with fail
   refine bodyPost_ret (ret_cell7 rfl _ w.heap.size rfl _ _ _ _ _ _ _ _ (blkPut7 ((HB3.out.keep (frSet (P := w1.heap.size) _) (by simp; omega)).keep (frSet (P := w1.heap.size) _) (by simp; omega)) rfl _ _ _ _ _ _ _)) rfl ⟨colEx n m, worded 1 (skip s1), colCells n m, rfl, col_rep _ _ n m, ?_, HS.out, HD3.out, ?_⟩
   ·refine ((H3.out.keepP (frSet (P := w1.heap.size) _) (fun g hg => by simp; omega)).keepP (frSet (P := w1.heap.size) _) (fun g hg => by simp; omega)).keepP (frPut7 (Fr.refl [some w.heap.size] _) (.inl (by simp)) _ _ _ _ _ _ _) (fun g hg => by simp; omega)
   ·exact frPut7 ((HF3.out.trans' (frSet (P := w1.heap.size) _) (fun i hi => .inr (by simp at hi; omega))).trans' (frSet (P := w1.heap.size) _) (fun i hi => .inr (by simp at hi; omega))) (.inr (Nat.le_refl _)) _ _ _ _ _ _ _
end Rf
end Go.Proofs.YtmdnhinpaflamaaGreatDoor
