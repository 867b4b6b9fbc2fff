/- A statement that is cut off between its words. No program in sight. -/
import Derived.Test.YtmdnhinpaflamaaDoorPlC
namespace Go.Proofs.YtmdnhinpaflamaaDoor
open Go.RowKit
set_option linter.unusedVariables false
namespace CM
open LexM (Tok)
open PM (B Ex Col It St PS zeroTok wordy two un colEx opOr opAnd opSum opTerm opComp)

section
variable {e : Tok} {α β : Type} {N M : Nat} {X : List Tok}
end
end CM
end Go.Proofs.YtmdnhinpaflamaaDoor
namespace Go.Proofs.YtmdnhinpaflamaaDoor
open Go.RowKit
set_option linter.unusedVariables false
namespace CM
open LexM (Tok)
open PM (B Ex Col It St PS zeroTok wordy two un colEx opOr opAnd opSum opTerm opComp)
open Pc (Pc Line okName okText)

section
variable {α β : Type}
/-- deeper: the same, or too deep -/
def Dp (f : Int → P α) : Prop := ∀ d d' l, d ≤ d' → d' ≤ 64 → f d' l = f d l ∨ ∃ p, f d' l = .error (p, 6)
theorem dp_const (f : P α) : Dp (fun _ => f) := fun _ _ _ _ _ => .inl rfl
theorem dp_bnd {f : Int → P α} {g : α → Int → P β} (hf : Dp f) (hg : ∀ a, Dp (g a)) : Dp (fun d => bnd (f d) (fun a => g a d)) := fun d d' l h h6 => by
  rcases hf d d' l h h6 with e | ⟨p, e⟩
  · simp only [bnd]
    rw [e]
    cases f d l with
    | error x => exact .inl rfl
    | ok x => exact hg x.1 d d' x.2 h h6
  · refine .inr ⟨p, ?_⟩
    simp only [bnd]
    rw [e]
theorem dp_opt (w : B) {f g : Int → P α} (hf : Dp f) (hg : Dp g) : Dp (fun d => opt w (f d) (g d)) := fun d d' l h h6 => by
  simp only [opt]
  split
  · exact hf d d' _ h h6
  · exact hg d d' _ h h6
theorem dp_ite (p : List Tok → Prop) [DecidablePred p] {f g : Int → P α} (hf : Dp f) (hg : Dp g) : Dp (fun d l => if p l then f d l else g d l) := fun d d' l h h6 => by
  simp only []
  split
  · exact hf d d' _ h h6
  · exact hg d d' _ h h6
theorem dp_more {one : Int → P α} (h1 : Dp one) : ∀ (n : Nat) (acc : List α), Dp (fun d => more (one d) n acc)
  | 0, acc => dp_const _
  | n + 1, acc => dp_opt _ (dp_bnd h1 fun x => dp_more h1 n (acc ++ [x])) (dp_const (ret acc))
theorem dp_list {one : Int → P α} (h1 : Dp one) : Dp (fun d => list (one d)) := dp_bnd (g := fun x d l => more (one d) l.length [x] l) h1 fun x d d' l h h6 => dp_more h1 l.length [x] d d' l h h6
theorem dp_rowsF {one : Int → P Ex} (h1 : Dp one) (ops : B → Option Int) : ∀ (n : Nat) (x : Ex), Dp (fun d => rowsF (one d) ops n x)
  | 0, x => dp_const _
  | n + 1, x => fun d d' l h h6 => by
    simp only [rowsF]
    split
    · exact .inl rfl
    · exact dp_bnd h1 (fun y => dp_rowsF h1 ops n _) d d' _ h h6
theorem dp_rows {one : Int → P Ex} (h1 : Dp one) (ops : B → Option Int) : Dp (fun d => rows (one d) ops) := dp_bnd (g := fun x d l => rowsF (one d) ops l.length x l) h1 fun x d d' l h h6 => dp_rowsF h1 ops l.length x d d' l h h6
theorem dp_exprF {nt : Int → P Ex} (h : Dp nt) : Dp (fun d => exprF (nt d)) := dp_rows (dp_rows h _) _
theorem dp_sumF {u : Int → P Ex} (h : Dp u) : Dp (fun d => sumF (u d)) := dp_rows (dp_rows h _) _
theorem dp_compF {u : Int → P Ex} (h : Dp u) : Dp (fun d => compF (u d)) := by
  refine dp_bnd (g := fun x d l => match opComp (sign l) with | none => .ok (x, l) | some op => bnd (sumF (u d)) (fun y => ret (two op x y)) l.tail) (dp_sumF h) fun x d d' l h1 h6 => ?_
  simp only []
  split
  · exact .inl rfl
  · exact dp_bnd (dp_sumF h) (fun y => dp_const _) d d' _ h1 h6
theorem dp_nests (sg : B) {inn : Int → P Ex} (h : Dp inn) : Dp (nests sg inn) := fun d d' l h1 h6 => by
  unfold nests
  by_cases e : d' = 64
  · refine .inr ⟨((now l).pos : Int), ?_⟩
    rw [if_pos e]
    rfl
  · rw [if_neg e, if_neg (by omega)]
    simp only [bnd]
    cases need sg l with
    | error x => exact .inl rfl
    | ok x => exact h (d + 1) (d' + 1) x.2 (by omega) (by omega)
theorem dp_unaryF {u nt : Int → P Ex} (hu : Dp u) (hn : Dp nt) : Dp (unaryF u nt) :=
  dp_ite (fun l => is [45] l = true) (dp_nests _ (dp_bnd hu fun x => dp_const _))
    (dp_ite (fun l => is [40] l = true) (dp_nests _ (dp_bnd (dp_exprF hn) fun x => dp_const _)) (dp_const _))
theorem dp_notF {u nt : Int → P Ex} (hu : Dp u) (hn : Dp nt) : Dp (notF u nt) := dp_ite (fun l => is [110, 111, 116] l = true) (dp_nests _ (dp_bnd hn fun x => dp_const _)) (dp_compF hu)
theorem dp_lev : ∀ n, Dp (lev n).1 ∧ Dp (lev n).2
  | 0 => ⟨dp_const _, dp_const _⟩
  | n + 1 => ⟨dp_unaryF (dp_lev n).1 (dp_lev n).2, dp_notF (dp_unaryF (dp_lev n).1 (dp_lev n).2) (dp_lev n).2⟩
theorem dp_expr (n : Nat) : Dp (expr n) := dp_exprF (dp_lev n).2
theorem dp_wheres (n : Nat) : Dp (wheres n) := dp_opt _ (dp_bnd (dp_expr n) fun x => dp_const _) (dp_const _)
theorem dp_selects (n : Nat) : Dp (selects n) := dp_bnd (dp_const items) fun its => dp_bnd (dp_const _) fun _ => dp_bnd (dp_const name) fun t => dp_bnd (dp_const joins) fun j => dp_bnd (dp_wheres n) fun wh => dp_const _
theorem dp_inserts (n : Nat) : Dp (inserts n) := dp_bnd (dp_const _) fun _ => dp_bnd (dp_const name) fun t => dp_bnd (dp_const _) fun _ => dp_bnd (dp_list (dp_expr n)) fun vs => dp_const _
theorem dp_updates (n : Nat) : Dp (updates n) := dp_bnd (dp_const name) fun t => dp_bnd (dp_const _) fun _ => dp_bnd (dp_const name) fun m => dp_bnd (dp_const _) fun _ => dp_bnd (dp_expr n) fun x => dp_bnd (dp_wheres n) fun wh => dp_const _
theorem dp_deletes (n : Nat) : Dp (deletes n) := dp_bnd (dp_const _) fun _ => dp_bnd (dp_const name) fun t => dp_bnd (dp_wheres n) fun wh => dp_const _
theorem dp_writes (n : Nat) (els : P St) : Dp (fun d => writes n d els) := dp_opt _ (dp_inserts n) (dp_opt _ (dp_updates n) (dp_opt _ (dp_deletes n) (dp_const els)))
theorem dp_door (kind : Int) {inn : Int → P St} (h : Dp inn) : Dp (fun d => door kind (inn d)) := dp_bnd (dp_const name) fun m => dp_bnd (dp_const _) fun _ => dp_bnd (dp_const tags) fun ts => dp_bnd (dp_const _) fun _ => dp_bnd h fun st => dp_const _
theorem dp_create (n : Nat) : Dp (create n) := dp_opt _ (dp_const tables) (dp_opt _ (dp_const indexes) (dp_opt _ (dp_door 3 (dp_opt _ (dp_selects n) (dp_const _))) (dp_opt _ (dp_door 4 (dp_writes n _)) (dp_const _))))
theorem dp_stmt (n : Nat) : Dp (stmt n) := dp_opt _ (dp_create n) (dp_opt _ (dp_inserts n) (dp_opt _ (dp_selects n) (dp_opt _ (dp_updates n) (dp_opt _ (dp_deletes n) (dp_const rest)))))
end
/-- what is shown, however deep, is parsed as it was, or lies too deep -/
theorem parseL_deep {q : Qs} {D : Nat} (hD : 64 ≤ D) (ho : q.ok D = true) (p e : Nat) : parseL (Pc.toks p q.line ++ [⟨6, [], 0, e⟩]) = .inr q.st ∨ ∃ k, parseL (Pc.toks p q.line ++ [⟨6, [], 0, e⟩]) = .inl (k, 6) := by
  have h1 := stmt_ok (D := D) ho (Nat.le_refl _) (starts_toks q.line p [⟨6, [], 0, e⟩]) (end_tok e)
  unfold parseL
  rcases dp_stmt (Pc.toks p q.line ++ [(⟨6, [], 0, e⟩ : Tok)]).length (64 - (D : Int)) 0 (Pc.toks p q.line ++ [⟨6, [], 0, e⟩]) (by omega) (by omega) with h | ⟨k, h⟩
  · left
    rw [h, h1]
    rfl
  · right
    refine ⟨k, ?_⟩
    rw [h]
    rfl
end CM
end Go.Proofs.YtmdnhinpaflamaaDoor
namespace Go.Proofs.YtmdnhinpaflamaaDoor
open Go.RowKit
set_option linter.unusedVariables false
set_option linter.unusedSimpArgs false
namespace CM
open LexM (Tok)
open PM (B Ex Col It St PS zeroTok wordy two un colEx opOr opAnd opSum opTerm opComp)
open Pc (Pc Line okName okText render toks blanks)

end CM
end Go.Proofs.YtmdnhinpaflamaaDoor
