/- Steps for XSeq's walk in the order of the text: a held operation by the kit's quiet step. Over any program. -/
import Derived.Test.YtpmgecnkcllneaaDoorSeq
import Derived.BigQuiet
namespace Go.Proofs.YtpmgecnkcllneaaDoor.Seq
open Go

section
variable {P : Program} {ops : Array Oper} {Inv : World → Prop} {Q : Exit → Act → World → Prop} {held : Nat → Bool} {k : Nat} {o : Oper} {l : List Oper} {a : Act} {w : World}

theorem upon_value {s : Sem Value} {C : World → Prop} {v : Value} (h : Oper.quietUpon P C w v ((do pure (Next.value (← s)) : Sem Next).run P w)) : (do pure (Next.value (← s)) : Sem Next).run P w = .ok (.value v) w := by
  rw [Sem.run_bind] at *
  cases hs : s.run P w with
  | ok x w' =>
    rw [hs] at h
    simp only [Result.andThen_ok, Sem.run_pure, Oper.quietUpon] at h ⊢
    obtain ⟨rfl, rfl⟩ := h
    rfl
  | halt x w' =>
    rw [hs] at h
    cases x <;> simp only [Result.andThen, Oper.quietUpon] at h
/-- operations that yield a value and enter nothing -/
def plainOp : Op → Bool
  | .move _ | .assign _ | .binOp .. | .unOp .. | .load .. | .fieldAddr .. | .indexAddr .. | .index .. | .convert .. | .extract .. | .slice .. => true
  | _ => false
theorem run_of_quiet {C : World → Prop} {v : Value} (h : o.quietAt P a C w v) (hp : plainOp o.op = true) : (execOp a.eval o).run P w = .ok (.value v) w := by
  unfold Oper.quietAt at h
  obtain ⟨dst, op, type, pos, after, guard⟩ := o
  cases op <;> simp only [plainOp, Bool.false_eq_true] at hp
  case move x => simpa [execOp, Oper.quietUpon, Sem.run_pure] using h.symm
  case assign x => simpa [execOp, Oper.quietUpon, Sem.run_pure] using h.symm
  all_goals exact upon_value h
theorem wpL_quiet (hk : held k = true) (hw : Region.wanted o (yielded ops a.tmps) = true) (hp : plainOp o.op = true)
    (h : ∀ K : Act → Prop, (∀ a', wpL P ops Inv Q held (k + 1) l a' w → K a') → o.quiet P a Inv K) : wpL P ops Inv Q held k (o :: l) a w := by
  obtain ⟨v, h1, h2⟩ := h _ (fun _ hh => hh)
  exact wpL_held hk hw (fun w' hI => run_of_quiet (h1 w' hI) hp) h2
theorem wpL_val {v : Value} {w' : World} (hk : held k = false) (hw : Region.wanted o (yielded ops a.tmps) = true) (he : (execOp a.eval o).run P w = .ok (.value v) w') (hI : Inv w')
    (h : wpL P ops Inv Q held (k + 1) l (a.put o.dst v) w') : wpL P ops Inv Q held k (o :: l) a w := by
  refine wpL_act hk hw fun K hK => ?_
  unfold Oper.wp
  rw [he]
  exact hK _ _ hI h
end
end Go.Proofs.YtpmgecnkcllneaaDoor.Seq
