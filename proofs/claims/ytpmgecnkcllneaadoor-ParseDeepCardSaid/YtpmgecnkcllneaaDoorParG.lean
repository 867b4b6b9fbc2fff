/- parse: what the model's readers leave: as deep, no more words. No program in sight. -/
import Derived.Test.YtpmgecnkcllneaaDoorParseM
namespace Go.Proofs.YtpmgecnkcllneaaDoor

namespace PM
/-- as deep as before, no more words than before -/
def Good {α : Type} (f : PS → α × PS) : Prop := ∀ s, (f s).2.deep = s.deep ∧ (f s).2.l.length ≤ s.l.length
def Calm (f : PS → PS) : Prop := ∀ s, (f s).deep = s.deep ∧ (f s).l.length ≤ s.l.length
theorem calm_fails (x : Int) : Calm (fails x) := fun s => by unfold fails; split <;> exact ⟨rfl, Nat.le_refl _⟩
theorem calm_skip : Calm skip := fun s => ⟨rfl, by simp [skip]⟩
theorem calm_need (w : B) : Calm (need w) := fun s => by
  unfold need
  split
  · exact calm_skip s
  · exact calm_fails 5 s
theorem calm_needs (l : List B) : Calm (needs l) := by
  induction l with
  | nil => exact fun s => ⟨rfl, Nat.le_refl _⟩
  | cons a r ih =>
    intro s
    rw [needs]
    have h1 := calm_need a s
    have h2 := ih (need a s)
    exact ⟨h2.1.trans h1.1, Nat.le_trans h2.2 h1.2⟩
theorem good_word (k : Int) : Good (word k) := fun s => by
  unfold word
  split
  · exact calm_fails 5 s
  · exact calm_skip s
theorem good_name : Good name := fun s => good_word 1 s
theorem good_tag : Good tag := fun s => by
  unfold tag
  split
  · have h1 := calm_fails 3 s
    have h2 := good_word 3 (fails 3 s)
    exact ⟨h2.1.trans h1.1, Nat.le_trans h2.2 h1.2⟩
  · exact good_word 3 s
theorem good_column : Good column := fun s => by
  have h1 := good_name s
  unfold column
  revert h1
  rcases name s with ⟨n, s1⟩
  intro h1
  simp only [] at h1 ⊢
  split
  · have h2 := calm_skip s1
    have h3 := good_name (skip s1)
    exact ⟨h3.1.trans (h2.1.trans h1.1), Nat.le_trans h3.2 (Nat.le_trans h2.2 h1.2)⟩
  · exact h1
theorem good_nests (sg : B) {f : PS → Ex × PS} (hf : Good f) : Good (nests sg f) := fun s => by
  unfold nests
  split
  · exact calm_fails 6 s
  · have h1 := calm_needs [sg] s
    have h2 := hf { needs [sg] s with deep := (needs [sg] s).deep + 1 }
    refine ⟨?_, Nat.le_trans h2.2 h1.2⟩
    show (f { needs [sg] s with deep := (needs [sg] s).deep + 1 }).2.deep - 1 = s.deep
    rw [h2.1, h1.1]
    exact Int.add_sub_cancel ..
theorem good_rowsF {f : PS → Ex × PS} (hf : Good f) (ops : B → Option Int) : ∀ (n : Nat) (x : Ex) (s : PS), (rowsF f ops n x s).2.deep = s.deep ∧ (rowsF f ops n x s).2.l.length ≤ s.l.length
  | 0, x, s => ⟨rfl, Nat.le_refl _⟩
  | n + 1, x, s => by
    rw [rowsF]
    split
    · exact ⟨rfl, Nat.le_refl _⟩
    · rename_i op _
      have h1 := calm_skip s
      have h2 := hf (skip s)
      have h3 := good_rowsF hf ops n (two op x (f (skip s)).1) (f (skip s)).2
      exact ⟨h3.1.trans (h2.1.trans h1.1), Nat.le_trans h3.2 (Nat.le_trans h2.2 h1.2)⟩
theorem good_rows {f : PS → Ex × PS} (hf : Good f) (ops : B → Option Int) : Good (rows f ops) := fun s => by
  have h1 := hf s
  have h2 := good_rowsF hf ops (f s).2.l.length (f s).1 (f s).2
  exact ⟨h2.1.trans h1.1, Nat.le_trans h2.2 h1.2⟩
theorem good_expr {nt : PS → Ex × PS} (h : Good nt) : Good (exprF nt) := good_rows (good_rows h opAnd) opOr
theorem good_sum {u : PS → Ex × PS} (h : Good u) : Good (sumF u) := good_rows (good_rows h opTerm) opSum
theorem good_comp {u : PS → Ex × PS} (h : Good u) : Good (compF u) := fun s => by
  have h1 := good_sum h s
  unfold compF
  revert h1
  rcases sumF u s with ⟨x, s1⟩
  intro h1
  simp only [] at h1 ⊢
  split
  · exact h1
  · have h2 := calm_skip s1
    have h3 := good_sum h (skip s1)
    exact ⟨h3.1.trans (h2.1.trans h1.1), Nat.le_trans h3.2 (Nat.le_trans h2.2 h1.2)⟩
theorem good_not {u nt : PS → Ex × PS} (hu : Good u) (hn : Good nt) : Good (notF u nt) := fun s => by
  unfold notF
  split
  · exact good_nests _ (f := fun s => ((un 4 (nt s).1), (nt s).2)) (fun s => hn s) s
  · exact good_comp hu s
theorem good_unary {u nt : PS → Ex × PS} (hu : Good u) (hn : Good nt) : Good (unaryF u nt) := fun s => by
  unfold unaryF
  split
  · exact good_nests _ (f := fun s => ((un 3 (u s).1), (u s).2)) (fun s => hu s) s
  · split
    · refine good_nests _ (f := fun s => ((exprF nt s).1, needs _ (exprF nt s).2)) (fun s => ?_) s
      have h1 := good_expr hn s
      have h2 := calm_needs [[41]] (exprF nt s).2
      exact ⟨h2.1.trans h1.1, Nat.le_trans h2.2 h1.2⟩
    · split
      · exact good_word 3 s
      · split
        · exact good_word 4 s
        · exact good_column s
theorem good_lev : ∀ n, Good (lev n).1 ∧ Good (lev n).2
  | 0 => ⟨fun s => ⟨rfl, Nat.le_refl _⟩, fun s => ⟨rfl, Nat.le_refl _⟩⟩
  | n + 1 => by
    obtain ⟨h1, h2⟩ := good_lev n
    exact ⟨good_unary h1 h2, good_not (good_unary h1 h2) h2⟩
theorem good_exprN (n : Nat) : Good (expr n) := good_expr (good_lev n).2
end PM
end Go.Proofs.YtpmgecnkcllneaaDoor
