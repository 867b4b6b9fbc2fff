/- plan: what a way that is found is of; the two tables; the laws' first question. -/
import Derived.Test.YtmdnhinpaflamaaDoorPnK
namespace Go.Proofs.YtmdnhinpaflamaaDoor
open Go.RowKit
set_option linter.unusedVariables false
set_option linter.unusedSimpArgs false
namespace Pn
open PM (Ex B Col)
open CM (Pr)
open Gn (sh)
open Px (ColS colC)
open Sh (bt bt_cat bt_size)
/-- what is looked at first of an expression that is shown is one -/
theorem first_pr : ∀ p : Pr, p.ok = true → ∃ q : Pr, q.ok = true ∧ first p.ex = q.ex
  | .int v, h => ⟨.int v, h, first_end _ _ _ _ _ _ _ (.inr rfl)⟩
  | .text t, h => ⟨.text t, h, first_end _ _ _ _ _ _ _ (.inr rfl)⟩
  | .col n, h => ⟨.col n, h, first_end _ _ _ _ _ _ _ (.inr rfl)⟩
  | .tcol t n, h => ⟨.tcol t n, h, first_end _ _ _ _ _ _ _ (.inr rfl)⟩
  | .neg a, h => ⟨.neg a, h, first_end _ _ _ _ _ _ _ (.inl (by decide))⟩
  | .not a, h => ⟨.not a, h, first_end _ _ _ _ _ _ _ (.inl (by decide))⟩
  | .bin o a b, h => by
    by_cases ho : o = 9
    · subst ho
      have ha : a.ok = true := by simp [Pr.ok] at h; exact h.1
      obtain ⟨q, h1, h2⟩ := first_pr a ha
      refine ⟨q, h1, ?_⟩
      rw [← h2]
      exact first_go _ _ _ _ _ _ _
    · exact ⟨.bin o a b, h, first_end _ _ _ _ _ _ _ (.inl (by omega))⟩
theorem way_val {T : Tab} {x : Ex} {b : Pr} (hb : b.ok = true) {p k i : Int} {t : B} (h : way T x b.ex = some (p, k, i, t)) : ∃ (j : Nat) (s : B), p = j ∧ j < T.cols.length ∧ Val k i t s ∧ s.length ≤ 3000 := by
  obtain ⟨xo, xk, xi, xz, xt, xm, xg⟩ := x
  have key : ∀ (lo lk li : Int) (lz lt lm : B) (lg : List Ex), b.ex = .mk lo lk li lz lt lm lg → lo = 1 ∧ p = place T.cols xm ∧ 0 ≤ place T.cols xm ∧ k = lk ∧ i = li ∧ t = lz := fun lo lk li lz lt lm lg e => by
    rw [e] at h
    change (if xo = 2 ∧ lo = 1 ∧ (xt = [] ∨ xt = T.name) ∧ 0 ≤ place T.cols xm ∧ indexed T xm = true ∧ kindAt T.cols (place T.cols xm) = lk then some (place T.cols xm, lk, li, lz) else none) = some (p, k, i, t) at h
    split at h
    · rename_i hc
      simp only [Option.some.injEq, Prod.mk.injEq] at h
      exact ⟨hc.2.1, h.1.symm, hc.2.2.2.1, h.2.1.symm, h.2.2.1.symm, h.2.2.2.symm⟩
    · cases h
  have hl := place_lt T.cols xm
  cases b with
  | int v =>
    obtain ⟨_, rfl, h0, rfl, rfl, rfl⟩ := key _ _ _ _ _ _ _ rfl
    have hv : v ≤ 9223372036854775807 := by simpa [Pr.ok] using hb
    exact ⟨(place T.cols xm).toNat, _, by omega, by omega, .int v hv, by rw [Gn.sh_int]; have := Gn.dec_len hv; omega⟩
  | text z =>
    obtain ⟨_, rfl, h0, rfl, rfl, rfl⟩ := key _ _ _ _ _ _ _ rfl
    have hz : t.length ≤ 1000 := by
      have h2 : Pc.okText t = true := hb
      simp only [Pc.okText, Bool.and_eq_true, decide_eq_true_eq] at h2
      omega
    exact ⟨(place T.cols xm).toNat, _, by omega, by omega, .text t hz, by rw [Gn.sh_text]; have := Sw.quo_len t; simp; omega⟩
  | col n => exact absurd (key _ _ _ _ _ _ _ rfl).1 (by decide)
  | tcol t n => exact absurd (key _ _ _ _ _ _ _ rfl).1 (by decide)
  | neg a => exact absurd (key _ _ _ _ _ _ _ rfl).1 (by decide)
  | not a => exact absurd (key _ _ _ _ _ _ _ rfl).1 (by decide)
  | bin o a b => exact absurd (key _ _ _ _ _ _ _ rfl).1 (by omega)
/-- what a way that is found is of -/
theorem wayOf_val {T : Tab} {b : Pr} (hb : b.ok = true) {p k i : Int} {t : B} (h : wayOf T b.ex = some (p, k, i, t)) : ∃ (j : Nat) (s : B), p = j ∧ j < T.cols.length ∧ Val k i t s ∧ s.length ≤ 3000 := by
  obtain ⟨q, hq, e⟩ := first_pr b hb
  unfold wayOf at h
  rw [e] at h
  cases q with
  | bin o c d =>
    simp only [Pr.ok, Bool.and_eq_true] at hq
    by_cases ho : o = 3
    · subst ho
      have h : (way T c.ex d.ex).or (way T d.ex c.ex) = some (p, k, i, t) := h
      rcases Option.or_eq_some_iff.1 h with h | ⟨_, h⟩
      · exact way_val hq.2 h
      · exact way_val hq.1.2 h
    · rw [show wayX T (Pr.bin o c d).ex = none from wayX_no (by rintro ⟨h, _⟩; omega)] at h
      cases h
  | int v => exact absurd (h.symm.trans (wayX_no (by rintro ⟨h, _⟩; exact absurd h (by decide)))) (by simp)
  | text v => exact absurd (h.symm.trans (wayX_no (by rintro ⟨h, _⟩; exact absurd h (by decide)))) (by simp)
  | col v => exact absurd (h.symm.trans (wayX_no (by rintro ⟨h, _⟩; exact absurd h (by decide)))) (by simp)
  | tcol v u => exact absurd (h.symm.trans (wayX_no (by rintro ⟨h, _⟩; exact absurd h (by decide)))) (by simp)
  | neg v => exact absurd (h.symm.trans (wayX_no (by rintro ⟨h, _⟩; exact absurd h (by decide)))) (by simp)
  | not v => exact absurd (h.symm.trans (wayX_no (by rintro ⟨h, _⟩; exact absurd h (by decide)))) (by simp)
/-- the two tables' columns, and what has an index -/
def tcol (i : Nat) : List Col := if i = 0 then [⟨[107], 1, []⟩, ⟨[118], 2, []⟩, ⟨[110], 1, []⟩] else [⟨[107], 2, []⟩, ⟨[114], 1, [116]⟩, ⟨[110], 1, []⟩]
def tix (i : Nat) : List B := if i = 0 then [[110]] else []
theorem row_of {w : World} {E : TypeId} {b size n : Nat} {xs : List Value} (h : Blk w b E xs) (hl : xs.length = n * size) (hn : n ≤ maxLen) : Row w E size (.slice (some ⟨b, 0, none⟩) n n) n xs :=
  ⟨hl, .inr ⟨b, 0, n, xs, rfl, h, Nat.le_refl _, hn, by omega, by rw [List.drop_zero, List.take_of_length_le (by omega)]⟩⟩
/-- a table of the schema: its cells, what they are of -/
theorem tab_form {i n : Nat} (hi : i < 2) {w : World} (h : Gn.Sch n w) : ∃ (a ia : Option Addr) (c ic : Nat), Gn.tabV n i = [.string ⟨(Gn.tname i).toArray⟩, .slice a (tcol i).length c, .slice ia (tix i).length ic] ∧ TR (fun g => g < w.heap.size) w ⟨Gn.tname i, tcol i, tix i⟩ a c ia ic := by
  rcases (by omega : i = 0 ∨ i = 1) with rfl | rfl
  · refine ⟨some ⟨n + 1, 0, none⟩, some ⟨n + 2, 0, none⟩, 3, 1, rfl, ⟨⟨row_of h.t rfl (by show 3 ≤ maxLen; simp [maxLen]), fun g hg => ?_⟩, ⟨row_of h.i rfl (by show 1 ≤ maxLen; simp [maxLen]), fun g hg => ?_⟩⟩⟩
    · simp only [Value.ownBlock, Option.some.injEq] at hg; subst hg; exact h.t.lt
    · simp only [Value.ownBlock, Option.some.injEq] at hg; subst hg; exact h.i.lt
  · refine ⟨some ⟨n + 3, 0, none⟩, none, 3, 0, rfl, ⟨⟨row_of h.u rfl (by show 3 ≤ maxLen; simp [maxLen]), fun g hg => ?_⟩, Px.FlatS.nil⟩⟩
    simp only [Value.ownBlock, Option.some.injEq] at hg; subst hg; exact h.u.lt
theorem tcol_len (i : Nat) : (tcol i).length = 3 := by unfold tcol; split <;> rfl
theorem tix_len (i : Nat) : (tix i).length ≤ 1 := by unfold tix; split <;> decide
theorem tname_len (i : Nat) : (Gn.tname i).length ≤ 1 := by unfold Gn.tname; split <;> decide
theorem tcol_name {i j : Nat} (h : j < (tcol i).length) : (tcol i)[j].name.length ≤ 1000 := by
  have key : ∀ c ∈ tcol i, c.name.length ≤ 1000 := by
    unfold tcol
    split <;> intro c hc <;> simp at hc <;> rcases hc with rfl | rfl | rfl <;> decide
  exact key _ (List.getElem_mem h)
/-- the schema's tables, in memory: a table's cells -/
theorem tab_cells {i n : Nat} (hi : i < 2) {w : World} (h : Gn.Sch n w) {x y z : Value} (hv : Gn.tabV n i = [x, y, z]) : w.cell? ⟨n + 4, i * 3, none⟩ = some x ∧ w.cell? ⟨n + 4, i * 3 + 1, none⟩ = some y ∧ w.cell? ⟨n + 4, i * 3 + 2, none⟩ = some z := by
  have c := fun j => h.l.cell j
  rcases (by omega : i = 0 ∨ i = 1) with rfl | rfl
  · have h0 := c 0; have h1 := c 1; have h2 := c 2
    simp only [Gn.tabV, if_true] at hv
    simp only [List.cons.injEq, and_true] at hv
    obtain ⟨rfl, rfl, rfl⟩ := hv
    exact ⟨h0, h1, h2⟩
  · have h0 := c 3; have h1 := c 4; have h2 := c 5
    simp only [Gn.tabV] at hv
    simp only [show ¬ (1 : Nat) = 0 from by decide, if_false, List.cons.injEq, and_true] at hv
    obtain ⟨rfl, rfl, rfl⟩ := hv
    exact ⟨h0, h1, h2⟩
end Pn
end Go.Proofs.YtmdnhinpaflamaaDoor
