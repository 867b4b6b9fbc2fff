/- A statement's cells; things without a part of their own, in memory. -/
import Derived.Test.YtmdnhinpaflamaaDoorPaF
namespace Go.Proofs.YtmdnhinpaflamaaDoor
open Go.RowKit
set_option linter.unusedVariables false
namespace Sh
open PM (Ex B)
open Px (SR SS SL ItS TagS ColS)
/-- a statement's cells, written out -/
theorem sr_all {A : Nat → Prop} {w : World} {kind : Int} {table name join : B} {cols : List PM.Col} {tags : List Int} {values on wher order : List Ex} {items : List PM.It} {desc : Bool} {inner : List PM.St} {cs : List Value} (h : SR A w (.mk kind table name cols tags values items join on wher order desc inner) cs) :
    ∃ (a3 a4 a5 a6 a8 a9 a10 a12 : Option Addr) (l3 l4 l5 l6 l8 l9 l10 l12 c3 c4 c5 c6 c8 c9 c10 c12 : Nat), cs = [.int .i64 kind, .string ⟨table.toArray⟩, .string ⟨name.toArray⟩, .slice a3 l3 c3, .slice a4 l4 c4, .slice a5 l5 c5, .slice a6 l6 c6, .string ⟨join.toArray⟩, .slice a8 l8 c8, .slice a9 l9 c9, .slice a10 l10 c10, .bool desc, .slice a12 l12 c12] ∧
      ColS A w (.slice a3 l3 c3) cols ∧ TagS A w (.slice a4 l4 c4) tags ∧ Rep.Es 41 A w values (.slice a5 l5 c5) ∧ ItS A w (.slice a6 l6 c6) items ∧ Rep.Es 41 A w on (.slice a8 l8 c8) ∧ Rep.Es 41 A w wher (.slice a9 l9 c9) ∧ Rep.Es 41 A w order (.slice a10 l10 c10) ∧ SS A w inner (.slice a12 l12 c12) := by
  cases h with
  | mk _ _ _ _ _ _ _ _ _ _ _ _ _ v3 v4 v5 v6 v8 v9 v10 v12 h3 h4 h5 h6 h8 h9 h10 h12 =>
    obtain ⟨a3, l3, c3, rfl⟩ := Px.FlatS.form h3
    obtain ⟨a4, l4, c4, rfl⟩ := Px.FlatS.form h4
    obtain ⟨a5, l5, c5, rfl⟩ := Rep.Es.form h5
    obtain ⟨a6, l6, c6, rfl⟩ := Px.FlatS.form h6
    obtain ⟨a8, l8, c8, rfl⟩ := Rep.Es.form h8
    obtain ⟨a9, l9, c9, rfl⟩ := Rep.Es.form h9
    obtain ⟨a10, l10, c10, rfl⟩ := Rep.Es.form h10
    obtain ⟨a12, l12, c12, rfl⟩ := Px.SS.form h12
    exact ⟨_, _, _, _, _, _, _, _, _, _, _, _, _, _, _, _, _, _, _, _, _, _, _, _, rfl, h3, h4, h5, h6, h8, h9, h10, h12⟩
theorem flat_len {α : Type} {T : TypeId} {cells : α → List Value} {size : Nat} {A : Nat → Prop} {w : World} {l : List α} {a : Option Addr} {n c : Nat} (h : Px.FlatS T cells size A w (.slice a n c) l) : n = l.length := Px.slice_len h.1
theorem flat_getD {α : Type} {cells : α → List Value} {size : Nat} (hs : ∀ x, (cells x).length = size) : ∀ {l : List α} {k i : Nat} (hk : k < l.length) (hi : i < size), (l.flatMap cells).getD (k * size + i) undef = (cells l[k]).getD i undef
  | [], _, _, hk, _ => by simp at hk
  | x :: l, 0, i, _, hi => by
    rw [List.flatMap_cons, Nat.zero_mul, Nat.zero_add, List.getD_eq_getElem?_getD, List.getElem?_append_left (by rw [hs]; exact hi), ← List.getD_eq_getElem?_getD]
    rfl
  | x :: l, k + 1, i, hk, hi => by
    have ih := flat_getD hs (l := l) (k := k) (i := i) (by simpa using hk) hi
    have hx := hs x
    have e : (k + 1) * size = k * size + size := Nat.succ_mul ..
    rw [List.flatMap_cons, List.getD_eq_getElem?_getD, List.getElem?_append_right (by omega), hx, show (k + 1) * size + i - size = k * size + i by omega, ← List.getD_eq_getElem?_getD, ih]
    rfl

theorem flat_form {α : Type} {T : TypeId} {cells : α → List Value} {size : Nat} (hs : ∀ x, (cells x).length = size) {A : Nat → Prop} {w : World} {a : Option Addr} {n c : Nat} {l : List α} (h : Px.FlatS T cells size A w (.slice a n c) l) : n = l.length ∧ l.length ≤ maxLen ∧ ∀ k, (hk : k < l.length) → ∃ g off, a = some ⟨g, off, none⟩ ∧ A g ∧ g < w.heap.size ∧ l.length ≤ c ∧ ∀ i u, (cells l[k])[i]? = some u → w.cell? ⟨g, off + k * size + i, none⟩ = some u := by
  obtain ⟨h, hA⟩ := h
  rcases h.form with ⟨h1, h0, _⟩ | ⟨g, off, cap, h1, hc, hm⟩
  · simp only [Value.slice.injEq] at h1
    obtain ⟨rfl, rfl, rfl⟩ := h1
    refine ⟨h0.symm, by omega, fun k hk => by omega⟩
  · simp only [Value.slice.injEq] at h1
    obtain ⟨rfl, rfl, rfl⟩ := h1
    refine ⟨rfl, by omega, fun k hk => ⟨g, off, rfl, hA g rfl, h.block_lt rfl, hc, fun i u hi => ?_⟩⟩
    have hil : i < size := by have := (List.getElem?_eq_some_iff.1 hi).1; rw [hs] at this; exact this
    have hlt : k * size + i < (l.flatMap cells).length := by
      have h1 := h.1
      rw [h1]
      calc k * size + i < k * size + size := by omega
        _ = (k + 1) * size := (Nat.succ_mul ..).symm
        _ ≤ l.length * size := Nat.mul_le_mul_right _ hk
    rw [Nat.add_assoc, h.cells (k * size + i) hlt]
    congr 1
    rw [flat_getD hs hk hil, List.getD_eq_getElem?_getD, hi]
    rfl
/-- a list of statements, in memory -/
theorem SL.at {A : Nat → Prop} {w : World} {l : List PM.St} {xs : List Value} (h : SL A w l xs) (k : Nat) (hk : k < l.length) : ∃ ys, SR A w l[k] ys ∧ ∀ i, i < 13 → xs[k * 13 + i]? = ys[i]? := by
  induction l generalizing xs k with
  | nil => simp at hk
  | cons d r ih =>
    cases h with
    | cons _ _ xs ys h1 h2 =>
      cases k with
      | zero => exact ⟨xs, h1, fun i hi => by rw [List.getElem?_append_left (by rw [h1.length]; omega)]; simp⟩
      | succ k =>
        obtain ⟨zs, g1, g2⟩ := ih h2 k (by simpa using hk)
        refine ⟨zs, g1, fun i hi => ?_⟩
        rw [List.getElem?_append_right (by rw [h1.length]; omega), h1.length, show (k + 1) * 13 + i - 13 = k * 13 + i by omega]
        exact g2 i hi
theorem ss_at {A : Nat → Prop} {w : World} {l : List PM.St} {a : Option Addr} {n c : Nat} (h : SS A w l (.slice a n c)) : n = l.length ∧ l.length ≤ maxLen ∧ ∀ k, (hk : k < l.length) → ∃ g off ys, a = some ⟨g, off, none⟩ ∧ l.length ≤ c ∧ A g ∧ g < w.heap.size ∧ SR A w l[k] ys ∧ ∀ i u, ys[i]? = some u → w.cell? ⟨g, off + k * 13 + i, none⟩ = some u := by
  cases h with
  | mk _ _ xs hl hr hb =>
    rcases hr.form with ⟨h1, h0, _⟩ | ⟨g, off, cap, h1, hc, hm⟩
    · simp only [Value.slice.injEq] at h1
      obtain ⟨rfl, rfl, rfl⟩ := h1
      refine ⟨h0.symm, by omega, fun k hk => by omega⟩
    · simp only [Value.slice.injEq] at h1
      obtain ⟨rfl, rfl, rfl⟩ := h1
      refine ⟨rfl, by omega, fun k hk => ?_⟩
      obtain ⟨ys, k1, k2⟩ := SL.at hl k hk
      refine ⟨g, off, ys, rfl, hc, hb g rfl, hr.block_lt rfl, k1, fun i u hi => ?_⟩
      have hi13 : i < 13 := by have := (List.getElem?_eq_some_iff.1 hi).1; rw [k1.length] at this; exact this
      have hx := (k2 i hi13).trans hi
      have hlt := (List.getElem?_eq_some_iff.1 hx).1
      rw [Nat.add_assoc, hr.cells _ hlt, List.getD_eq_getElem?_getD, hx]
      rfl
end Sh
end Go.Proofs.YtmdnhinpaflamaaDoor
