/- plan: what PlanPasses asks, in plain words. -/
import Derived.Test.YtmdnhinpaflamaaDoorPnV
namespace Go.Proofs.YtmdnhinpaflamaaDoor
open Go.RowKit
set_option linter.unusedVariables false
set_option linter.unusedSimpArgs false
namespace Pn
open PM (Ex B Col It)
/-- the column that is asked for -/
def colN (r : Nat) : B := if r = 0 then [107] else if r = 1 then [110] else [118]
/-- its place -/
def colP (r : Nat) : Nat := if r = 0 then 0 else if r = 1 then 2 else 1
def exF (r : Nat) (k i : Int) (t : B) : Ex := .mk 8 0 0 [] [] [] [.mk 2 0 0 [] [] (colN r) [], .mk 1 k i t [] [] []]
def exA (x y : Ex) : Ex := .mk 14 0 0 [] [] [] [x, y]
theorem wayOf_and (T : Tab) (r : Nat) (k i : Int) (t : B) (y : Ex) : wayOf T (exA (exA (exF r k i t) y) y) = (way T (.mk 2 0 0 [] [] (colN r) []) (.mk 1 k i t [] [] [])).or (way T (.mk 1 k i t [] [] []) (.mk 2 0 0 [] [] (colN r) [])) := by
  unfold wayOf
  rw [show first (exA (exA (exF r k i t) y) y) = exF r k i t from by rw [exA, first_go, exA, first_go, exF, first_end _ _ _ _ _ _ _ (.inl (by decide))]]
  rfl
theorem way_mk (T : Tab) (op a b lo lk li : Int) (c tb nm lz d f : B) (g h : List Ex) : way T (.mk op a b c tb nm g) (.mk lo lk li lz d f h) = if op = 2 ∧ lo = 1 ∧ (tb = [] ∨ tb = T.name) ∧ 0 ≤ place T.cols nm ∧ indexed T nm = true ∧ kindAt T.cols (place T.cols nm) = lk then some (place T.cols nm, lk, li, lz) else none := rfl
theorem way_lit (T : Tab) (k i : Int) (t : B) (x : Ex) : way T (.mk 1 k i t [] [] []) x = none := by
  obtain ⟨a, b, c, d, e, f, g⟩ := x
  rw [way_mk]
  exact if_neg (fun h => absurd h.1 (by decide))
/-- k and n have an index, v has none -/
theorem wayOf_first {r : Nat} (hr : r < 3) (k i : Int) (t : B) (hk : r < 2 → k = 1) (y : Ex) : wayOf ⟨Gn.tname 0, tcol 0, tix 0⟩ (exA (exA (exF r k i t) y) y) = if r = 2 then none else some ((colP r : Int), k, i, t) := by
  rw [wayOf_and, way_lit, Option.or_none, way_mk]
  rcases (by omega : r = 0 ∨ r = 1 ∨ r = 2) with rfl | rfl | rfl
  · obtain rfl := hk (by decide)
    exact if_pos ⟨rfl, rfl, .inl rfl, by decide, by decide, by decide⟩
  · obtain rfl := hk (by decide)
    exact if_pos ⟨rfl, rfl, .inl rfl, by decide, by decide, by decide⟩
  · exact if_neg (fun h => absurd h.2.2.2.2.1 (by decide))
/-- where the row's value is another one, the where does not let it through -/
theorem holds_first {r : Nat} (hr : r < 2) {vals : List (Int × Int × B)} (hl : vals.length = 3) (hk : ∀ j, (h : j < vals.length) → (h2 : j < (tcol 0).length) → (tcol 0)[j].kind = 1 → vals[j].1 = 1) {i : Int} {t : B} {b : Bool} {er : Int} {e : Ending}
    (h : HoR (BinP 14 (BinP 14 (BinP 8 (ColP (Gn.tits 0) vals [] (colN r)) (LitP 1 i t)) AnyP) AnyP) e) (he : e = .returned (.tuple #[.bool b, .int .i64 er])) (hne : vals[colP r]'(by rw [hl]; unfold colP; split <;> (try split) <;> omega) |>.2.1 ≠ i) : b = false ∧ er = 0 := by
  have hat : atF (((Gn.tits 0).take vals.length).map (mt [] (colN r))) 0 (-1) = ((colP r : Int), 0) := by
    rw [hl]
    rcases (by omega : r = 0 ∨ r = 1) with rfl | rfl <;> decide
  obtain ⟨k0, i0, t0, er0, b0, he0, hp, hb⟩ := h.ex
  rw [he] at he0
  simp only [Ending.returned.injEq, Value.tuple.injEq] at he0
  have e0 : b = b0 ∧ er = er0 := by
    have h1 := congrArg (fun z : Array Value => z.toList) he0
    simpa using h1
  obtain ⟨rfl, rfl⟩ := e0
  obtain ⟨-, k1, i1, t1, x1, ⟨-, k2, i2, t2, x2, ⟨-, k3, i3, t3, x3, hcol, -, h8⟩, h14b, -⟩, h14, -⟩ := hp
  have hc := hcol.1 (by rw [hat])
  obtain ⟨rfl, hlt, hv⟩ := hc
  obtain ⟨k4, i4, t4, x4, ⟨rfl, rfl, rfl, rfl⟩, h8b⟩ := h8 rfl rfl
  have hj : (atF (((Gn.tits 0).take vals.length).map (mt [] (colN r))) 0 (-1)).1.toNat = colP r := by rw [hat]; simp
  have hcp : colP r < vals.length := by rw [hl]; unfold colP; split <;> (try split) <;> omega
  have hv2 : (k3, i3, t3) = vals[colP r] := by rw [hv]; congr 1
  have hk3 : k3 = 1 := by
    have := hk (colP r) hcp (by rw [tcol_len]; omega) (by rcases (by omega : r = 0 ∨ r = 1) with rfl | rfl <;> rfl)
    rw [← hv2] at this
    exact this
  have hi3 : i3 ≠ i4 := by
    rw [← hv2] at hne
    exact hne
  obtain ⟨rfl, rfl, rfl⟩ := h8b rfl hk3 rfl
  rw [if_neg hi3] at h14b
  obtain ⟨rfl, rfl, rfl⟩ := h14b rfl rfl rfl
  obtain ⟨rfl, rfl, rfl⟩ := h14 rfl rfl rfl
  refine ⟨?_, rfl⟩
  cases b with
  | false => rfl
  | true => exact absurd (hb.1 rfl).2 (by decide)
end Pn
end Go.Proofs.YtmdnhinpaflamaaDoor
