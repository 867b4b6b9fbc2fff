/- What choices are read from: Picks. -/
import Derived.Test.YtmdnhinpaflamaaDoorPaA
import Derived.BigQuiet
import Derived.BigRegion
import Derived.Deep.RegionWith
namespace Go.Proofs.YtmdnhinpaflamaaDoor
open Go.RowKit
set_option linter.unusedVariables false
namespace Gn
open PM (Ex B)

/-- the numbers that are left, in block P; below B: P, and where they lie -/
structure PK (B M : Nat) (w : World) (P : Nat) : Prop where
  lt : P < B
  le : B ≤ w.heap.size
  ex : ∃ (a : Option Addr) (len cap n : Nat), n ≤ len ∧ (len ≤ 1000000 ∧ len ≤ n + M) ∧ Blk w P 77 [.slice a len cap, .int .i64 n] ∧
    ∀ j, j < len → ∃ (g off k : Nat), a = some ⟨g, off, none⟩ ∧ g ≠ P ∧ g < B ∧ k ≤ 255 ∧ w.cell? ⟨g, off + j, none⟩ = some (.int .u8 k)
theorem PK.lt' {B M : Nat} {w : World} {P : Nat} (h : PK B M w P) : P < w.heap.size := Nat.lt_of_lt_of_le h.lt h.le
theorem PK.keep {B M : Nat} {w w' : World} {P : Nat} {S : List (Option Nat)} (h : PK B M w P) (hf : Fr S w w') (hS : ∀ g, some g ∈ S → B ≤ g) : PK B M w' P := by
  obtain ⟨hl, hle, a, len, cap, n, h1, h2, h3, h4⟩ := h
  refine ⟨hl, Nat.le_trans hle hf.size, a, len, cap, n, h1, h2, h3.keep hf (fun hm => by have := hS P hm; omega), fun j hj => ?_⟩
  obtain ⟨g, off, k, e, hg, hlt, hk, hc⟩ := h4 j hj
  exact ⟨g, off, k, e, hg, hlt, hk, (hf.cell (p := ⟨g, off + j, none⟩) (Nat.lt_of_lt_of_le hlt hle) (fun hm => by have := hS g hm; omega)).trans hc⟩
theorem PK.alloc {B M : Nat} {w : World} {P : Nat} (h : PK B M w P) (o : Obj) : PK B M (w.alloc o) P := h.keep (Fr.alloc (Fr.refl [] w) o) (by simp)
theorem PK.drew {B M : Nat} {w : World} {P : Nat} (h : PK B M w P) : PK B M w.drew P := h.keep (Fr.drew (Fr.refl [] w)) (by simp)
theorem PK.weak {B M M' : Nat} {w : World} {P : Nat} (h : PK B M w P) (hM : M ≤ M') : PK B M' w P := by
  obtain ⟨hl, hle, a, len, cap, n, h1, h2, h3, h4⟩ := h
  exact ⟨hl, hle, a, len, cap, n, h1, ⟨h2.1, by omega⟩, h3, h4⟩
/-- how many are left -/
def left (w : World) (P : Nat) : Nat :=
  match w.cell? ⟨P, 0, none⟩, w.cell? ⟨P, 1, none⟩ with
  | some (.slice _ len _), some (.int _ n) => len - n.toNat
  | _, _ => 0
theorem PK.left_le {B M : Nat} {w : World} {P : Nat} (h : PK B M w P) : left w P ≤ M := by
  obtain ⟨hl, hle, a, len, cap, n, h1, h2, h3, h4⟩ := h
  unfold left
  rw [h3.cell 0, h3.cell 1]
  show len - (n : Int).toNat ≤ M
  have := h2.2
  simp
  omega
theorem PK.self {B M : Nat} {w : World} {P : Nat} (h : PK B M w P) : PK B (left w P) w P := by
  obtain ⟨hl, hle, a, len, cap, n, h1, h2, h3, h4⟩ := h
  refine ⟨hl, hle, a, len, cap, n, h1, ⟨h2.1, ?_⟩, h3, h4⟩
  unfold left
  rw [h3.cell 0, h3.cell 1]
  show len ≤ n + (len - (n : Int).toNat)
  simp
  omega
set_option maxRecDepth 100000 in
set_option maxHeartbeats 2000000 in
/-- Num: a number below m; there is one less behind it -/
theorem num_less {B M : Nat} (P : Nat) (m : Int) (hm1 : 1 ≤ m) (hm2 : m ≤ 1000) (w : World) (h : PK B M w P) :
    Calls Tryd.prog 28 #[.pointer (some ⟨P, 0, none⟩), .int .i64 m] w fun e w' => ∃ r : Nat, e = .returned (.int .i64 r) ∧ (r : Int) < m ∧ PK B (M - 1) w' P ∧ Fr [some P] w w' := by
  obtain ⟨hl, hle, a, len, cap, n, h1, h2, hb, h4⟩ := h
  have c0 := hb.cell 0
  have c1 := hb.cell 1
  have f1 := hb.free 1
  simp only [List.getElem?_cons_zero, List.getElem?_cons_succ] at c0 c1
  have HB := Lib.hid hb
  have H4 := Lib.hid h4
  clear hb h4
  go_enter Tryd.func28, Tryd.ntmps28
  by_cases hn : n < len
  · obtain ⟨g, off, k, rfl, hg, hlt, hk, hc⟩ := H4.out n hn
    have hg1 : ¬ g = P := hg
    have hg2 : ¬ P = g := fun h => hg h.symm
    have hgw : g < w.heap.size := Nat.lt_of_lt_of_le hlt hle
    have hlw : P < w.heap.size := Nat.lt_of_lt_of_le hl hle
    have hk2 : 0 ≤ (n : Int) + 1 - 1 := by omega
    have hk3 : (n : Int) + 1 - 1 < len := by omega
    have hkm : (k : Int) ≤ 255 := by omega
    have hm0 : ¬ m = 0 := by omega
    have H5 := H4
    clear H4
    go_wp2_with fail
    go_region
    all_goals
      go_wp2_with fail
      go_region
    all_goals
      go_wp2_with fail
      go_ret
      obtain ⟨r, hr⟩ : ∃ r : Nat, (k : Int) % m = r := ⟨((k : Int) % m).toNat, by have := Int.emod_nonneg (k : Int) hm0; omega⟩
      have hr2 : (r : Int) < m := by rw [← hr]; exact Int.emod_lt_of_pos _ (by omega)
      have hf : Fr [some P] w (w.setCell ⟨P, 1, none⟩ (.int .i64 ((n : Int) + 1))).drew.drew := (((Fr.refl [some P] w).setCell (p := ⟨P, 1, none⟩) (.inl (by simp)) _).drew).drew
      refine ⟨r, congrArg (fun z => Ending.returned (.int .i64 z)) hr, hr2, ⟨hl, Nat.le_trans hle hf.size, some ⟨g, off, none⟩, len, cap, n + 1, by omega, ⟨h2.1, by have := h2.2; omega⟩, ?_, fun j hj => ?_⟩, hf⟩
      · have := ((HB.out.set 1 (.int .i64 ((n : Int) + 1))).drew).drew
        simpa using this
      · obtain ⟨g', off', k', e, hg', hlt', hk', hc'⟩ := H5.out j hj
        exact ⟨g', off', k', e, hg', hlt', hk', (hf.cell (p := ⟨g', off' + j, none⟩) (Nat.lt_of_lt_of_le hlt' hle) (by simp; exact hg')).trans hc'⟩
  · go_wp2_with fail
    go_region
    all_goals
      go_wp2_with fail
      go_ret
      exact ⟨0, rfl, by omega, ⟨hl, hle, a, len, cap, n, h1, ⟨h2.1, by omega⟩, HB.out.drew, H4.out⟩, (Fr.refl _ _).drew⟩
theorem num_any {B M : Nat} (P : Nat) (m : Int) (hm1 : 1 ≤ m) (hm2 : m ≤ 1000) (w : World) (h : PK B M w P) :
    Calls Tryd.prog 28 #[.pointer (some ⟨P, 0, none⟩), .int .i64 m] w fun e w' => ∃ r : Nat, e = .returned (.int .i64 r) ∧ (r : Int) < m ∧ PK B M w' P ∧ Fr [some P] w w' :=
  (num_less P m hm1 hm2 w h).mono fun e w' h => by
    obtain ⟨r, h1, h2, h3, h4⟩ := h
    exact ⟨r, h1, h2, h3.weak (Nat.sub_le _ _), h4⟩
set_option maxRecDepth 100000 in
/-- Over -/
theorem over_any {B M : Nat} (P : Nat) (w : World) (h : PK B M w P) :
    Calls Tryd.prog 50 #[.pointer (some ⟨P, 0, none⟩)] w fun e w' => ∃ b : Bool, e = .returned (.bool b) ∧ (b = false → 0 < M) ∧ PK B M w' P ∧ Fr [] w w' := by
  have HK := Lib.hid h
  obtain ⟨hl, hle, a, len, cap, n, h1, h2, hb, h4⟩ := h
  have c0 := hb.cell 0
  have c1 := hb.cell 1
  simp only [List.getElem?_cons_zero, List.getElem?_cons_succ] at c0 c1
  clear hb h4
  go_enter Tryd.func50, Tryd.ntmps50
  go_wp2_with fail
  go_region
  all_goals
    go_wp2_with fail
    go_ret
    exact ⟨_, rfl, fun hb => by simp at hb; have := h2.2; omega, HK.out.keep (Fr.refl [] _).drew (by simp), (Fr.refl _ _).drew⟩
set_option maxRecDepth 100000 in
/-- Made -/
theorem made_any (w : World) (a : Option Addr) (len cap : Nat) (hlen : len ≤ 1000000) (h : ∀ j, j < len → ∃ (g off k : Nat), a = some ⟨g, off, none⟩ ∧ g < w.heap.size ∧ k ≤ 255 ∧ w.cell? ⟨g, off + j, none⟩ = some (.int .u8 k)) :
    Calls Tryd.prog 10 #[.slice a len cap] w fun e w' => e = .returned (.pointer (some ⟨w.heap.size, 0, none⟩)) ∧ PK (w.heap.size + 1) len w' w.heap.size ∧ Fr [] w w' := by
  go_enter Tryd.func10, Tryd.ntmps10
  have H := Lib.hid h
  clear h
  go_wp2_with fail
  go_ret
  have hf := (Fr.refl [] w).alloc (.cells #[.slice a len cap, .int .i64 0] 77)
  refine ⟨rfl, ⟨by omega, by simp, a, len, cap, 0, Nat.zero_le _, ⟨hlen, by omega⟩, Blk.new w 77 [.slice a len cap, .int .i64 0], fun j hj => ?_⟩, hf⟩
  obtain ⟨g, off, k, e, hlt, hk, hc⟩ := H.out j hj
  exact ⟨g, off, k, e, by omega, by omega, hk, (hf.cell (p := ⟨g, off + j, none⟩) hlt (by simp)).trans hc⟩
end Gn
end Go.Proofs.YtmdnhinpaflamaaDoor
