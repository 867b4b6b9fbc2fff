/- undo.Once: its contract at uint8, int, string. -/
import Derived.Test.YtmlmjajhmenjmaaRows
import Derived.Test.YtmlmjajhmenjmaaMem
import Derived.Test.YtmlmjajhmenjmaaShelf
import Derived.WalkSpells
import Derived.WalkLawsBesides
import Derived.Lib.Hide
namespace Go.Proofs.Ytmlmjajhmenjmaa
open Go.RowKit

namespace Oncei
theorem info : (Try.prog.info? 3).map (fun i => (i.zero, i.size, i.bytes)) = some (some (Value.int .i64 0), 1, 8) := by kernel_rfl
theorem contains0 (a : Option Addr) (c : Nat) (x : Int) (w : World) : Calls Try.prog 26 #[.slice a 0 c, .int .i64 x] w fun e w' => e = .returned (.bool false) ∧ w = w' :=
  (Try.slices_Contains_int_empty a c x w).mono fun _ _ ⟨h1, h2⟩ => ⟨h1, h2.symm⟩
theorem contains1 (b off cap : Nat) (l : List Int) (x : Int) (w : World) (hl : l.length ≤ 1000000)
    (hc : ∀ j, j < l.length → w.cell? ⟨b, off + j, none⟩ = some (.int .i64 (l.getD j 0))) :
    Calls Try.prog 26 #[.slice (some ⟨b, off, none⟩) l.length cap, .int .i64 x] w fun e w' => e = .returned (.bool (l.contains x)) ∧ w = w' :=
  (Try.slices_Contains_int b off l.length cap l x w (Nat.le_refl _) (by omega) hc).mono fun _ _ ⟨h1, h2⟩ => ⟨by rw [h1, List.take_of_length_le (Nat.le_refl _)], h2.symm⟩

/-- what slices.Contains tells -/
def has (l : List Int) (x : Int) : Bool := l.contains x
theorem contains (v : Value) (l : List Int) (x : Int) (w : World) (h : Row w 3 1 v l.length (l.map (Value.int .i64))) (hl : l.length ≤ 1000000) :
    Calls Try.prog 26 #[v, Value.int .i64 x] w fun e w' => e = .returned (.bool (has l x)) ∧ w = w' := by
  rcases h.form with ⟨rfl, h0, hx⟩ | ⟨g, off, cap, rfl, hnc, hcm⟩
  · obtain rfl : l = [] := by simpa using hx
    refine (contains0 none 0 x w).mono ?_
    rintro e w' ⟨rfl, rfl⟩
    exact ⟨rfl, rfl⟩
  · refine (contains1 g off cap l x w hl (fun j hj => ?_)).mono ?_
    · rw [h.cells j (by simpa using hj), List.getD_eq_getElem?_getD, List.getElem?_map, List.getElem?_eq_getElem hj, List.getD_eq_getElem?_getD, List.getElem?_eq_getElem hj]
      rfl
    · rintro e w' ⟨rfl, rfl⟩
      exact ⟨rfl, rfl⟩

/-- each once, where it is first -/
def once (acc : List Int) : List Int → List Int
  | [] => acc
  | x :: r => if has acc x then once acc r else once (acc ++ [x]) r

theorem once_step (acc l : List Int) (k : Nat) (h : k < l.length) : once acc (l.drop k) = if has acc (l.getD k 0) then once acc (l.drop (k + 1)) else once (acc ++ [l.getD k 0]) (l.drop (k + 1)) := by
  rw [List.drop_eq_getElem_cons h, once]
  simp [List.getD_eq_getElem?_getD, h]

set_option maxHeartbeats 1000000 in
theorem calls (a : Option Addr) (cap : Nat) (l : List Int) (w : World) (hl : l.length ≤ 1000)
    (hc : ∀ j, j < l.length → ∃ b off, a = some ⟨b, off, none⟩ ∧ b < w.heap.size ∧ w.cell? ⟨b, off + j, none⟩ = some (Value.int .i64 (l.getD j 0))) :
    Calls Try.prog 19 #[.slice a l.length cap] w fun e w' => ∃ v', e = .returned v' ∧ Row w' 3 1 v' (once [] l).length ((once [] l).map (Value.int .i64)) ∧ (v'.ownBlock = none ∨ ∃ k, w.heap.size ≤ k ∧ v'.ownBlock = some k) ∧ Fr [] w w' := by
  obtain ⟨i0, hi, hz0, hz1, hz2⟩ := info_parts info
  go_enter Try.func19, Try.ntmps19
  go_wp2
  go_loopw [3, 5, 8] (fun v _ i wr => ∃ k acc, k ≤ l.length ∧ i = .int .i64 k ∧ acc.length ≤ k ∧ once acc (l.drop k) = once [] l ∧ Row wr 3 1 v acc.length (acc.map (Value.int .i64)) ∧ (v.ownBlock = none ∨ ∃ k, w.heap.size ≤ k ∧ v.ownBlock = some k) ∧ Fr [] w wr) (fun _ _ i _ => l.length - (intOf i).toNat)
  case atStart => exact ⟨0, [], by omega, rfl, by simp, rfl, Row.nil _ _ _, .inl rfl, Fr.refl _ _⟩
  case round =>
    obtain ⟨k, acc, hk, rfl, hacc, hon, hrow, hown, hfr⟩ := hrel
    have HON := Lib.hid hon
    clear hon
    have HC := Lib.hid hc
    clear hc
    by_cases hlt : k < l.length
    · obtain ⟨y, hy⟩ : ∃ y, l.getD k 0 = y := ⟨_, rfl⟩
      obtain ⟨b, off, rfl, hb, hcell0⟩ := HC.out k hlt
      have hcell : wr.cell? ⟨b, off + k, none⟩ = some (Value.int .i64 y) := (hfr.cell hb (by simp)).trans (by rw [hcell0, hy])
      clear hcell0
      have hst := once_step acc l k hlt
      rw [hy] at hst
      have HS := Lib.hid hst
      clear hst hy
      cases hh : has acc y
      · have HH := Lib.hid hh
        clear hh
        go_wp2_with fail
        refine (contains u3 acc y _ hrow (by omega)).mono ?_
        rintro e w1 ⟨rfl, rfl⟩
        rw [HH.out]
        go_wp2_with (at_builtin; refine wpList_append_row rfl _ _ 29 rfl 3 i0 (Value.int .i64 0) 1 8 Try.underlying29 hi hz0 hz1 hz2 rfl (by decide) u3 acc.length (acc.map (Value.int .i64)) rfl (hrow.keep ((Fr.refl [] _).alloc _) (by simp)) ⟨wr.heap.size, 0, none⟩ 1 1 [Value.int .i64 y] rfl rfl ?c1 ?c2 ?c3 ?c4 ?_)
        case c1 => exact cell_one_new _ _ _
        case c2 => simp [Value.oneCell']
        case c3 => unfold maxLen; omega
        case c4 => omega
        intro v' w' hr' hf' hb'
        go_wp2_with fail
        go_roundw
        case rel =>
          refine ⟨k + 1, acc ++ [y], by omega, by go_num, by simp; omega, ?_, by simpa using hr', ?_, (hfr.alloc _).trans' hf' ?_⟩
          · have := HS.out
            rw [HH.out] at this
            simpa [← HON.out] using this.symm
          · rcases hb' with h | ⟨k, hk, h⟩
            · rw [h]; exact hown
            · exact .inr ⟨k, by have := hfr.size; omega, h⟩
          · intro i hi
            rcases hown with h | ⟨k, hk, h⟩ <;> rw [h] at hi <;> simp at hi
            exact .inr (by omega)
        case measure => simp [intOf]; omega
      · have HH := Lib.hid hh
        clear hh
        go_wp2_with fail
        refine (contains u3 acc y _ hrow (by omega)).mono ?_
        rintro e w1 ⟨rfl, rfl⟩
        rw [HH.out]
        go_wp2_with fail
        go_roundw
        case rel =>
          refine ⟨k + 1, acc, by omega, by go_num, by omega, ?_, hrow, hown, hfr⟩
          have := HS.out
          rw [HH.out] at this
          simpa [← HON.out] using this.symm
        case measure => simp [intOf]; omega
    · go_wp2_with fail
      go_ret
      have he : once [] l = acc := by rw [← HON.out, List.drop_eq_nil_of_le (by omega)]; rfl
      rw [he]
      exact ⟨u3, rfl, hrow, hown, hfr⟩
end Oncei

namespace Onces
theorem info : (Try.prog.info? 9).map (fun i => (i.zero, i.size, i.bytes)) = some (some (Value.string ByteArray.empty), 1, 16) := by kernel_rfl
theorem contains0 (a : Option Addr) (c : Nat) (x : ByteArray) (w : World) : Calls Try.prog 21 #[.slice a 0 c, .string x] w fun e w' => e = .returned (.bool false) ∧ w = w' :=
  (Try.slices_Contains_string_empty a c x w).mono fun _ _ ⟨h1, h2⟩ => ⟨h1, h2.symm⟩
theorem contains1 (b off cap : Nat) (l : List ByteArray) (x : ByteArray) (w : World) (hl : l.length ≤ 1000000)
    (hc : ∀ j, j < l.length → w.cell? ⟨b, off + j, none⟩ = some (.string (l.getD j ByteArray.empty))) :
    Calls Try.prog 21 #[.slice (some ⟨b, off, none⟩) l.length cap, .string x] w fun e w' => e = .returned (.bool (Lib.containsS l x)) ∧ w = w' :=
  (Try.slices_Contains_string b off l.length cap l x w (Nat.le_refl _) (by omega) hc).mono fun _ _ ⟨h1, h2⟩ => ⟨by rw [h1, List.take_of_length_le (Nat.le_refl _)], h2.symm⟩

/-- what slices.Contains tells -/
def has (l : List ByteArray) (x : ByteArray) : Bool := Lib.containsS l x
theorem contains (v : Value) (l : List ByteArray) (x : ByteArray) (w : World) (h : Row w 9 1 v l.length (l.map (Value.string))) (hl : l.length ≤ 1000000) :
    Calls Try.prog 21 #[v, Value.string x] w fun e w' => e = .returned (.bool (has l x)) ∧ w = w' := by
  rcases h.form with ⟨rfl, h0, hx⟩ | ⟨g, off, cap, rfl, hnc, hcm⟩
  · obtain rfl : l = [] := by simpa using hx
    refine (contains0 none 0 x w).mono ?_
    rintro e w' ⟨rfl, rfl⟩
    exact ⟨rfl, rfl⟩
  · refine (contains1 g off cap l x w hl (fun j hj => ?_)).mono ?_
    · rw [h.cells j (by simpa using hj), List.getD_eq_getElem?_getD, List.getElem?_map, List.getElem?_eq_getElem hj, List.getD_eq_getElem?_getD, List.getElem?_eq_getElem hj]
      rfl
    · rintro e w' ⟨rfl, rfl⟩
      exact ⟨rfl, rfl⟩

/-- each once, where it is first -/
def once (acc : List ByteArray) : List ByteArray → List ByteArray
  | [] => acc
  | x :: r => if has acc x then once acc r else once (acc ++ [x]) r

theorem once_step (acc l : List ByteArray) (k : Nat) (h : k < l.length) : once acc (l.drop k) = if has acc (l.getD k ByteArray.empty) then once acc (l.drop (k + 1)) else once (acc ++ [l.getD k ByteArray.empty]) (l.drop (k + 1)) := by
  rw [List.drop_eq_getElem_cons h, once]
  simp [List.getD_eq_getElem?_getD, h]

set_option maxHeartbeats 1000000 in
theorem calls (a : Option Addr) (cap : Nat) (l : List ByteArray) (w : World) (hl : l.length ≤ 1000)
    (hc : ∀ j, j < l.length → ∃ b off, a = some ⟨b, off, none⟩ ∧ b < w.heap.size ∧ w.cell? ⟨b, off + j, none⟩ = some (Value.string (l.getD j ByteArray.empty))) :
    Calls Try.prog 8 #[.slice a l.length cap] w fun e w' => ∃ v', e = .returned v' ∧ Row w' 9 1 v' (once [] l).length ((once [] l).map (Value.string)) ∧ (v'.ownBlock = none ∨ ∃ k, w.heap.size ≤ k ∧ v'.ownBlock = some k) ∧ Fr [] w w' := by
  obtain ⟨i0, hi, hz0, hz1, hz2⟩ := info_parts info
  go_enter Try.func8, Try.ntmps8
  go_wp2
  go_loopw [3, 5, 8] (fun v _ i wr => ∃ k acc, k ≤ l.length ∧ i = .int .i64 k ∧ acc.length ≤ k ∧ once acc (l.drop k) = once [] l ∧ Row wr 9 1 v acc.length (acc.map (Value.string)) ∧ (v.ownBlock = none ∨ ∃ k, w.heap.size ≤ k ∧ v.ownBlock = some k) ∧ Fr [] w wr) (fun _ _ i _ => l.length - (intOf i).toNat)
  case atStart => exact ⟨0, [], by omega, rfl, by simp, rfl, Row.nil _ _ _, .inl rfl, Fr.refl _ _⟩
  case round =>
    obtain ⟨k, acc, hk, rfl, hacc, hon, hrow, hown, hfr⟩ := hrel
    have HON := Lib.hid hon
    clear hon
    have HC := Lib.hid hc
    clear hc
    by_cases hlt : k < l.length
    · obtain ⟨y, hy⟩ : ∃ y, l.getD k ByteArray.empty = y := ⟨_, rfl⟩
      obtain ⟨b, off, rfl, hb, hcell0⟩ := HC.out k hlt
      have hcell : wr.cell? ⟨b, off + k, none⟩ = some (Value.string y) := (hfr.cell hb (by simp)).trans (by rw [hcell0, hy])
      clear hcell0
      have hst := once_step acc l k hlt
      rw [hy] at hst
      have HS := Lib.hid hst
      clear hst hy
      cases hh : has acc y
      · have HH := Lib.hid hh
        clear hh
        go_wp2_with fail
        refine (contains u3 acc y _ hrow (by omega)).mono ?_
        rintro e w1 ⟨rfl, rfl⟩
        rw [HH.out]
        go_wp2_with (at_builtin; refine wpList_append_row rfl _ _ 26 rfl 9 i0 (Value.string ByteArray.empty) 1 16 Try.underlying26 hi hz0 hz1 hz2 rfl (by decide) u3 acc.length (acc.map (Value.string)) rfl (hrow.keep ((Fr.refl [] _).alloc _) (by simp)) ⟨wr.heap.size, 0, none⟩ 1 1 [Value.string y] rfl rfl ?c1 ?c2 ?c3 ?c4 ?_)
        case c1 => exact cell_one_new _ _ _
        case c2 => simp [Value.oneCell']
        case c3 => unfold maxLen; omega
        case c4 => omega
        intro v' w' hr' hf' hb'
        go_wp2_with fail
        go_roundw
        case rel =>
          refine ⟨k + 1, acc ++ [y], by omega, by go_num, by simp; omega, ?_, by simpa using hr', ?_, (hfr.alloc _).trans' hf' ?_⟩
          · have := HS.out
            rw [HH.out] at this
            simpa [← HON.out] using this.symm
          · rcases hb' with h | ⟨k, hk, h⟩
            · rw [h]; exact hown
            · exact .inr ⟨k, by have := hfr.size; omega, h⟩
          · intro i hi
            rcases hown with h | ⟨k, hk, h⟩ <;> rw [h] at hi <;> simp at hi
            exact .inr (by omega)
        case measure => simp [intOf]; omega
      · have HH := Lib.hid hh
        clear hh
        go_wp2_with fail
        refine (contains u3 acc y _ hrow (by omega)).mono ?_
        rintro e w1 ⟨rfl, rfl⟩
        rw [HH.out]
        go_wp2_with fail
        go_roundw
        case rel =>
          refine ⟨k + 1, acc, by omega, by go_num, by omega, ?_, hrow, hown, hfr⟩
          have := HS.out
          rw [HH.out] at this
          simpa [← HON.out] using this.symm
        case measure => simp [intOf]; omega
    · go_wp2_with fail
      go_ret
      have he : once [] l = acc := by rw [← HON.out, List.drop_eq_nil_of_le (by omega)]; rfl
      rw [he]
      exact ⟨u3, rfl, hrow, hown, hfr⟩
end Onces

namespace Onceu
theorem info : (Try.prog.info? 5).map (fun i => (i.zero, i.size, i.bytes)) = some (some (Value.int .u8 0), 1, 1) := by kernel_rfl
theorem contains0 (a : Option Addr) (c : Nat) (x : Int) (w : World) : Calls Try.prog 20 #[.slice a 0 c, .int .u8 x] w fun e w' => e = .returned (.bool false) ∧ w = w' := by
  go_enter Try.func20, Try.ntmps20
  go_wp2_with fail
  refine (show Calls Try.prog 27 #[.slice a 0 c, .int .u8 x] w (fun (e : Ending) w' => e = .returned (.int .i64 (-1)) ∧ w = w') from ?_).mono ?_
  · go_enter Try.func27, Try.ntmps27
    go_wp2
    refine wp_loop_rounds 1 ?_
    rw [rounds_succ]
    go_wp2
    go_ret
    exact ⟨rfl, rfl⟩
  · rintro e w' ⟨rfl, rfl⟩
    go_wp2_with fail
    go_ret
    exact ⟨rfl, rfl⟩

set_option maxHeartbeats 400000 in
theorem index1 (b off cap : Nat) (l : List Int) (x : Int) (w : World) (hl : l.length ≤ 1000000)
    (hc : ∀ j, j < l.length → w.cell? ⟨b, off + j, none⟩ = some (.int .u8 (l.getD j 0))) :
    Calls Try.prog 27 #[.slice (some ⟨b, off, none⟩) l.length cap, .int .u8 x] w fun e w' => (∃ r : Int, e = .returned (.int .i64 r) ∧ decide (0 ≤ r) = l.contains x) ∧ w = w' := by
  go_enter Try.func27, Try.ntmps27
  go_wp2
  go_loop [5, 8] (fun _ i => ∃ k : Nat, k ≤ l.length ∧ i = .int .i64 k ∧ x ∉ l.take k) (fun _ i => l.length - (intOf i).toNat)
  case atStart => exact ⟨0, by omega, rfl, by simp⟩
  case round =>
    obtain ⟨k, hk, rfl, hx⟩ := hrel
    have HX := Lib.hid hx
    clear hx
    have HC := Lib.hid hc
    clear hc
    by_cases hlt : k < l.length
    · obtain ⟨y, hy⟩ : ∃ y, l.getD k 0 = y := ⟨_, rfl⟩
      have hcell : w.cell? ⟨b, off + k, none⟩ = some (.int .u8 y) := by rw [HC.out k hlt, hy]
      have hy' : l[k] = y := by rw [← hy]; simp [List.getD_eq_getElem?_getD, hlt]
      have HY := Lib.hid hy'
      clear hy hy'
      by_cases he : x = y
      · subst he
        go_wp2
        go_ret
        refine ⟨⟨k, rfl, ?_⟩, rfl⟩
        have hm : x ∈ l := by rw [← HY.out]; exact List.getElem_mem ..
        simp [hm]
      · have he1 : (x == y) = false := by simpa using he
        have HE := Lib.hid he
        clear he
        go_wp2
        go_round
        case rel =>
          refine ⟨k + 1, by omega, by go_num, ?_⟩
          rw [List.take_succ_eq_append_getElem hlt, HY.out]
          simpa using ⟨HX.out, HE.out⟩
        case measure => simp [intOf]; omega
    · go_wp2
      go_ret
      refine ⟨⟨-1, rfl, ?_⟩, rfl⟩
      have := HX.out
      rw [List.take_of_length_le (by omega)] at this
      simp [this]

theorem contains1 (b off cap : Nat) (l : List Int) (x : Int) (w : World) (hl : l.length ≤ 1000000)
    (hc : ∀ j, j < l.length → w.cell? ⟨b, off + j, none⟩ = some (.int .u8 (l.getD j 0))) :
    Calls Try.prog 20 #[.slice (some ⟨b, off, none⟩) l.length cap, .int .u8 x] w fun e w' => e = .returned (.bool (l.contains x)) ∧ w = w' := by
  go_enter Try.func20, Try.ntmps20
  go_wp2_with fail
  refine (index1 b off cap l x w hl hc).mono ?_
  rintro e w' ⟨⟨r, rfl, hr⟩, rfl⟩
  have HR := Lib.hid hr
  clear hr
  go_wp2_with fail
  go_ret
  rw [← HR.out]
  exact ⟨rfl, rfl⟩

/-- what slices.Contains tells -/
def has (l : List Int) (x : Int) : Bool := l.contains x
theorem contains (v : Value) (l : List Int) (x : Int) (w : World) (h : Row w 5 1 v l.length (l.map (Value.int .u8))) (hl : l.length ≤ 1000000) :
    Calls Try.prog 20 #[v, Value.int .u8 x] w fun e w' => e = .returned (.bool (has l x)) ∧ w = w' := by
  rcases h.form with ⟨rfl, h0, hx⟩ | ⟨g, off, cap, rfl, hnc, hcm⟩
  · obtain rfl : l = [] := by simpa using hx
    refine (contains0 none 0 x w).mono ?_
    rintro e w' ⟨rfl, rfl⟩
    exact ⟨rfl, rfl⟩
  · refine (contains1 g off cap l x w hl (fun j hj => ?_)).mono ?_
    · rw [h.cells j (by simpa using hj), List.getD_eq_getElem?_getD, List.getElem?_map, List.getElem?_eq_getElem hj, List.getD_eq_getElem?_getD, List.getElem?_eq_getElem hj]
      rfl
    · rintro e w' ⟨rfl, rfl⟩
      exact ⟨rfl, rfl⟩

/-- each once, where it is first -/
def once (acc : List Int) : List Int → List Int
  | [] => acc
  | x :: r => if has acc x then once acc r else once (acc ++ [x]) r

theorem once_step (acc l : List Int) (k : Nat) (h : k < l.length) : once acc (l.drop k) = if has acc (l.getD k 0) then once acc (l.drop (k + 1)) else once (acc ++ [l.getD k 0]) (l.drop (k + 1)) := by
  rw [List.drop_eq_getElem_cons h, once]
  simp [List.getD_eq_getElem?_getD, h]

set_option maxHeartbeats 1000000 in
theorem calls (a : Option Addr) (cap : Nat) (l : List Int) (w : World) (hl : l.length ≤ 1000)
    (hc : ∀ j, j < l.length → ∃ b off, a = some ⟨b, off, none⟩ ∧ b < w.heap.size ∧ w.cell? ⟨b, off + j, none⟩ = some (Value.int .u8 (l.getD j 0))) :
    Calls Try.prog 7 #[.slice a l.length cap] w fun e w' => ∃ v', e = .returned v' ∧ Row w' 5 1 v' (once [] l).length ((once [] l).map (Value.int .u8)) ∧ (v'.ownBlock = none ∨ ∃ k, w.heap.size ≤ k ∧ v'.ownBlock = some k) ∧ Fr [] w w' := by
  obtain ⟨i0, hi, hz0, hz1, hz2⟩ := info_parts info
  go_enter Try.func7, Try.ntmps7
  go_wp2
  go_loopw [3, 5, 8] (fun v _ i wr => ∃ k acc, k ≤ l.length ∧ i = .int .i64 k ∧ acc.length ≤ k ∧ once acc (l.drop k) = once [] l ∧ Row wr 5 1 v acc.length (acc.map (Value.int .u8)) ∧ (v.ownBlock = none ∨ ∃ k, w.heap.size ≤ k ∧ v.ownBlock = some k) ∧ Fr [] w wr) (fun _ _ i _ => l.length - (intOf i).toNat)
  case atStart => exact ⟨0, [], by omega, rfl, by simp, rfl, Row.nil _ _ _, .inl rfl, Fr.refl _ _⟩
  case round =>
    obtain ⟨k, acc, hk, rfl, hacc, hon, hrow, hown, hfr⟩ := hrel
    have HON := Lib.hid hon
    clear hon
    have HC := Lib.hid hc
    clear hc
    by_cases hlt : k < l.length
    · obtain ⟨y, hy⟩ : ∃ y, l.getD k 0 = y := ⟨_, rfl⟩
      obtain ⟨b, off, rfl, hb, hcell0⟩ := HC.out k hlt
      have hcell : wr.cell? ⟨b, off + k, none⟩ = some (Value.int .u8 y) := (hfr.cell hb (by simp)).trans (by rw [hcell0, hy])
      clear hcell0
      have hst := once_step acc l k hlt
      rw [hy] at hst
      have HS := Lib.hid hst
      clear hst hy
      cases hh : has acc y
      · have HH := Lib.hid hh
        clear hh
        go_wp2_with fail
        refine (contains u3 acc y _ hrow (by omega)).mono ?_
        rintro e w1 ⟨rfl, rfl⟩
        rw [HH.out]
        go_wp2_with (at_builtin; refine wpList_append_row rfl _ _ 22 rfl 5 i0 (Value.int .u8 0) 1 1 Try.underlying22 hi hz0 hz1 hz2 rfl (by decide) u3 acc.length (acc.map (Value.int .u8)) rfl (hrow.keep ((Fr.refl [] _).alloc _) (by simp)) ⟨wr.heap.size, 0, none⟩ 1 1 [Value.int .u8 y] rfl rfl ?c1 ?c2 ?c3 ?c4 ?_)
        case c1 => exact cell_one_new _ _ _
        case c2 => simp [Value.oneCell']
        case c3 => unfold maxLen; omega
        case c4 => omega
        intro v' w' hr' hf' hb'
        go_wp2_with fail
        go_roundw
        case rel =>
          refine ⟨k + 1, acc ++ [y], by omega, by go_num, by simp; omega, ?_, by simpa using hr', ?_, (hfr.alloc _).trans' hf' ?_⟩
          · have := HS.out
            rw [HH.out] at this
            simpa [← HON.out] using this.symm
          · rcases hb' with h | ⟨k, hk, h⟩
            · rw [h]; exact hown
            · exact .inr ⟨k, by have := hfr.size; omega, h⟩
          · intro i hi
            rcases hown with h | ⟨k, hk, h⟩ <;> rw [h] at hi <;> simp at hi
            exact .inr (by omega)
        case measure => simp [intOf]; omega
      · have HH := Lib.hid hh
        clear hh
        go_wp2_with fail
        refine (contains u3 acc y _ hrow (by omega)).mono ?_
        rintro e w1 ⟨rfl, rfl⟩
        rw [HH.out]
        go_wp2_with fail
        go_roundw
        case rel =>
          refine ⟨k + 1, acc, by omega, by go_num, by omega, ?_, hrow, hown, hfr⟩
          have := HS.out
          rw [HH.out] at this
          simpa [← HON.out] using this.symm
        case measure => simp [intOf]; omega
    · go_wp2_with fail
      go_ret
      have he : once [] l = acc := by rw [← HON.out, List.drop_eq_nil_of_le (by omega)]; rfl
      rw [he]
      exact ⟨u3, rfl, hrow, hown, hfr⟩
end Onceu
end Go.Proofs.Ytmlmjajhmenjmaa
