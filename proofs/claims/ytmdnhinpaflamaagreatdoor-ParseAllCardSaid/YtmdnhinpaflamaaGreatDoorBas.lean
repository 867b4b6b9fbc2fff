/- num.Add, Sub, Mul, Neg and the document's answers: each is the number where it fits, else nought and ErrOverflow. -/
import Derived.Test.YtmdnhinpaflamaaGreatDoorRows
import Derived.WalkKit
import Derived.WalkSpells
import Derived.WalkLawsBesides
import Derived.Lib.Hide
import Derived.IntWalk
import Derived.ArgAppend
import Derived.Below
import Derived.OwnWalk
import Derived.Deep.Draws
import Derived.Laws.AppendOwn
import Derived.Sort.Row
import Derived.Laws.IdiomStrings
import Derived.Laws.BytesArg
import Derived.Test.YtmdnhinpaflamaaGreatDoorPlA
import Derived.BigQuiet
namespace Go.Proofs.YtmdnhinpaflamaaGreatDoor
open Go.RowKit

/-- it fits -/
def ok64 (x : Int) : Bool := decide (-9223372036854775808 ≤ x ∧ x ≤ 9223372036854775807)
/-- the number, where it fits -/
def res (x : Int) : Int := if ok64 x then x else 0
/-- OK or ErrOverflow -/
def err (x : Int) : Int := if ok64 x then 0 else 8

theorem res_ok {x : Int} (h : ok64 x = true) : res x = x := by simp [res, h]
theorem err_ok {x : Int} (h : ok64 x = true) : err x = 0 := by simp [err, h]
theorem res_no {x : Int} (h : ok64 x = false) : res x = 0 := by simp [res, h]
theorem err_no {x : Int} (h : ok64 x = false) : err x = 8 := by simp [err, h]
theorem ok_iff {x : Int} : ok64 x = true ↔ (-9223372036854775808 ≤ x ∧ x ≤ 9223372036854775807) := by simp [ok64]
theorem no_iff {x : Int} : ok64 x = false ↔ ¬ (-9223372036854775808 ≤ x ∧ x ≤ 9223372036854775807) := by simp [ok64]

theorem within_yes (x : Int) (w : World) : Calls Tryz.prog 161 #[.int .i64 x, .bool true] w fun e w' => e = .returned (.tuple #[.int .i64 x, .int .i64 0]) ∧ w = w' := by
  go_enter Tryz.func161, Tryz.ntmps161
  go_wp2
  go_ret2
  exact ⟨rfl, rfl⟩
theorem within_no (x : Int) (w : World) : Calls Tryz.prog 161 #[.int .i64 x, .bool false] w fun e w' => e = .returned (.tuple #[.int .i64 0, .int .i64 8]) ∧ w = w' := by
  go_enter Tryz.func161, Tryz.ntmps161
  go_wp2
  go_ret2
  exact ⟨rfl, rfl⟩
def sel (b : Bool) (x : Int) : Int := if b then x else 0
def selE (b : Bool) : Int := if b then 0 else 8
theorem within_any (x : Int) (b : Bool) (w : World) : Calls Tryz.prog 161 #[.int .i64 x, .bool b] w fun e w' => e = .returned (.tuple #[.int .i64 (sel b x), .int .i64 (selE b)]) ∧ w = w' := by
  cases b
  · exact within_no x w
  · exact within_yes x w

theorem sel_wrap (x : Int) : sel (ok64 x) (wrap64 x) = res x := by
  unfold sel res
  split
  · rename_i h; have := ok_iff.1 h; unfold wrap64; omega
  · rfl
theorem selE_ok (x : Int) : selE (ok64 x) = err x := rfl
theorem pair_eq {a b c d : Int} (h1 : a = c) (h2 : b = d) : Ending.returned (.tuple #[.int .i64 a, .int .i64 b]) = .returned (.tuple #[.int .i64 c, .int .i64 d]) := by rw [h1, h2]

theorem add_same (a b : Int) (ha : -9223372036854775808 ≤ a ∧ a ≤ 9223372036854775807) (hb : -9223372036854775808 ≤ b ∧ b ≤ 9223372036854775807) (h : a < 0 ↔ b < 0) :
    (decide (wrap64 (a + b) < 0) == decide (b < 0)) = ok64 (a + b) := by
  rw [Bool.eq_iff_iff]
  simp only [beq_iff_eq, decide_eq_decide, ok_iff, wrap64]
  omega
theorem add_unlike (a b : Int) (ha : -9223372036854775808 ≤ a ∧ a ≤ 9223372036854775807) (hb : -9223372036854775808 ≤ b ∧ b ≤ 9223372036854775807) (h : ¬(a < 0 ↔ b < 0)) : true = ok64 (a + b) := by
  rw [eq_comm, ok_iff]; omega
theorem tmod_abs (p b : Int) (hb : b ≠ 0) : (p.tmod b).natAbs < b.natAbs := by
  rw [Int.natAbs_tmod]; exact Nat.mod_lt _ (by omega)
theorem tdiv_abs (p b : Int) : (p.tdiv b).natAbs ≤ p.natAbs := by
  rw [Int.natAbs_tdiv]; exact Nat.div_le_self _ _
theorem mul_chk (a b : Int) (ha : -9223372036854775808 ≤ a ∧ a ≤ 9223372036854775807) (hb : -9223372036854775808 ≤ b ∧ b ≤ 9223372036854775807) (h0 : b ≠ 0)
    (hl : ¬ (a = -9223372036854775808 ∧ b = -1)) : (wrap64 ((wrap64 (a * b)).tdiv b) == a) = ok64 (a * b) := by
  rw [Bool.eq_iff_iff, beq_iff_eq, ok_iff]
  constructor
  · intro h
    obtain ⟨p, hp⟩ : ∃ p, wrap64 (a * b) = p := ⟨_, rfl⟩
    rw [hp] at h
    have h1 := Int.mul_tdiv_add_tmod p b
    have h2 := tmod_abs p b h0
    have h3 := tdiv_abs p b
    obtain ⟨q, hq⟩ : ∃ q, p.tdiv b = q := ⟨_, rfl⟩
    obtain ⟨r, hr⟩ : ∃ r, p.tmod b = r := ⟨_, rfl⟩
    rw [hq] at h h1 h3
    rw [hr] at h1 h2
    obtain ⟨m, hm⟩ : ∃ m, a * b = m := ⟨_, rfl⟩
    rw [hm] at hp ⊢
    have hpr : -9223372036854775808 ≤ p ∧ p ≤ 9223372036854775807 := by unfold wrap64 at hp; omega
    by_cases hqr : q ≤ 9223372036854775807
    · have hqa : q = a := by unfold wrap64 at h; omega
      rw [hqa, Int.mul_comm, hm] at h1
      unfold wrap64 at hp
      omega
    · exfalso
      have hq2 : q = 9223372036854775808 := by omega
      have hp2 : p = -9223372036854775808 := by omega
      have ha2 : a = -9223372036854775808 := by unfold wrap64 at h; omega
      refine hl ⟨ha2, ?_⟩
      rw [hq2, hp2] at h1
      have : -1 ≤ b ∧ b ≤ 0 := by omega
      omega
  · intro h
    have e : wrap64 (a * b) = a * b := by unfold wrap64; omega
    rw [e, Int.mul_tdiv_cancel a h0]
    unfold wrap64; omega
theorem low_no (a b : Int) (h : (a = -9223372036854775808 ∧ b = -1) ∨ (b = -9223372036854775808 ∧ a = -1)) : ok64 (a * b) = false := by
  rcases h with ⟨rfl, rfl⟩ | ⟨rfl, rfl⟩ <;> decide

theorem add_any (a b : Int) (w : World) (ha : ok64 a = true) (hb : ok64 b = true) :
    Calls Tryz.prog 145 #[.int .i64 a, .int .i64 b] w fun e w' => e = .returned (.tuple #[.int .i64 (res (a + b)), .int .i64 (err (a + b))]) ∧ w = w' := by
  have HA := Lib.hid (ok_iff.1 ha)
  have HB := Lib.hid (ok_iff.1 hb)
  clear ha hb
  go_enter Tryz.func145, Tryz.ntmps145
  go_wp2_with fail
  all_goals
    first | rw [add_same a b HA.out HB.out (by assumption)] | rw [add_unlike a b HA.out HB.out (by assumption)]
    refine (within_any _ _ _).mono ?_
    rintro e w' ⟨rfl, rfl⟩
    go_wp2_with fail
    go_ret2
    exact ⟨pair_eq (sel_wrap _) rfl, rfl⟩

theorem mul_zero (a b : Int) (w : World) (h : a = 0 ∨ b = 0) :
    Calls Tryz.prog 144 #[.int .i64 a, .int .i64 b] w fun e w' => e = .returned (.tuple #[.int .i64 0, .int .i64 0]) ∧ w = w' := by
  by_cases h0 : a = 0
  · subst h0
    go_enter Tryz.func144, Tryz.ntmps144
    go_wp2
    go_ret2
    exact ⟨rfl, rfl⟩
  · have h1 : (a == 0) = false := by simpa using h0
    obtain rfl : b = 0 := by omega
    clear h h0
    go_enter Tryz.func144, Tryz.ntmps144
    go_wp2
    go_ret2
    exact ⟨rfl, rfl⟩

theorem mul_low (a b : Int) (w : World) (hl : (a = -9223372036854775808 ∧ b = -1) ∨ (b = -9223372036854775808 ∧ a = -1)) :
    Calls Tryz.prog 144 #[.int .i64 a, .int .i64 b] w fun e w' => e = .returned (.tuple #[.int .i64 0, .int .i64 8]) ∧ w = w' := by
  rcases hl with ⟨rfl, rfl⟩ | ⟨rfl, rfl⟩
  all_goals
    go_enter Tryz.func144, Tryz.ntmps144
    go_wp2_with fail
    refine (within_any _ _ _).mono ?_
    rintro e w' ⟨rfl, rfl⟩
    go_wp2_with fail
    go_ret2
    exact ⟨rfl, rfl⟩

set_option maxHeartbeats 400000 in
theorem mul_other (a b : Int) (w : World) (ha : ok64 a = true) (hb : ok64 b = true) (ha0 : (a == 0) = false) (hb0 : (b == 0) = false)
    (hl : ¬ ((a = -9223372036854775808 ∧ b = -1) ∨ (b = -9223372036854775808 ∧ a = -1))) :
    Calls Tryz.prog 144 #[.int .i64 a, .int .i64 b] w fun e w' => e = .returned (.tuple #[.int .i64 (res (a * b)), .int .i64 (err (a * b))]) ∧ w = w' := by
  have hne : b ≠ 0 := by simpa using hb0
  have HC := Lib.hid (mul_chk a b (ok_iff.1 ha) (ok_iff.1 hb) hne (fun h => hl (.inl h)))
  clear ha hb
  have hcase : ((a == -9223372036854775808) = false ∧ (b == -9223372036854775808) = false) ∨ ((a == -9223372036854775808) = true ∧ (b == -1) = false ∧ (b == -9223372036854775808) = false) ∨
      ((a == -9223372036854775808) = true ∧ (b == -1) = false ∧ (b == -9223372036854775808) = true ∧ (a == -1) = false) ∨ ((a == -9223372036854775808) = false ∧ (b == -9223372036854775808) = true ∧ (a == -1) = false) := by
    simp only [beq_iff_eq, beq_eq_false_iff_ne, ne_eq]
    omega
  clear hl
  rcases hcase with ⟨h1, h2⟩ | ⟨h1, h2, h3⟩ | ⟨h1, h2, h3, h4⟩ | ⟨h1, h2, h3⟩
  all_goals
    go_enter Tryz.func144, Tryz.ntmps144
    go_wp2_with fail
    rw [HC.out]
    refine (within_any _ _ _).mono ?_
    rintro e w' ⟨rfl, rfl⟩
    go_wp2_with fail
    go_ret2
    exact ⟨pair_eq (sel_wrap _) rfl, rfl⟩

theorem mul_any (a b : Int) (w : World) (ha : ok64 a = true) (hb : ok64 b = true) :
    Calls Tryz.prog 144 #[.int .i64 a, .int .i64 b] w fun e w' => e = .returned (.tuple #[.int .i64 (res (a * b)), .int .i64 (err (a * b))]) ∧ w = w' := by
  by_cases h0 : a = 0 ∨ b = 0
  · refine (mul_zero a b w h0).mono fun e w' ⟨h1, h2⟩ => ⟨h1.trans (pair_eq ?_ ?_), h2⟩
    · rcases h0 with rfl | rfl
      · rw [Int.zero_mul]; rfl
      · rw [Int.mul_zero]; rfl
    · rcases h0 with rfl | rfl
      · rw [Int.zero_mul]; rfl
      · rw [Int.mul_zero]; rfl
  · by_cases hl : (a = -9223372036854775808 ∧ b = -1) ∨ (b = -9223372036854775808 ∧ a = -1)
    · exact (mul_low a b w hl).mono fun e w' ⟨h1, h2⟩ => ⟨h1.trans (pair_eq (res_no (low_no a b hl)).symm (err_no (low_no a b hl)).symm), h2⟩
    · exact mul_other a b w ha hb (by simp; omega) (by simp; omega) hl

end Go.Proofs.YtmdnhinpaflamaaGreatDoor
namespace Go.Proofs.YtmdnhinpaflamaaGreatDoor
open Go.RowKit

/-- w' is w, but for new blocks and the blocks of S -/
structure Fr (S : List (Option Nat)) (w w' : World) : Prop where
  os : w'.os = w.os
  tape : w'.tape = w.tape
  output : w'.output = w.output
  size : w.heap.size ≤ w'.heap.size
  block : ∀ k, k < w.heap.size → some k ∉ S → w'.heap[k]? = w.heap[k]?

namespace Fr
variable {S S' : List (Option Nat)} {a b c w w' : World}
theorem refl (S : List (Option Nat)) (w : World) : Fr S w w := ⟨rfl, rfl, rfl, Nat.le_refl _, fun _ _ _ => rfl⟩
theorem mono (h : Fr S w w') (hS : ∀ k, some k ∈ S → some k ∈ S' ∨ w.heap.size ≤ k) : Fr S' w w' :=
  ⟨h.os, h.tape, h.output, h.size, fun k hk hn => h.block k hk fun hm => by rcases hS k hm with h1 | h1; exact hn h1; omega⟩
theorem trans' (h : Fr S a b) (k : Fr S' b c) (hS : ∀ i, some i ∈ S' → some i ∈ S ∨ a.heap.size ≤ i) : Fr S a c :=
  ⟨k.os.trans h.os, k.tape.trans h.tape, k.output.trans h.output, Nat.le_trans h.size k.size, fun i hi hn =>
    (k.block i (Nat.lt_of_lt_of_le hi h.size) fun hm => by rcases hS i hm with h1 | h1; exact hn h1; omega).trans (h.block i hi hn)⟩
theorem trans (h : Fr S a b) (k : Fr S b c) : Fr S a c := h.trans' k fun _ hi => .inl hi
theorem drew (h : Fr S a w) : Fr S a w.drew := ⟨h.os, h.tape, h.output, h.size, h.block⟩
theorem drewN (h : Fr S a w) (n : Nat) : Fr S a (w.drewN n) := ⟨h.os, h.tape, h.output, h.size, h.block⟩
theorem alloc (h : Fr S a w) (o : Obj) : Fr S a (w.alloc o) :=
  ⟨h.os, h.tape, h.output, Nat.le_trans h.size (by simp), fun i hi hne => (Below.heap_alloc w o i (Nat.lt_of_lt_of_le hi h.size)).trans (h.block i hi hne)⟩
theorem setCell (h : Fr S a w) {p : Addr} (hp : some p.block ∈ S ∨ a.heap.size ≤ p.block) (u : Value) : Fr S a (w.setCell p u) :=
  ⟨h.os, h.tape, h.output, by simpa [World.setCell] using h.size, fun i hi hne => (Below.heap_setCell w p u i (by
    rintro rfl
    rcases hp with hp | hp
    · exact hne hp
    · omega)).trans (h.block i hi hne)⟩
theorem grown {row : Option Nat} (h : w.grownBy w' row) : Fr [row] w w' := ⟨h.os, h.tape, h.output, h.size, fun k hk hn => h.block k hk (by simpa using hn)⟩
theorem blk (h : Fr S w w') {k : Nat} (hk : k < w.heap.size) (hn : some k ∉ S) : w'.heap[k]? = w.heap[k]? := h.block k hk hn
theorem cell (h : Fr S w w') {p : Addr} (hk : p.block < w.heap.size) (hn : some p.block ∉ S) : w'.cell? p = w.cell? p := World.cell?_of_block (h.block _ hk hn)
end Fr

/-- a block known whole, none of it frozen -/
def Blk (w : World) (b : Nat) (E : TypeId) (cs : List Value) : Prop := w.heap[b]? = some (.cells cs.toArray E)

namespace Blk
variable {w w' : World} {b : Nat} {E : TypeId} {cs : List Value}
theorem lt (h : Blk w b E cs) : b < w.heap.size := (Array.getElem?_eq_some_iff.1 h).1
theorem keep {S : List (Option Nat)} (h : Blk w b E cs) (hf : Fr S w w') (hn : some b ∉ S) : Blk w' b E cs := (hf.blk h.lt hn).trans h
theorem cell (h : Blk w b E cs) (j : Nat) : w.cell? ⟨b, j, none⟩ = cs[j]? := by
  unfold Blk at h
  simp [World.cell?, h]
theorem free (h : Blk w b E cs) (j : Nat) : w.frozen? ⟨b, j, none⟩ = false := by
  unfold Blk at h
  simp [World.frozen?, h]
theorem new (w : World) (E : TypeId) (cs : List Value) : Blk (w.alloc (.cells cs.toArray E)) w.heap.size E cs := heap_alloc_new w _
theorem set (h : Blk w b E cs) (j : Nat) (u : Value) : Blk (w.setCell ⟨b, j, none⟩ u) b E (cs.set j u) := by
  have hl := h.lt
  unfold Blk at *
  rw [Array.getElem?_eq_getElem hl] at h
  simp only [Option.some.injEq] at h
  simp [World.setCell, hl, h, Array.getElem_modify]
theorem drew (h : Blk w b E cs) : Blk w.drew b E cs := h
theorem drewN (h : Blk w b E cs) (n : Nat) : Blk (w.drewN n) b E cs := h
theorem alloc (h : Blk w b E cs) (o : Obj) : Blk (w.alloc o) b E cs := (Below.heap_alloc w o b h.lt).trans h
end Blk

/-- a slice that reads as 'n' elements of 'size' cells each, 'xs' all their cells; its spare room lies in its block too -/
def Row (w : World) (E : TypeId) (size : Nat) (v : Value) (n : Nat) (xs : List Value) : Prop :=
  xs.length = n * size ∧ ((v = .slice none 0 0 ∧ n = 0) ∨
    ∃ g off cap cur, v = .slice (some ⟨g, off, none⟩) n cap ∧ Blk w g E cur ∧ n ≤ cap ∧ cap ≤ maxLen ∧ off + cap * size ≤ cur.length ∧ (cur.drop off).take (n * size) = xs)

namespace Row
variable {w w' : World} {E : TypeId} {size : Nat} {v : Value} {n : Nat} {xs : List Value}
theorem nil (w : World) (E : TypeId) (size : Nat) : Row w E size (.slice none 0 0) 0 [] := ⟨by simp, .inl ⟨rfl, rfl⟩⟩
theorem of_owns {base : Nat} (h : w.ownsRow base E size v n xs) : Row w E size v n xs := by
  refine ⟨h.1, ?_⟩
  rcases h.2 with h | ⟨g, cap, cur, rfl, _, hg, hn, hc, hs, ht⟩
  · exact .inl h
  · exact .inr ⟨g, 0, cap, cur.toList, rfl, by simpa [Blk] using hg, hn, hc, by simp [hs], by simpa using ht⟩
theorem block_lt (h : Row w E size v n xs) {k : Nat} (hk : v.ownBlock = some k) : k < w.heap.size := by
  rcases h.2 with ⟨rfl, _⟩ | ⟨g, off, cap, cur, rfl, hb, _⟩
  · simp [Value.ownBlock] at hk
  · simp only [Value.ownBlock, Option.some.injEq] at hk; subst hk; exact hb.lt
theorem keep {S : List (Option Nat)} (h : Row w E size v n xs) (hf : Fr S w w') (hn : ∀ k, v.ownBlock = some k → some k ∉ S) : Row w' E size v n xs := by
  refine ⟨h.1, ?_⟩
  rcases h.2 with ⟨rfl, h0⟩ | ⟨g, off, cap, cur, rfl, hb, h1⟩
  · exact .inl ⟨rfl, h0⟩
  · exact .inr ⟨g, off, cap, cur, rfl, hb.keep hf (hn g rfl), h1⟩
theorem cells {g off cap : Nat} (h : Row w E size (.slice (some ⟨g, off, none⟩) n cap) n xs) : ∀ j, j < xs.length → w.cell? ⟨g, off + j, none⟩ = some (xs.getD j undef) := by
  intro j hj
  rcases h.2 with ⟨h0, _⟩ | ⟨g', off', cap', cur, he, hb, hnc, hcm, hsz, ht⟩
  · cases h0
  · cases he
    rw [hb.cell, ← ht]
    have hlen : off + cap * size ≤ cur.length := hsz
    have : n * size ≤ cap * size := Nat.mul_le_mul_right _ hnc
    have hx := h.1
    rw [List.getD_eq_getElem?_getD, List.getElem?_take_of_lt (by omega), List.getElem?_drop]
    rw [List.getElem?_eq_getElem (by omega)]
    rfl
theorem form (h : Row w E size v n xs) : (v = .slice none 0 0 ∧ n = 0 ∧ xs = []) ∨ ∃ g off cap, v = .slice (some ⟨g, off, none⟩) n cap ∧ n ≤ cap ∧ cap ≤ maxLen := by
  rcases h.2 with ⟨rfl, h0⟩ | ⟨g, off, cap, cur, rfl, hb, h1, h2, _⟩
  · exact .inl ⟨rfl, h0, List.eq_nil_of_length_eq_zero (by rw [h.1, h0]; simp)⟩
  · exact .inr ⟨g, off, cap, rfl, h1, h2⟩
/-- v[lo:hi:mx] -/
theorem cut {g off cap : Nat} (h : Row w E size (.slice (some ⟨g, off, none⟩) n cap) n xs) {lo hi mx : Nat} (h1 : lo ≤ hi) (h2 : hi ≤ n) (h3 : hi ≤ mx) (h4 : mx ≤ cap) :
    Row w E size (.slice (some ⟨g, off + lo * size, none⟩) (hi - lo) (mx - lo)) (hi - lo) ((xs.drop (lo * size)).take ((hi - lo) * size)) := by
  rcases h.2 with ⟨h0, _⟩ | ⟨g', off', cap', cur, he, hb, hnc, hcm, hsz, ht⟩
  · cases h0
  · cases he
    have e1 : n * size ≤ cap * size := Nat.mul_le_mul_right _ hnc
    have e2 : lo * size ≤ hi * size := Nat.mul_le_mul_right _ h1
    have e3 : hi * size ≤ n * size := Nat.mul_le_mul_right _ h2
    have e4 : mx * size ≤ cap * size := Nat.mul_le_mul_right _ h4
    have e5 : (hi - lo) * size = hi * size - lo * size := Nat.sub_mul ..
    have e6 : (mx - lo) * size = mx * size - lo * size := Nat.sub_mul ..
    have e7 : lo * size ≤ mx * size := Nat.mul_le_mul_right _ (by omega)
    refine ⟨by simp [h.1]; omega, .inr ⟨g, off + lo * size, mx - lo, cur, rfl, hb, by omega, by omega, by omega, ?_⟩⟩
    rw [← ht, List.drop_take, List.drop_drop, List.take_take]
    congr 1
    omega
end Row

theorem storeCells_blk {P : Program} {g : Nat} {E : TypeId} : ∀ (news : List Value) (k : Nat) (cur : List Value) (w : World), Blk w g E cur → k + news.length ≤ cur.length →
    Fr [some g] w (w.setCells g k news) ∧ Blk (w.setCells g k news) g E (cur.take k ++ news ++ cur.drop (k + news.length))
  | [], k, cur, w, hb, hk => ⟨Fr.refl _ _, by simpa [World.setCells] using hb⟩
  | u :: news, k, cur, w, hb, hk => by
    have hk' : k + (news.length + 1) ≤ cur.length := by simpa using hk
    have h1 := hb.set k u
    have ih := storeCells_blk (P := P) news (k + 1) (cur.set k u) (w.setCell ⟨g, k, none⟩ u) h1 (by simp; omega)
    have e : w.setCells g k (u :: news) = (w.setCell ⟨g, k, none⟩ u).setCells g (k + 1) news := rfl
    rw [e]
    refine ⟨((Fr.refl [some g] w).setCell (p := ⟨g, k, none⟩) (.inl (by simp)) u).trans ih.1, ?_⟩
    have e2 : (cur.set k u).take (k + 1) ++ news ++ (cur.set k u).drop (k + 1 + news.length) = cur.take k ++ (u :: news) ++ cur.drop (k + (u :: news).length) := by
      rw [List.drop_set_of_lt (by omega)]
      have : (cur.set k u).take (k + 1) = cur.take k ++ [u] := by
        rw [List.take_add_one, List.take_set_of_le (by omega)]
        simp [show k < cur.length by omega]
      rw [this]
      simp only [List.append_assoc, List.singleton_append, List.length_cons]
      rw [show k + 1 + news.length = k + (news.length + 1) by omega]
    rw [← e2]
    exact ih.2

/-- APPEND: both arms. -/
theorem run_append_row {P : Program} {w : World} (t ty E : TypeId) (i : TypeInfo) (z : Value) (size bytes : Nat) (ht : P.underlying t = some (.slice E)) (hi : P.info? E = some i) (hz : i.zero = some z)
    (hsize : i.size = size) (hby : i.bytes = bytes) (hzs : z.cells.size = size) (hsz : 0 < size)
    (v : Value) (n : Nat) (xs : List Value) (hrow : Row w E size v n xs)
    (a : Addr) (m c : Nat) (news : List Value) (hl : news.length = m * size) (hnews : ∀ j u, news[j]? = some u → w.cell? (a.add j) = some u) (h1 : ∀ u ∈ news, u.oneCell' = true)
    (h63 : n + m ≤ maxLen) (hbytes : (n + m) * bytes ≤ 140737488355328) :
    ∃ v' w', (Builtin.append_ #[t, t] ty #[v, .slice (some a) m c]).run P w = .ok v' w' ∧ Row w' E size v' (n + m) (xs ++ news) ∧ Fr [v.ownBlock] w w' ∧
      (v'.ownBlock = v.ownBlock ∨ ∃ k, w.heap.size ≤ k ∧ v'.ownBlock = some k) ∧ (v' = .slice none 0 0 → n + m = 0) := by
  rcases hrow.2 with ⟨rfl, rfl⟩ | ⟨g, off, cap, cur, rfl, hb, hnc, hcm, hcs, htake⟩
  · have hx : xs = [] := List.eq_nil_of_length_eq_zero (by simpa using hrow.1)
    subst hx
    obtain ⟨v', w', r1, r2, r3, r4⟩ := run_append_own (P := P) w w.heap.size t ty E i z size bytes ht hi hz hsize hby hzs hsz (.slice none 0 0) 0 [] (World.ownsRow_nil w _ E size) a m c news hl hnews h1 h63 hbytes (Nat.le_refl _)
    refine ⟨v', w', r1, Row.of_owns r2, Fr.grown r3, ?_, fun h => by have := r4.1 h; omega⟩
    rcases hv : v'.ownBlock with _ | k
    · exact .inl rfl
    · exact .inr ⟨k, (r2.lt k hv).1, rfl⟩
  · by_cases hr : n + m ≤ cap
    · subst hsize
      have e1 : n * i.size + m * i.size ≤ cap * i.size := by rw [← Nat.add_mul]; exact Nat.mul_le_mul_right _ hr
      have hrun := run_append_room_cells (P := P) w t ty E i ht hi g off n cap a m c news hl hnews h1 hr (fun j hj => by rw [hb.cell]; simp; omega) (fun j _ => hb.free _)
      obtain ⟨hf, hb'⟩ := storeCells_blk (P := P) news (off + n * i.size) cur w hb (by omega)
      refine ⟨_, _, hrun, ⟨by simp [hrow.1, hl, Nat.add_mul], .inr ⟨g, off, cap, _, rfl, hb', hr, hcm, ?_, ?_⟩⟩, hf, .inl rfl, fun h => by cases h⟩
      · simp; omega
      · have e2 : (n + m) * i.size = n * i.size + m * i.size := Nat.add_mul ..
        have hlt : (cur.take (off + n * i.size)).length = off + n * i.size := by simp; omega
        rw [List.append_assoc, List.drop_append_of_le_length (by omega), List.drop_take]
        rw [show off + n * i.size - off = n * i.size by omega, htake, e2, ← hrow.1, ← hl, List.take_append, List.take_of_length_le (by omega)]
        congr 1
        rw [show xs.length + news.length - xs.length = news.length by omega]
        simp
    · have holds : ∀ j u, xs[j]? = some u → w.cell? ((⟨g, off, none⟩ : Addr).add j) = some u := fun j u hj => by
        have hlt := (List.getElem?_eq_some_iff.1 hj).1
        rw [Addr.add_lit, Row.cells hrow j hlt, List.getD_eq_getElem?_getD, hj]
        rfl
      obtain ⟨v', w', r1, r2, r3⟩ := run_append_arg_grows (P := P) w t ty E i z size bytes ht hi hz hsize hby hzs hsz ⟨g, off, none⟩ n cap xs hrow.1 holds a m c news hl hnews (by omega) h63 hbytes
      refine ⟨v', w', r1, Row.of_owns r2, (Fr.grown r3).mono (by simp), ?_, fun h => by
        rcases r2.2 with ⟨_, h0⟩ | ⟨g, cap, cur, hv, _⟩
        · exact h0
        · rw [h] at hv; cases hv⟩
      rcases hv : v'.ownBlock with _ | k
      · rcases r2.2 with ⟨_, h0⟩ | ⟨g, cap, cur, hv', _⟩
        · omega
        · rw [hv'] at hv; cases hv
      · exact .inr ⟨k, (r2.lt k hv).1, rfl⟩

theorem wpList_append_row {P : Program} {w : World} {ops : Array Oper} {rest : List Oper} {o : Oper} {a : Act} {Q : Exit → Act → World → Prop} (hgd : o.guard = none) (s x : Operand) (t : TypeId)
    (ho : o.op = .call { callee := .builtin .append, args := #[s, x], argTypes := #[t, t] })
    (E : TypeId) (i : TypeInfo) (z : Value) (size bytes : Nat) (ht : P.underlying t = some (.slice E)) (hi : P.info? E = some i) (hz : i.zero = some z)
    (hsize : i.size = size) (hby : i.bytes = bytes) (hzs : z.cells.size = size) (hsz : 0 < size)
    (v : Value) (n : Nat) (xs : List Value) (hs : a.eval s = v) (hrow : Row w E size v n xs)
    (ad : Addr) (m c : Nat) (news : List Value) (hx : a.eval x = .slice (some ad) m c) (hl : news.length = m * size) (hnews : ∀ j u, news[j]? = some u → w.cell? (ad.add j) = some u) (h1 : ∀ u ∈ news, u.oneCell' = true)
    (h63 : n + m ≤ maxLen) (hbytes : (n + m) * bytes ≤ 140737488355328)
    (h : ∀ v' w', Row w' E size v' (n + m) (xs ++ news) → Fr [v.ownBlock] w w' → (v'.ownBlock = v.ownBlock ∨ ∃ k, w.heap.size ≤ k ∧ v'.ownBlock = some k) → wpList P ops Q rest (a.put o.dst v') w') : wpList P ops Q (o :: rest) a w :=
  wpList_plain hgd fun K hK => by
    obtain ⟨v', w', hr, h2, h3, h4, _⟩ := run_append_row (P := P) t o.type E i z size bytes ht hi hz hsize hby hzs hsz v n xs hrow ad m c news hl hnews h1 h63 hbytes
    unfold Oper.wp execOp
    simp only [ho, resolve, invoke, builtin, Sem.run_bind, Sem.run_pure, Result.andThen_ok, List.map_toArray, List.map_cons, List.map_nil, hs, hx, hr]
    exact hK _ _ (h v' w' h2 h3 h4)

end Go.Proofs.YtmdnhinpaflamaaGreatDoor
namespace Go.Proofs.YtmdnhinpaflamaaGreatDoor
open Go.RowKit

/-- '[]byte(s)' -/
theorem bytes_of {P : Program} {src dst e : TypeId} (hs : P.underlying src = some .string) (hd : P.underlying dst = some (.slice e)) (he : P.underlying e = some (.int .u8)) (w : World) (l : List UInt8) :
    ∃ cap w', (convert src dst (.string ⟨l.toArray⟩)).run P w = .ok (.slice (some ⟨w.heap.size, 0, none⟩) l.length cap) w' ∧ (∀ j, j < l.length → w'.cell? ⟨w.heap.size, j, none⟩ = some (.int .u8 ((l.getD j 0).toNat : Int))) ∧
      Fr [] w w' ∧ w.heap.size < w'.heap.size := by
  refine ⟨_, _, run_bytes_of_string w src dst e ⟨l.toArray⟩ hs hd he, fun j hj => ?_, ((Fr.refl _ _).drew).alloc _, by simp⟩
  have := World.cell?_alloc_mark w.drew (bytesRow ⟨l.toArray⟩ (grownCap w (ByteArray.mk l.toArray).size 0 e)) e ((bytesRow ⟨l.toArray⟩ (grownCap w (ByteArray.mk l.toArray).size 0 e)).size, (bytesRow ⟨l.toArray⟩ (grownCap w (ByteArray.mk l.toArray).size 0 e)).size + 1) j
  refine (this.trans (bytesRow_at _ _ j (by simpa using hj))).trans ?_
  rw [List.getD_eq_getElem?_getD, List.getElem?_eq_getElem hj]
  rfl

/-- 'string([]byte{x})', the bytes just laid -/
theorem str_of_one {P : Program} {src dst e : TypeId} (hs : P.underlying src = some (.slice e)) (hd : P.underlying dst = some .string) (he : P.underlying e = some (.int .u8)) (w : World) (x : Int) (cap : Nat) :
    (convert src dst (.slice (some ⟨w.heap.size, 0, none⟩) 1 cap)).run P (w.alloc (.cells #[.int .u8 x] e)) = .ok (.string ⟨[UInt8.ofNat x.toNat].toArray⟩) (w.alloc (.cells #[.int .u8 x] e)) := by
  refine run_convert_bytes_arg _ src e hs he w.heap.size 0 1 cap [x] rfl (fun i hi => ?_) dst hd
  have hb := Blk.new w e [.int .u8 x]
  rw [Nat.zero_add, hb.cell i]
  obtain rfl : i = 0 := by omega
  rfl

end Go.Proofs.YtmdnhinpaflamaaGreatDoor
namespace Go.Proofs.YtmdnhinpaflamaaGreatDoor
open Go.RowKit

namespace Parse
/-- a digit -/
def dig (c : UInt8) : Bool := decide (48 ≤ c.toNat ∧ c.toNat ≤ 57)
/-- one step of num.Parse: the number so far, and whether it has run over -/
def step (p : Int × Bool) (c : UInt8) : Int × Bool := (res (res (p.1 * 10) + ((c.toNat : Int) - 48)), p.2 || err (p.1 * 10) != 0 || err (res (p.1 * 10) + ((c.toNat : Int) - 48)) != 0)
def pst (l : List UInt8) : Int × Bool := l.foldl step (0, false)
def val (l : List UInt8) : Nat := l.foldl (fun v c => v * 10 + (c.toNat - 48)) 0
theorem pst_snoc (l : List UInt8) (c : UInt8) : pst (l ++ [c]) = step (pst l) c := by simp [pst]
theorem val_snoc (l : List UInt8) (c : UInt8) : val (l ++ [c]) = val l * 10 + (c.toNat - 48) := by simp [val]
theorem ok_res (x : Int) : ok64 (res x) = true := by
  unfold res
  split
  · assumption
  · decide
theorem pst_val (l : List UInt8) (hd : l.all dig = true) : (ok64 (val l) = true → pst l = ((val l : Int), false)) ∧ (ok64 (val l) = false → (pst l).2 = true) := by
  induction h : l.length generalizing l with
  | zero => obtain rfl := List.eq_nil_of_length_eq_zero h; exact ⟨fun _ => rfl, fun h => by cases h⟩
  | succ n ih =>
    rcases List.eq_nil_or_concat l with rfl | ⟨r, c, rfl⟩
    · simp at h
    rw [List.concat_eq_append] at *
    have hr : r.all dig = true ∧ dig c = true := by simpa using hd
    obtain ⟨i1, i2⟩ := ih r hr.1 (by simpa using h)
    have hc : 48 ≤ c.toNat ∧ c.toNat ≤ 57 := by simpa [dig] using hr.2
    rw [pst_snoc, val_snoc]
    generalize hv : val r = v at *
    cases ho : ok64 (v : Int)
    · have := i2 ho
      rw [no_iff] at ho
      constructor
      · intro hh; rw [ok_iff] at hh; omega
      · intro _; simp [step, this]
    · rw [i1 ho]
      rw [ok_iff] at ho
      constructor
      · intro hh
        rw [ok_iff] at hh
        have e1 : ok64 ((v : Int) * 10) = true := ok_iff.2 (by omega)
        have e2 : ok64 ((v : Int) * 10 + ((c.toNat : Int) - 48)) = true := ok_iff.2 (by omega)
        simp only [step, res_ok e1, err_ok e1, res_ok e2, err_ok e2]
        simp
        omega
      · intro hh
        rw [no_iff] at hh
        cases e1 : ok64 ((v : Int) * 10)
        · simp [step, err_no e1]
        · have e2 : ok64 ((v : Int) * 10 + ((c.toNat : Int) - 48)) = false := no_iff.2 (by omega)
          simp [step, res_ok e1, err_no e2]

/-- what it comes to -/
def bad (l : List UInt8) : Bool := l.isEmpty || !l.all dig
def parseV (l : List UInt8) : Int := if bad l then 0 else res (val l)
def parseE (l : List UInt8) : Int := if bad l then 3 else err (val l)

theorem bad_nil : bad [] = true := rfl
theorem parse_bad {l : List UInt8} (h : bad l = true) : Ending.returned (.tuple #[.int .i64 0, .int .i64 3]) = .returned (.tuple #[.int .i64 (parseV l), .int .i64 (parseE l)]) := by simp [parseV, parseE, h]
theorem parse_good {l : List UInt8} {n : Int} (h : bad l = false) (hp : pst l = (n, false)) : Ending.returned (.tuple #[.int .i64 n, .int .i64 0]) = .returned (.tuple #[.int .i64 (parseV l), .int .i64 (parseE l)]) := by
  simp only [bad, Bool.or_eq_false_iff, Bool.not_eq_false'] at h
  obtain ⟨i1, i2⟩ := pst_val l h.2
  cases ho : ok64 (val l : Int)
  · have := i2 ho; rw [hp] at this; cases this
  · have := i1 ho
    rw [hp] at this
    have hb : bad l = false := by simp [bad, h]
    simp only [parseV, parseE, hb, Bool.false_eq_true, if_false, res_ok ho, err_ok ho]
    simp at this
    rw [this]
theorem parse_over {l : List UInt8} {n : Int} (h : bad l = false) (hp : pst l = (n, true)) : Ending.returned (.tuple #[.int .i64 0, .int .i64 8]) = .returned (.tuple #[.int .i64 (parseV l), .int .i64 (parseE l)]) := by
  simp only [bad, Bool.or_eq_false_iff, Bool.not_eq_false'] at h
  obtain ⟨i1, i2⟩ := pst_val l h.2
  have hb : bad l = false := by simp [bad, h]
  cases ho : ok64 (val l : Int)
  · simp [parseV, parseE, hb, res_no ho, err_no ho]
  · have := i1 ho; rw [hp] at this; simp at this

theorem bad_of {l : List UInt8} {k : Nat} {c : UInt8} (h : k < l.length) (hc : l[k] = c) (hd : dig c = false) : bad l = true := by
  simp only [bad, Bool.or_eq_true, Bool.not_eq_true', List.all_eq_false]
  exact .inr ⟨c, by rw [← hc]; exact List.getElem_mem _, by simp [hd]⟩

set_option maxHeartbeats 1000000 in
theorem parse_any (l : List UInt8) (w : World) (hs : l.length ≤ 1000000) :
    Calls Tryz.prog 132 #[.string ⟨l.toArray⟩] w fun e w' => e = .returned (.tuple #[.int .i64 (parseV l), .int .i64 (parseE l)]) ∧ Fr [] w w' := by
  cases hem : l.isEmpty
  case true =>
    obtain rfl : l = [] := by simpa using hem
    go_enter Tryz.func132, Tryz.ntmps132
    go_wp2_with fail
    go_ret2
    exact ⟨parse_bad rfl, Fr.refl _ _⟩
  obtain ⟨cap, w1, hcv, hcell, hf1, hsz⟩ := bytes_of (P := Tryz.prog) Tryz.underlying9 Tryz.underlying35 Tryz.underlying5 w l
  go_enter Tryz.func132, Tryz.ntmps132
  go_wp2_with fail
  clear hcv hsz
  have HE := Lib.hid hem
  have HC := Lib.hid hcell
  clear hcell hem
  go_loop [4, 5, 17] (fun n ov i => ∃ (k : Nat) (m : Int) (o : Bool), k ≤ l.length ∧ i = .int .i64 k ∧ n = .int .i64 m ∧ ov = .bool o ∧ Hid (pst (l.take k) = (m, o)) ∧ Hid ((l.take k).all dig = true) ∧ Hid (ok64 m = true)) (fun _ _ i => l.length - (intOf i).toNat)
  case atStart => exact ⟨0, 0, false, by omega, rfl, rfl, rfl, rfl, rfl, rfl⟩
  case round =>
    obtain ⟨k, m, o, hk, rfl, rfl, rfl, HP, HD, HM⟩ := hrel
    by_cases hlt : k < l.length
    · obtain ⟨c, hc⟩ : ∃ c, l[k] = c := ⟨_, rfl⟩
      have hcell : w1.cell? ⟨w.heap.size, k, none⟩ = some (.int .u8 (c.toNat : Int)) := by
        rw [HC.out k hlt, List.getD_eq_getElem?_getD, List.getElem?_eq_getElem hlt, hc]; rfl
      have HCC := Lib.hid hc
      clear hc
      have hc1 : (c.toNat : Int) ≤ 255 := by have := c.toNat_lt; omega
      cases hd : dig c
      · have hb := Lib.hid (bad_of hlt HCC.out hd)
        have hd' : c.toNat < 48 ∨ (48 ≤ c.toNat ∧ 57 < c.toNat) := by simp [dig] at hd; omega
        clear hd
        rcases hd' with h | ⟨h, h'⟩
        all_goals
          go_wp2_with fail
          go_ret2
          exact ⟨parse_bad hb.out, hf1⟩
      · have hd' : 48 ≤ c.toNat ∧ c.toNat ≤ 57 := by simpa [dig] using hd
        obtain ⟨h1, h2⟩ := hd'
        have HD' := Lib.hid hd
        clear hd
        obtain ⟨y, hy⟩ : ∃ y : Int, (c.toNat : Int) = y := ⟨_, rfl⟩
        have h1' : (48 : Int) ≤ y := by omega
        have h2' : y ≤ 57 := by omega
        rw [hy] at hcell
        have HY := Lib.hid hy
        clear h1 h2 hy hc1
        have HOK := Lib.hid (ok_iff.2 ⟨by omega, by omega⟩ : ok64 (y - 48) = true)
        have e1 : l.take (k + 1) = l.take k ++ [c] := by rw [List.take_succ_eq_append_getElem hlt, HCC.out]
        have HS : Hid (pst (l.take (k + 1)) = (res (res (m * 10) + (y - 48)), o || err (m * 10) != 0 || err (res (m * 10) + (y - 48)) != 0)) := by
          rw [Hid, e1, pst_snoc, HP.out, step, HY.out]
        have HD2 : Hid ((l.take (k + 1)).all dig = true) := by
          rw [Hid, e1, List.all_append, HD.out]; simp [HD'.out]
        clear e1
        obtain ⟨b1, hb1⟩ : ∃ b1, (err (m * 10) != 0) = b1 := ⟨_, rfl⟩
        obtain ⟨b2, hb2⟩ : ∃ b2, (err (res (m * 10) + (y - 48)) != 0) = b2 := ⟨_, rfl⟩
        rw [hb1, hb2] at HS
        go_wp2_with fail
        refine (mul_any m 10 _ HM.out (by decide)).mono ?_
        rintro e w' ⟨rfl, rfl⟩
        go_wp2_with fail
        refine (add_any (res (m * 10)) (y - 48) _ (ok_res _) HOK.out).mono ?_
        rintro e w' ⟨rfl, rfl⟩
        cases o <;> cases b1 <;> cases b2
        all_goals
          go_wp2_with fail
          go_round
          case rel => exact ⟨k + 1, _, _, by omega, by go_num, rfl, rfl, HS, HD2, ok_res _⟩
          case measure => simp [intOf]; omega
    · have hkl : l.take k = l := List.take_of_length_le (by omega)
      rw [hkl] at HP HD
      have hg : Hid (bad l = false) := by
        have h1 := HE.out
        have h2 := HD.out
        simp [Hid, bad, h1, h2]
      clear hkl
      cases o
      · go_wp2_with fail
        go_ret2
        exact ⟨parse_good hg.out HP.out, hf1⟩
      · go_wp2_with fail
        go_ret2
        exact ⟨parse_over hg.out HP.out, hf1⟩
end Parse
end Go.Proofs.YtmdnhinpaflamaaGreatDoor
namespace Go.Proofs.YtmdnhinpaflamaaGreatDoor
open Go.RowKit

namespace Lx
/-- the reader lies in block R, at place p of S -/
def Rd (w : World) (R : Nat) (S : List UInt8) (p : Nat) : Prop := Blk w R 92 [.string ⟨S.toArray⟩, .int .i64 p]

theorem Rd.c0 {w : World} {R : Nat} {S : List UInt8} {p : Nat} (h : Rd w R S p) : w.cell? ⟨R, 0, none⟩ = some (.string ⟨S.toArray⟩) := h.cell 0
theorem Rd.c1 {w : World} {R : Nat} {S : List UInt8} {p : Nat} (h : Rd w R S p) : w.cell? ⟨R, 1, none⟩ = some (.int .i64 p) := h.cell 1

theorem letter_any (c : UInt8) (w : World) : Calls Tryz.prog 93 #[.int .u8 (c.toNat : Int)] w fun e w' => e = .returned (.bool (LexM.letter c)) ∧ w' = w := by
  have hc := c.toNat_lt
  obtain ⟨y, hy⟩ : ∃ y : Int, (c.toNat : Int) = y := ⟨_, rfl⟩
  have hv : LexM.letter c = (decide (97 ≤ y ∧ y ≤ 122) || decide (y = 95)) := by
    have e : (c == 95) = decide (y = 95) := by
      rw [← hy]
      by_cases h : c = 95
      · subst h; rfl
      · have : ¬ ((c.toNat : Int) = 95) := fun he => h (UInt8.toNat_inj.1 (by simpa using (by omega : c.toNat = 95)))
        simp [h, this]
    unfold LexM.letter
    rw [e]
    congr 1
    rw [decide_eq_decide]
    omega
  rw [hv, hy]
  have h0 : 0 ≤ y ∧ y ≤ 255 := by omega
  obtain ⟨h1, h2⟩ := h0
  have HV := Lib.hid hv
  clear hv hy hc
  rcases (by omega : y < 95 ∨ y = 95 ∨ (95 < y ∧ y < 97) ∨ (97 ≤ y ∧ y ≤ 122) ∨ (97 ≤ y ∧ 122 < y)) with h | rfl | ⟨h, h'⟩ | ⟨h, h'⟩ | ⟨h, h'⟩
  all_goals
    go_enter Tryz.func93, Tryz.ntmps93
    go_wp2_with fail
    go_ret
    refine ⟨?_, rfl⟩
    congr 2
    try simp
    try (rw [Bool.eq_iff_iff]; simp; omega)
    try omega

theorem digit_any (c : UInt8) (w : World) : Calls Tryz.prog 95 #[.int .u8 (c.toNat : Int)] w fun e w' => e = .returned (.bool (LexM.dig c)) ∧ w' = w := by
  have hc := c.toNat_lt
  obtain ⟨y, hy⟩ : ∃ y : Int, (c.toNat : Int) = y := ⟨_, rfl⟩
  have hv : LexM.dig c = decide (48 ≤ y ∧ y ≤ 57) := by
    unfold LexM.dig
    rw [decide_eq_decide]
    omega
  rw [hv, hy]
  have h0 : 0 ≤ y ∧ y ≤ 255 := by omega
  obtain ⟨h1, h2⟩ := h0
  have HV := Lib.hid hv
  clear hv hy hc
  rcases (by omega : y < 48 ∨ (48 ≤ y ∧ y ≤ 57) ∨ (48 ≤ y ∧ 57 < y)) with h | ⟨h, h'⟩ | ⟨h, h'⟩
  all_goals
    go_enter Tryz.func95, Tryz.ntmps95
    go_wp2_with fail
    go_ret
    refine ⟨?_, rfl⟩
    congr 2
    try simp
    try (rw [Bool.eq_iff_iff]; simp; omega)
    try omega

def blank (c : UInt8) : Bool := c == 32
theorem blank_any (c : UInt8) (w : World) : Calls Tryz.prog 48 #[.int .u8 (c.toNat : Int)] w fun e w' => e = .returned (.bool (blank c)) ∧ w' = w := by
  obtain ⟨y, hy⟩ : ∃ y : Int, (c.toNat : Int) = y := ⟨_, rfl⟩
  have hv : blank c = decide (y = 32) := by
    unfold blank
    rw [← hy]
    by_cases h : c = 32
    · subst h; rfl
    · have : ¬ ((c.toNat : Int) = 32) := fun he => h (UInt8.toNat_inj.1 (by simpa using (by omega : c.toNat = 32)))
      simp [h, this]
  rw [hv, hy]
  have HV := Lib.hid hv
  clear hv hy
  go_enter Tryz.func48, Tryz.ntmps48
  go_wp2_with fail
  go_ret
  exact ⟨rfl, rfl⟩

theorem nameb_any (c : UInt8) (w : World) : Calls Tryz.prog 129 #[.int .u8 (c.toNat : Int)] w fun e w' => e = .returned (.bool (LexM.nameByte c)) ∧ w' = w := by
  unfold LexM.nameByte
  go_enter Tryz.func129, Tryz.ntmps129
  go_wp2_with fail
  refine (letter_any c w).mono ?_
  rintro e w1 ⟨rfl, rfl⟩
  cases h : LexM.letter c
  · go_wp2_with fail
    refine (digit_any c w1).mono ?_
    rintro e w2 ⟨rfl, rfl⟩
    go_wp2_with fail
    go_ret
    exact ⟨by simp [h], rfl⟩
  · go_wp2_with fail
    go_ret
    exact ⟨by simp [h], rfl⟩

/-- the byte at hand; 0: there is none -/
def at0 (S : List UInt8) (p : Nat) : UInt8 := (S.drop p).headD 0
theorem at0_lt {S : List UInt8} {p : Nat} (h : p < S.length) : at0 S p = S[p] := by
  unfold at0; rw [List.drop_eq_getElem_cons h]; rfl
theorem at0_ge {S : List UInt8} {p : Nat} (h : S.length ≤ p) : at0 S p = 0 := by
  unfold at0; rw [List.drop_eq_nil_of_le h]; rfl

theorem next_any (R : Nat) (S : List UInt8) (p : Nat) (w : World) (hr : Rd w R S p) :
    Calls Tryz.prog 92 #[.pointer (some ⟨R, 0, none⟩)] w fun e w' => e = .returned (.int .u8 ((at0 S p).toNat : Int)) ∧ Rd w' R S p ∧ Fr [] w w' := by
  have h0 := hr.c0
  have h1 := hr.c1
  have HR := Lib.hid hr
  clear hr
  by_cases h : p < S.length
  · obtain ⟨c, hc⟩ : ∃ c, S[p] = c := ⟨_, rfl⟩
    have HA : Hid (at0 S p = c) := (at0_lt h).trans hc
    have hc' : (ByteArray.mk S.toArray)[p]'(show p < S.toArray.size by simpa using h) = c := hc
    have hp0 : (p : Int) < (S.length : Int) := by omega
    go_enter Tryz.func92, Tryz.ntmps92
    go_wp2_with fail
    go_quiet (fail)
    go_wp2_with fail
    go_quiet (fail)
    go_wp2_with fail
    go_ret
    exact ⟨by rw [HA.out]; rfl, (HR.out.drewN _).drewN _, ((Fr.refl _ _).drewN _).drewN _⟩
  · have HA : Hid (at0 S p = 0) := at0_ge (by omega)
    have hp0 : (S.length : Int) ≤ (p : Int) := by omega
    go_enter Tryz.func92, Tryz.ntmps92
    go_wp2_with fail
    go_quiet (fail)
    go_wp2_with fail
    go_ret
    exact ⟨by rw [HA.out]; rfl, HR.out.drewN _, (Fr.refl _ _).drewN _⟩
end Lx
end Go.Proofs.YtmdnhinpaflamaaGreatDoor
namespace Go.Proofs.YtmdnhinpaflamaaGreatDoor
open Go.RowKit

namespace Lx
theorem bytes_ext {a b : ByteArray} (h : a.data.toList = b.data.toList) : a = b := by
  cases a; cases b; simp at h; subst h; rfl
theorem extract_eq (S : List UInt8) (p q : Nat) : (ByteArray.mk S.toArray).extract p q = ⟨((S.drop p).take (q - p)).toArray⟩ := by
  apply bytes_ext
  simp [ByteArray.data_extract, List.extract_eq_take_drop]

def StopAt (f : UInt8 → Bool) (S : List UInt8) (p q : Nat) : Prop := (S.drop p).takeWhile f = (S.drop p).take (q - p) ++ (S.drop q).takeWhile f
theorem StopAt.zero (f : UInt8 → Bool) (S : List UInt8) (p : Nat) : StopAt f S p p := by simp [StopAt]
theorem StopAt.next {f : UInt8 → Bool} {S : List UInt8} {p q : Nat} (h : StopAt f S p q) (h1 : p ≤ q) (h2 : q < S.length) (hf : f S[q] = true) : StopAt f S p (q + 1) := by
  unfold StopAt at *
  rw [h, List.drop_eq_getElem_cons h2, List.takeWhile_cons, if_pos hf, show q + 1 - p = q - p + 1 by omega, List.take_add_one]
  simp
  rw [show p + (q - p) = q by omega, List.getElem?_eq_getElem h2]
  simp
theorem StopAt.done {f : UInt8 → Bool} {S : List UInt8} {p q : Nat} (h : StopAt f S p q) (h1 : p ≤ q) (hl : q ≤ S.length) (h2 : q < S.length → f (at0 S q) = false) : (S.drop p).takeWhile f = (S.drop p).take (q - p) ∧ q = p + ((S.drop p).takeWhile f).length := by
  have he : (S.drop q).takeWhile f = [] := by
    by_cases hlt : q < S.length
    · rw [List.drop_eq_getElem_cons hlt, List.takeWhile_cons, if_neg]
      have := h2 hlt
      rw [at0_lt hlt] at this
      simp [this]
    · rw [List.drop_eq_nil_of_le (by omega)]; rfl
  unfold StopAt at h
  rw [he, List.append_nil] at h
  rw [h]
  exact ⟨rfl, by simp; omega⟩

theorem Rd.set {w : World} {R : Nat} {S : List UInt8} {p : Nat} (h : Rd w R S p) (q : Nat) : Rd (w.setCell ⟨R, 1, none⟩ (.int .i64 q)) R S q := by
  have := Blk.set h 1 (.int .i64 q)
  exact this
theorem Rd.keep {w w' : World} {R : Nat} {S : List UInt8} {p : Nat} {X : List (Option Nat)} (h : Rd w R S p) (hf : Fr X w w') (hn : some R ∉ X) : Rd w' R S p := Blk.keep h hf hn
theorem Rd.drewN {w : World} {R : Nat} {S : List UInt8} {p : Nat} (h : Rd w R S p) (n : Nat) : Rd (w.drewN n) R S p := h

set_option maxHeartbeats 1000000 in
theorem while_any (k : Nat) (f : UInt8 → Bool) (hrun : ∀ (v : Value) (w : World), Sem.run Tryz.prog (callFunc k #[v]) w = .ok (.enter k #[v]) w) (hk : ∀ (c : UInt8) (w : World), Calls Tryz.prog k #[.int .u8 (c.toNat : Int)] w fun e w' => e = .returned (.bool (f c)) ∧ w' = w)
    (R : Nat) (S : List UInt8) (p : Nat) (w : World) (hr : Rd w R S p) (hS : S.length ≤ 1000000) (hp : p ≤ S.length) :
    Calls Tryz.prog 47 #[.pointer (some ⟨R, 0, none⟩), .func (.func k) #[] #[]] w fun e w' =>
      e = .returned (.string ⟨((S.drop p).takeWhile f).toArray⟩) ∧ Rd w' R S (p + ((S.drop p).takeWhile f).length) ∧ Fr [some R] w w' := by
  have h0 := hr.c0
  have h1 := hr.c1
  have HR := Lib.hid hr
  have HK := Lib.hid hk
  have HS := Lib.hid hS
  have HRUN := Lib.hid hrun
  clear hr hk hS hrun
  go_enter Tryz.func47, Tryz.ntmps47
  go_wp2_with fail
  clear h0 h1
  go_loopw [] (fun wr => ∃ q : Nat, p ≤ q ∧ q ≤ S.length ∧ Hid (StopAt f S p q) ∧ Rd wr R S q ∧ Fr [some R] w wr) (fun wr => S.length - (intOf ((wr.cell? ⟨R, 1, none⟩).getD undef)).toNat)
  case atStart => exact ⟨p, by omega, hp, StopAt.zero f S p, HR.out, Fr.refl _ _⟩
  case round =>
    obtain ⟨q, hpq, hq, HT, hr, hfr⟩ := hrel
    have h0 := hr.c0
    have h1 := hr.c1
    have HQ := Lib.hid hr
    clear hr
    by_cases hlt : q < S.length
    · obtain ⟨c, hc⟩ : ∃ c, S[q] = c := ⟨_, rfl⟩
      have hc' : (ByteArray.mk S.toArray)[q]'(show q < S.toArray.size by simpa using hlt) = c := hc
      have hp0 : (q : Int) < (S.length : Int) := by omega
      have hd : decide ((q : Int) < (S.length : Int)) = true := by simp; omega
      cases hb : f c
      · have HD : Hid _ := HT.out.done hpq hq (fun h => by rw [at0_lt h, hc]; exact hb)
        have HKC := HK.out c
        rw [hb] at HKC
        replace HKC := Lib.hid HKC
        have HB := Lib.hid hb
        have HC := Lib.hid hc
        clear hb hc
        go_wp2_with fail
        go_quiet (first | (simp only [HRUN.out]; exact ⟨trivial, Calls.quiet_of_same (HKC.out _)⟩))
        go_wp2_with fail
        go_quiet (fail)
        go_wp2_with fail
        go_ret
        refine ⟨?_, ?_, (hfr.drewN _).drewN _⟩
        · obtain ⟨e1, e2⟩ := HD.out
          rw [e1, ← extract_eq]
          rfl
        · rw [← HD.out.2]; exact (HQ.out.drewN _).drewN _
      · have HN : Hid _ := HT.out.next hpq hlt (by rw [hc]; exact hb)
        have hfz := HQ.out.free 1
        have hw : wrap64 ((q : Int) + 1) = ((q + 1 : Nat) : Int) := by have := HS.out; unfold wrap64; omega
        have HKC := HK.out c
        rw [hb] at HKC
        replace HKC := Lib.hid HKC
        have HB := Lib.hid hb
        have HC := Lib.hid hc
        clear hb hc
        go_wp2_with fail
        go_quiet (first | (simp only [HRUN.out]; exact ⟨trivial, Calls.quiet_of_same (HKC.out _)⟩))
        go_wp2_with fail
        go_roundw
        case rel =>
          refine ⟨q + 1, by omega, by omega, HN.out, ?_, ?_⟩
          · have := (HQ.out.drewN nq).set (q + 1)
            exact this
          · exact (hfr.drewN _).setCell (.inl (by simp)) _
        case measure =>
          have : ((wr.drewN nq).setCell ⟨R, 1, none⟩ (.int .i64 ((q : Int) + 1))).cell? ⟨R, 1, none⟩ = some (.int .i64 ((q : Int) + 1)) := ((HQ.out.drewN nq).set (q + 1)).c1
          rw [h1, this]
          simp [intOf]
          omega
    · have HD : Hid _ := HT.out.done hpq hq (fun h => absurd h hlt)
      have hp0 : (S.length : Int) ≤ (q : Int) := by omega
      have hd : decide ((q : Int) < (S.length : Int)) = false := by simp; omega
      go_wp2_with fail
      go_quiet (fail)
      go_wp2_with fail
      go_quiet (fail)
      go_wp2_with fail
      go_ret
      refine ⟨?_, ?_, (hfr.drewN _).drewN _⟩
      · obtain ⟨e1, e2⟩ := HD.out
        rw [e1, ← extract_eq]
        rfl
      · rw [← HD.out.2]; exact (HQ.out.drewN _).drewN _
end Lx
end Go.Proofs.YtmdnhinpaflamaaGreatDoor
