/- num.Add, Sub, Mul, Neg and the document's answers: each is the number where it fits, else nought and ErrOverflow. -/
import Derived.Test.YtpmgecnkcllneaaDoorRows
import Derived.WalkKit
import Derived.WalkSpells
import Derived.WalkLawsBesides
import Derived.Lib.Hide
import Derived.IntWalk
namespace Go.Proofs.YtpmgecnkcllneaaDoor
open Go.RowKit

/-- it fits -/
def ok64 (x : Int) : Bool := decide (-9223372036854775808 ≤ x ∧ x ≤ 9223372036854775807)
/-- the number, where it fits -/
def res (x : Int) : Int := if ok64 x then x else 0
/-- OK or ErrOverflow -/
def err (x : Int) : Int := if ok64 x then 0 else 8

theorem res_ok {x : Int} (h : ok64 x = true) : res x = x := by simp [res, h]
theorem err_ok {x : Int} (h : ok64 x = true) : err x = 0 := by simp [err, h]
theorem res_no {x : Int} (h : ok64 x = false) : res x = 0 := by simp [res, h]
theorem err_no {x : Int} (h : ok64 x = false) : err x = 8 := by simp [err, h]
theorem ok_iff {x : Int} : ok64 x = true ↔ (-9223372036854775808 ≤ x ∧ x ≤ 9223372036854775807) := by simp [ok64]
theorem no_iff {x : Int} : ok64 x = false ↔ ¬ (-9223372036854775808 ≤ x ∧ x ≤ 9223372036854775807) := by simp [ok64]

theorem within_yes (x : Int) (w : World) : Calls Tryd.prog 80 #[.int .i64 x, .bool true] w fun e w' => e = .returned (.tuple #[.int .i64 x, .int .i64 0]) ∧ w = w' := by
  go_enter Tryd.func80, Tryd.ntmps80
  go_wp2
  go_ret2
  exact ⟨rfl, rfl⟩
theorem within_no (x : Int) (w : World) : Calls Tryd.prog 80 #[.int .i64 x, .bool false] w fun e w' => e = .returned (.tuple #[.int .i64 0, .int .i64 8]) ∧ w = w' := by
  go_enter Tryd.func80, Tryd.ntmps80
  go_wp2
  go_ret2
  exact ⟨rfl, rfl⟩
def sel (b : Bool) (x : Int) : Int := if b then x else 0
def selE (b : Bool) : Int := if b then 0 else 8
theorem within_any (x : Int) (b : Bool) (w : World) : Calls Tryd.prog 80 #[.int .i64 x, .bool b] w fun e w' => e = .returned (.tuple #[.int .i64 (sel b x), .int .i64 (selE b)]) ∧ w = w' := by
  cases b
  · exact within_no x w
  · exact within_yes x w

theorem sel_wrap (x : Int) : sel (ok64 x) (wrap64 x) = res x := by
  unfold sel res
  split
  · rename_i h; have := ok_iff.1 h; unfold wrap64; omega
  · rfl
theorem selE_ok (x : Int) : selE (ok64 x) = err x := rfl
theorem pair_eq {a b c d : Int} (h1 : a = c) (h2 : b = d) : Ending.returned (.tuple #[.int .i64 a, .int .i64 b]) = .returned (.tuple #[.int .i64 c, .int .i64 d]) := by rw [h1, h2]

theorem bool_of {p q : Prop} [Decidable p] [Decidable q] (h : p ↔ q) : decide p = decide q := by simp [h]

theorem add_same (a b : Int) (ha : -9223372036854775808 ≤ a ∧ a ≤ 9223372036854775807) (hb : -9223372036854775808 ≤ b ∧ b ≤ 9223372036854775807) (h : a < 0 ↔ b < 0) :
    (decide (wrap64 (a + b) < 0) == decide (b < 0)) = ok64 (a + b) := by
  rw [Bool.eq_iff_iff]
  simp only [beq_iff_eq, decide_eq_decide, ok_iff, wrap64]
  omega
theorem add_unlike (a b : Int) (ha : -9223372036854775808 ≤ a ∧ a ≤ 9223372036854775807) (hb : -9223372036854775808 ≤ b ∧ b ≤ 9223372036854775807) (h : ¬(a < 0 ↔ b < 0)) : true = ok64 (a + b) := by
  rw [eq_comm, ok_iff]; omega
theorem sub_unlike (a b : Int) (ha : -9223372036854775808 ≤ a ∧ a ≤ 9223372036854775807) (hb : -9223372036854775808 ≤ b ∧ b ≤ 9223372036854775807) (h : ¬(a < 0 ↔ b < 0)) :
    (decide (wrap64 (a - b) < 0) == decide (a < 0)) = ok64 (a - b) := by
  rw [Bool.eq_iff_iff]
  simp only [beq_iff_eq, decide_eq_decide, ok_iff, wrap64]
  omega
theorem sub_full (a b : Int) (ha : -9223372036854775808 ≤ a ∧ a ≤ 9223372036854775807) (hb : -9223372036854775808 ≤ b ∧ b ≤ 9223372036854775807) :
    (decide (a < 0) == decide (b < 0) || decide (wrap64 (a - b) < 0) == decide (a < 0)) = ok64 (a - b) := by
  rw [Bool.eq_iff_iff]
  simp only [Bool.or_eq_true, beq_iff_eq, decide_eq_decide, ok_iff, wrap64]
  omega
theorem neg_full (a : Int) (ha : -9223372036854775808 ≤ a ∧ a ≤ 9223372036854775807) : (a != -9223372036854775808) = ok64 (-a) := by
  rw [Bool.eq_iff_iff]
  simp only [bne_iff_ne, ne_eq, ok_iff]
  omega
theorem tmod_abs (p b : Int) (hb : b ≠ 0) : (p.tmod b).natAbs < b.natAbs := by
  rw [Int.natAbs_tmod]; exact Nat.mod_lt _ (by omega)
theorem tdiv_abs (p b : Int) : (p.tdiv b).natAbs ≤ p.natAbs := by
  rw [Int.natAbs_tdiv]; exact Nat.div_le_self _ _
theorem mul_chk (a b : Int) (ha : -9223372036854775808 ≤ a ∧ a ≤ 9223372036854775807) (hb : -9223372036854775808 ≤ b ∧ b ≤ 9223372036854775807) (h0 : b ≠ 0)
    (hl : ¬ (a = -9223372036854775808 ∧ b = -1)) : (wrap64 ((wrap64 (a * b)).tdiv b) == a) = ok64 (a * b) := by
  rw [Bool.eq_iff_iff, beq_iff_eq, ok_iff]
  constructor
  · intro h
    obtain ⟨p, hp⟩ : ∃ p, wrap64 (a * b) = p := ⟨_, rfl⟩
    rw [hp] at h
    have h1 := Int.mul_tdiv_add_tmod p b
    have h2 := tmod_abs p b h0
    have h3 := tdiv_abs p b
    obtain ⟨q, hq⟩ : ∃ q, p.tdiv b = q := ⟨_, rfl⟩
    obtain ⟨r, hr⟩ : ∃ r, p.tmod b = r := ⟨_, rfl⟩
    rw [hq] at h h1 h3
    rw [hr] at h1 h2
    obtain ⟨m, hm⟩ : ∃ m, a * b = m := ⟨_, rfl⟩
    rw [hm] at hp ⊢
    have hpr : -9223372036854775808 ≤ p ∧ p ≤ 9223372036854775807 := by unfold wrap64 at hp; omega
    by_cases hqr : q ≤ 9223372036854775807
    · have hqa : q = a := by unfold wrap64 at h; omega
      rw [hqa, Int.mul_comm, hm] at h1
      unfold wrap64 at hp
      omega
    · exfalso
      have hq2 : q = 9223372036854775808 := by omega
      have hp2 : p = -9223372036854775808 := by omega
      have ha2 : a = -9223372036854775808 := by unfold wrap64 at h; omega
      refine hl ⟨ha2, ?_⟩
      rw [hq2, hp2] at h1
      have : -1 ≤ b ∧ b ≤ 0 := by omega
      omega
  · intro h
    have e : wrap64 (a * b) = a * b := by unfold wrap64; omega
    rw [e, Int.mul_tdiv_cancel a h0]
    unfold wrap64; omega
theorem low_no (a b : Int) (h : (a = -9223372036854775808 ∧ b = -1) ∨ (b = -9223372036854775808 ∧ a = -1)) : ok64 (a * b) = false := by
  rcases h with ⟨rfl, rfl⟩ | ⟨rfl, rfl⟩ <;> decide

theorem sub_same (a b : Int) (ha : -9223372036854775808 ≤ a ∧ a ≤ 9223372036854775807) (hb : -9223372036854775808 ≤ b ∧ b ≤ 9223372036854775807) (h : a < 0 ↔ b < 0) : true = ok64 (a - b) := by
  rw [eq_comm, ok_iff]; omega

theorem add_any (a b : Int) (w : World) (ha : ok64 a = true) (hb : ok64 b = true) :
    Calls Tryd.prog 72 #[.int .i64 a, .int .i64 b] w fun e w' => e = .returned (.tuple #[.int .i64 (res (a + b)), .int .i64 (err (a + b))]) ∧ w = w' := by
  have HA := Lib.hid (ok_iff.1 ha)
  have HB := Lib.hid (ok_iff.1 hb)
  clear ha hb
  go_enter Tryd.func72, Tryd.ntmps72
  go_wp2_with fail
  all_goals
    first | rw [add_same a b HA.out HB.out (by assumption)] | rw [add_unlike a b HA.out HB.out (by assumption)]
    refine (within_any _ _ _).mono ?_
    rintro e w' ⟨rfl, rfl⟩
    go_wp2_with fail
    go_ret2
    exact ⟨pair_eq (sel_wrap _) rfl, rfl⟩

theorem mul_zero (a b : Int) (w : World) (h : a = 0 ∨ b = 0) :
    Calls Tryd.prog 71 #[.int .i64 a, .int .i64 b] w fun e w' => e = .returned (.tuple #[.int .i64 0, .int .i64 0]) ∧ w = w' := by
  by_cases h0 : a = 0
  · subst h0
    go_enter Tryd.func71, Tryd.ntmps71
    go_wp2
    go_ret2
    exact ⟨rfl, rfl⟩
  · have h1 : (a == 0) = false := by simpa using h0
    obtain rfl : b = 0 := by omega
    clear h h0
    go_enter Tryd.func71, Tryd.ntmps71
    go_wp2
    go_ret2
    exact ⟨rfl, rfl⟩

theorem mul_low (a b : Int) (w : World) (hl : (a = -9223372036854775808 ∧ b = -1) ∨ (b = -9223372036854775808 ∧ a = -1)) :
    Calls Tryd.prog 71 #[.int .i64 a, .int .i64 b] w fun e w' => e = .returned (.tuple #[.int .i64 0, .int .i64 8]) ∧ w = w' := by
  rcases hl with ⟨rfl, rfl⟩ | ⟨rfl, rfl⟩
  all_goals
    go_enter Tryd.func71, Tryd.ntmps71
    go_wp2_with fail
    refine (within_any _ _ _).mono ?_
    rintro e w' ⟨rfl, rfl⟩
    go_wp2_with fail
    go_ret2
    exact ⟨rfl, rfl⟩

set_option maxHeartbeats 400000 in
theorem mul_other (a b : Int) (w : World) (ha : ok64 a = true) (hb : ok64 b = true) (ha0 : (a == 0) = false) (hb0 : (b == 0) = false)
    (hl : ¬ ((a = -9223372036854775808 ∧ b = -1) ∨ (b = -9223372036854775808 ∧ a = -1))) :
    Calls Tryd.prog 71 #[.int .i64 a, .int .i64 b] w fun e w' => e = .returned (.tuple #[.int .i64 (res (a * b)), .int .i64 (err (a * b))]) ∧ w = w' := by
  have hne : b ≠ 0 := by simpa using hb0
  have HC := Lib.hid (mul_chk a b (ok_iff.1 ha) (ok_iff.1 hb) hne (fun h => hl (.inl h)))
  clear ha hb
  have hcase : ((a == -9223372036854775808) = false ∧ (b == -9223372036854775808) = false) ∨ ((a == -9223372036854775808) = true ∧ (b == -1) = false ∧ (b == -9223372036854775808) = false) ∨
      ((a == -9223372036854775808) = true ∧ (b == -1) = false ∧ (b == -9223372036854775808) = true ∧ (a == -1) = false) ∨ ((a == -9223372036854775808) = false ∧ (b == -9223372036854775808) = true ∧ (a == -1) = false) := by
    simp only [beq_iff_eq, beq_eq_false_iff_ne, ne_eq]
    omega
  clear hl
  rcases hcase with ⟨h1, h2⟩ | ⟨h1, h2, h3⟩ | ⟨h1, h2, h3, h4⟩ | ⟨h1, h2, h3⟩
  all_goals
    go_enter Tryd.func71, Tryd.ntmps71
    go_wp2_with fail
    rw [HC.out]
    refine (within_any _ _ _).mono ?_
    rintro e w' ⟨rfl, rfl⟩
    go_wp2_with fail
    go_ret2
    exact ⟨pair_eq (sel_wrap _) rfl, rfl⟩

theorem mul_any (a b : Int) (w : World) (ha : ok64 a = true) (hb : ok64 b = true) :
    Calls Tryd.prog 71 #[.int .i64 a, .int .i64 b] w fun e w' => e = .returned (.tuple #[.int .i64 (res (a * b)), .int .i64 (err (a * b))]) ∧ w = w' := by
  by_cases h0 : a = 0 ∨ b = 0
  · refine (mul_zero a b w h0).mono fun e w' ⟨h1, h2⟩ => ⟨h1.trans (pair_eq ?_ ?_), h2⟩
    · rcases h0 with rfl | rfl
      · rw [Int.zero_mul]; rfl
      · rw [Int.mul_zero]; rfl
    · rcases h0 with rfl | rfl
      · rw [Int.zero_mul]; rfl
      · rw [Int.mul_zero]; rfl
  · by_cases hl : (a = -9223372036854775808 ∧ b = -1) ∨ (b = -9223372036854775808 ∧ a = -1)
    · exact (mul_low a b w hl).mono fun e w' ⟨h1, h2⟩ => ⟨h1.trans (pair_eq (res_no (low_no a b hl)).symm (err_no (low_no a b hl)).symm), h2⟩
    · exact mul_other a b w ha hb (by simp; omega) (by simp; omega) hl

/-! ### the document's -/
theorem fin_ok {x y : Int} (h : ok64 x = true) (hy : y = x) : Ending.returned (.tuple #[.int .i64 y, .int .i64 0]) = .returned (.tuple #[.int .i64 (res x), .int .i64 (err x)]) := by rw [res_ok h, err_ok h, hy]
theorem fin_okw {x : Int} (h : ok64 x = true) : Ending.returned (.tuple #[.int .i64 (wrap64 x), .int .i64 0]) = .returned (.tuple #[.int .i64 (res x), .int .i64 (err x)]) := fin_ok h (by have := ok_iff.1 h; unfold wrap64; omega)
theorem fin_no {x : Int} (h : ok64 x = false) : Ending.returned (.tuple #[.int .i64 0, .int .i64 8]) = .returned (.tuple #[.int .i64 (res x), .int .i64 (err x)]) := by rw [res_no h, err_no h]

theorem ret_eq {k : IntKind} {a b : Int} (h : a = b) : Ending.returned (.int k a) = .returned (.int k b) := by rw [h]

theorem size_any (a : Int) (w : World) (ha : ok64 a = true) :
    Calls Tryd.prog 61 #[.int .i64 a] w fun e w' => e = .returned (.int .u64 (a.natAbs : Int)) ∧ w = w' := by
  have HA := Lib.hid (ok_iff.1 ha)
  clear ha
  go_enter Tryd.func61, Tryd.ntmps61
  go_wp2_with fail
  all_goals
    go_ret
    refine ⟨ret_eq ?_, rfl⟩
    have h1 := HA.out
    clear HA
    go_tidy
    simp only [wrap64, IntKind.wrap_u64] at *
    omega

theorem rmul_chk (a b : Int) (L : Nat) (hb : b ≠ 0) (hL : L = if (decide (a < 0) == decide (b < 0)) then 9223372036854775807 else 9223372036854775808) :
    ok64 (a * b) = !decide ((L : Int) / (b.natAbs : Int) < (a.natAbs : Int)) := by
  have h0 : 0 < b.natAbs := by omega
  have e1 : ((L : Int) / (b.natAbs : Int) < (a.natAbs : Int)) ↔ L < a.natAbs * b.natAbs := by
    rw [← Int.natCast_ediv, Int.ofNat_lt, Nat.div_lt_iff_lt_mul h0]
  have e2 : (a * b).natAbs = a.natAbs * b.natAbs := Int.natAbs_mul a b
  have e3 : (a * b < 0 → (decide (a < 0) == decide (b < 0)) = false) ∧ (0 < a * b → (decide (a < 0) == decide (b < 0)) = true) := by
    constructor
    · intro h
      rcases Int.lt_trichotomy a 0 with ha | ha | ha
      · have : ¬ b < 0 := fun hb' => by have := Int.mul_pos_of_neg_of_neg ha hb'; omega
        simp [ha, this]
      · subst ha; simp at h
      · have : b < 0 := by
          rcases Int.lt_trichotomy b 0 with hb' | hb' | hb'
          · exact hb'
          · omega
          · have := Int.mul_pos ha hb'; omega
        simp [this, show ¬ a < 0 by omega]
    · intro h
      rcases Int.lt_trichotomy a 0 with ha | ha | ha
      · have : b < 0 := by
          rcases Int.lt_trichotomy b 0 with hb' | hb' | hb'
          · exact hb'
          · omega
          · have := Int.mul_neg_of_neg_of_pos ha hb'; omega
        simp [ha, this]
      · subst ha; simp at h
      · have : ¬ b < 0 := fun hb' => by have := Int.mul_neg_of_pos_of_neg ha hb'; omega
        simp [this, show ¬ a < 0 by omega]
  rw [Bool.eq_iff_iff, ok_iff]
  simp only [Bool.not_eq_true', decide_eq_false_iff_not, e1, ← e2]
  generalize a * b = x at *
  subst hL
  split
  · rename_i h
    have := e3.1
    rw [h] at this
    have : ¬ x < 0 := fun hx => by simpa using this hx
    omega
  · rename_i h
    have h' : (decide (a < 0) == decide (b < 0)) = false := by simpa using h
    have := e3.2
    rw [h'] at this
    have : ¬ 0 < x := fun hx => by simpa using this hx
    omega

end Go.Proofs.YtpmgecnkcllneaaDoor
