/- lex: the reader's small functions. -/
import Derived.Test.YtpmgecnkcllneaaDoorParse
import Derived.Test.YtpmgecnkcllneaaDoorLexM
import Derived.BigQuiet
namespace Go.Proofs.YtpmgecnkcllneaaDoor
open Go.RowKit

namespace Lx
/-- the reader lies in block R, at place p of S -/
def Rd (w : World) (R : Nat) (S : List UInt8) (p : Nat) : Prop := Blk w R 85 [.string ⟨S.toArray⟩, .int .i64 p]

theorem Rd.c0 {w : World} {R : Nat} {S : List UInt8} {p : Nat} (h : Rd w R S p) : w.cell? ⟨R, 0, none⟩ = some (.string ⟨S.toArray⟩) := h.cell 0
theorem Rd.c1 {w : World} {R : Nat} {S : List UInt8} {p : Nat} (h : Rd w R S p) : w.cell? ⟨R, 1, none⟩ = some (.int .i64 p) := h.cell 1

theorem letter_any (c : UInt8) (w : World) : Calls Tryd.prog 44 #[.int .u8 (c.toNat : Int)] w fun e w' => e = .returned (.bool (LexM.letter c)) ∧ w' = w := by
  have hc := c.toNat_lt
  obtain ⟨y, hy⟩ : ∃ y : Int, (c.toNat : Int) = y := ⟨_, rfl⟩
  have hv : LexM.letter c = (decide (97 ≤ y ∧ y ≤ 122) || decide (y = 95)) := by
    have e : (c == 95) = decide (y = 95) := by
      rw [← hy]
      by_cases h : c = 95
      · subst h; rfl
      · have : ¬ ((c.toNat : Int) = 95) := fun he => h (UInt8.toNat_inj.1 (by simpa using (by omega : c.toNat = 95)))
        simp [h, this]
    unfold LexM.letter
    rw [e]
    congr 1
    rw [decide_eq_decide]
    omega
  rw [hv, hy]
  have h0 : 0 ≤ y ∧ y ≤ 255 := by omega
  obtain ⟨h1, h2⟩ := h0
  have HV := Lib.hid hv
  clear hv hy hc
  rcases (by omega : y < 95 ∨ y = 95 ∨ (95 < y ∧ y < 97) ∨ (97 ≤ y ∧ y ≤ 122) ∨ (97 ≤ y ∧ 122 < y)) with h | rfl | ⟨h, h'⟩ | ⟨h, h'⟩ | ⟨h, h'⟩
  all_goals
    go_enter Tryd.func44, Tryd.ntmps44
    go_wp2_with fail
    go_ret
    refine ⟨?_, rfl⟩
    congr 2
    try simp
    try (rw [Bool.eq_iff_iff]; simp; omega)
    try omega

theorem digit_any (c : UInt8) (w : World) : Calls Tryd.prog 46 #[.int .u8 (c.toNat : Int)] w fun e w' => e = .returned (.bool (LexM.dig c)) ∧ w' = w := by
  have hc := c.toNat_lt
  obtain ⟨y, hy⟩ : ∃ y : Int, (c.toNat : Int) = y := ⟨_, rfl⟩
  have hv : LexM.dig c = decide (48 ≤ y ∧ y ≤ 57) := by
    unfold LexM.dig
    rw [decide_eq_decide]
    omega
  rw [hv, hy]
  have h0 : 0 ≤ y ∧ y ≤ 255 := by omega
  obtain ⟨h1, h2⟩ := h0
  have HV := Lib.hid hv
  clear hv hy hc
  rcases (by omega : y < 48 ∨ (48 ≤ y ∧ y ≤ 57) ∨ (48 ≤ y ∧ 57 < y)) with h | ⟨h, h'⟩ | ⟨h, h'⟩
  all_goals
    go_enter Tryd.func46, Tryd.ntmps46
    go_wp2_with fail
    go_ret
    refine ⟨?_, rfl⟩
    congr 2
    try simp
    try (rw [Bool.eq_iff_iff]; simp; omega)
    try omega

def blank (c : UInt8) : Bool := c == 32
theorem blank_any (c : UInt8) (w : World) : Calls Tryd.prog 28 #[.int .u8 (c.toNat : Int)] w fun e w' => e = .returned (.bool (blank c)) ∧ w' = w := by
  obtain ⟨y, hy⟩ : ∃ y : Int, (c.toNat : Int) = y := ⟨_, rfl⟩
  have hv : blank c = decide (y = 32) := by
    unfold blank
    rw [← hy]
    by_cases h : c = 32
    · subst h; rfl
    · have : ¬ ((c.toNat : Int) = 32) := fun he => h (UInt8.toNat_inj.1 (by simpa using (by omega : c.toNat = 32)))
      simp [h, this]
  rw [hv, hy]
  have HV := Lib.hid hv
  clear hv hy
  go_enter Tryd.func28, Tryd.ntmps28
  go_wp2_with fail
  go_ret
  exact ⟨rfl, rfl⟩

theorem nameb_any (c : UInt8) (w : World) : Calls Tryd.prog 62 #[.int .u8 (c.toNat : Int)] w fun e w' => e = .returned (.bool (LexM.nameByte c)) ∧ w' = w := by
  unfold LexM.nameByte
  go_enter Tryd.func62, Tryd.ntmps62
  go_wp2_with fail
  refine (letter_any c w).mono ?_
  rintro e w1 ⟨rfl, rfl⟩
  cases h : LexM.letter c
  · go_wp2_with fail
    refine (digit_any c w1).mono ?_
    rintro e w2 ⟨rfl, rfl⟩
    go_wp2_with fail
    go_ret
    exact ⟨by simp [h], rfl⟩
  · go_wp2_with fail
    go_ret
    exact ⟨by simp [h], rfl⟩

/-- the byte at hand; 0: there is none -/
def at0 (S : List UInt8) (p : Nat) : UInt8 := (S.drop p).headD 0
theorem at0_lt {S : List UInt8} {p : Nat} (h : p < S.length) : at0 S p = S[p] := by
  unfold at0; rw [List.drop_eq_getElem_cons h]; rfl
theorem at0_ge {S : List UInt8} {p : Nat} (h : S.length ≤ p) : at0 S p = 0 := by
  unfold at0; rw [List.drop_eq_nil_of_le h]; rfl

theorem next_any (R : Nat) (S : List UInt8) (p : Nat) (w : World) (hr : Rd w R S p) :
    Calls Tryd.prog 43 #[.pointer (some ⟨R, 0, none⟩)] w fun e w' => e = .returned (.int .u8 ((at0 S p).toNat : Int)) ∧ Rd w' R S p ∧ Fr [] w w' := by
  have h0 := hr.c0
  have h1 := hr.c1
  have HR := Lib.hid hr
  clear hr
  by_cases h : p < S.length
  · obtain ⟨c, hc⟩ : ∃ c, S[p] = c := ⟨_, rfl⟩
    have HA : Hid (at0 S p = c) := (at0_lt h).trans hc
    have hc' : (ByteArray.mk S.toArray)[p]'(show p < S.toArray.size by simpa using h) = c := hc
    have hp0 : (p : Int) < (S.length : Int) := by omega
    go_enter Tryd.func43, Tryd.ntmps43
    go_wp2_with fail
    go_quiet (fail)
    go_wp2_with fail
    go_quiet (fail)
    go_wp2_with fail
    go_ret
    exact ⟨by rw [HA.out]; rfl, (HR.out.drewN _).drewN _, ((Fr.refl _ _).drewN _).drewN _⟩
  · have HA : Hid (at0 S p = 0) := at0_ge (by omega)
    have hp0 : (S.length : Int) ≤ (p : Int) := by omega
    go_enter Tryd.func43, Tryd.ntmps43
    go_wp2_with fail
    go_quiet (fail)
    go_wp2_with fail
    go_ret
    exact ⟨by rw [HA.out]; rfl, HR.out.drewN _, (Fr.refl _ _).drewN _⟩
end Lx
end Go.Proofs.YtpmgecnkcllneaaDoor
