/- The document's Parse. -/
import Derived.Test.YtmdnhinpaflamaaDoorBas
import Derived.Test.YtmdnhinpaflamaaDoorShelf
import Derived.Lib.AppendIntMem
import Derived.Lib.ItoaLen
namespace Go.Proofs.YtmdnhinpaflamaaDoor
open Go.RowKit

namespace Parse
end Parse
end Go.Proofs.YtmdnhinpaflamaaDoor
namespace Go.Proofs.YtmdnhinpaflamaaDoor
open Go.RowKit

/-- the digits; none of nought -/
def digs (n : Nat) : List UInt8 := if n = 0 then [] else Lib.decDigits n
theorem dec_step (n : Nat) : Lib.decDigits n = digs (n / 10) ++ [UInt8.ofNat (48 + n % 10)] := by
  rw [Lib.decDigits]
  unfold digs
  split
  · rename_i h
    rw [if_pos (by omega), Nat.mod_eq_of_lt h]; rfl
  · rw [if_neg (by omega)]
/-- how far the loop has come -/
def Come (u n : Nat) (s : List UInt8) : Prop := (s = [] ∧ n = u) ∨ (s ≠ [] ∧ Lib.decDigits u = digs n ++ s)
theorem come_step {u n : Nat} {s : List UInt8} (h : Come u n s) (hn : 0 < n ∨ s = []) : Come u (n / 10) (UInt8.ofNat (48 + n % 10) :: s) := by
  refine .inr ⟨by simp, ?_⟩
  rcases h with ⟨rfl, rfl⟩ | ⟨h1, h2⟩
  · exact dec_step n
  · have h3 : 0 < n := by rcases hn with h | h; exact h; exact absurd h h1
    rw [h2, show digs n = Lib.decDigits n by unfold digs; rw [if_neg (by omega)], dec_step n, List.append_assoc]
    rfl
theorem come_end {u : Nat} {s : List UInt8} (h : Come u 0 s) (hs : s ≠ []) : s = Lib.decDigits u := by
  rcases h with ⟨h1, _⟩ | ⟨_, h2⟩
  · exact absurd h1 hs
  · rw [h2]; rfl
theorem come_len {u n : Nat} {s : List UInt8} (h : Come u n s) (hu : u < 18446744073709551616) : s.length ≤ 20 := by
  rcases h with ⟨rfl, _⟩ | ⟨_, h2⟩
  · simp
  · have h3 := congrArg List.length h2
    rw [Lib.decDigits_length, List.length_append] at h3
    have := Lib.nDigits_le20 u (by omega)
    omega
theorem cat_cons (c : UInt8) (l : List UInt8) : ByteArray.mk #[c] ++ ByteArray.mk l.toArray = ByteArray.mk (c :: l).toArray := by
  apply ByteArray.ext
  simp
theorem dig_eq (m : Nat) : 48 + UInt8.ofNat (m % 10) = UInt8.ofNat (48 + m % 10) := by
  rw [UInt8.ofNat_add]; rfl
theorem str_eq {a b : ByteArray} (h : a = b) : Value.string a = .string b := by rw [h]
theorem retstr_eq {a b : ByteArray} (h : a = b) : Ending.returned (.string a) = .returned (.string b) := by rw [h]
def emp : Value → Nat | .string b => if b.size = 0 then 1 else 0 | _ => 0
theorem emp_cons (c : UInt8) (l : List UInt8) : emp (.string ⟨(c :: l).toArray⟩) = 0 := by simp [emp, ByteArray.size]
theorem emp_nil : emp (.string ⟨#[]⟩) = 1 := rfl

set_option maxHeartbeats 1000000 in
theorem rshow_any (a : Int) (w : World) (ha : ok64 a = true) :
    Calls Tryd.prog 77 #[.int .i64 a] w fun e w' => e = .returned (.string ⟨(Lib.itoa a).toArray⟩) ∧ Fr [] w w' := by
  have hb := ok_iff.1 ha
  have hu : a.natAbs < 18446744073709551616 := by omega
  obtain ⟨u, hU⟩ : ∃ u, a.natAbs = u := ⟨_, rfl⟩
  rw [hU] at hu
  have HU := Lib.hid hU
  clear hb
  go_enter Tryd.func77, Tryd.ntmps77
  go_wp2_with fail
  refine (size_any a _ ha).mono ?_
  rintro e w' ⟨rfl, rfl⟩
  rw [hU]
  clear hU ha
  go_wp2_with fail
  go_loopw [3, 4] (fun s n wr => ∃ (m : Nat) (l : List UInt8), s = .string ⟨l.toArray⟩ ∧ n = .int .u64 m ∧ m < 18446744073709551616 ∧ Hid (Come u m l) ∧ Fr [] w wr) (fun s n _ => 2 * (intOf n).toNat + emp s)
  case atStart => exact ⟨u, [], rfl, rfl, hu, .inl ⟨rfl, rfl⟩, Fr.refl _ _⟩
  case round =>
    obtain ⟨m, l, rfl, rfl, hm, HC, hfr⟩ := hrel
    have hcv := str_of_one (P := Tryd.prog) Tryd.underlying22 Tryd.underlying9 Tryd.underlying5 wr
    have hlen := come_len HC.out hu
    by_cases h0 : 0 < m
    · go_wp2_with fail
      go_roundw
      case rel => exact ⟨m / 10, UInt8.ofNat (48 + m % 10) :: l, str_eq (by rw [dig_eq, cat_cons]), by go_num, by omega, come_step HC.out (.inl h0), hfr.alloc _⟩
      case measure => rw [cat_cons, emp_cons]; simp only [intOf]; omega
    · obtain rfl : m = 0 := by omega
      cases l with
      | nil =>
        go_wp2_with fail
        go_roundw
        case rel => exact ⟨0, [48], rfl, rfl, by omega, come_step HC.out (.inr rfl), hfr.alloc _⟩
        case measure => exact (show 2 * 0 + 0 < 2 * 0 + 1 by omega)
      | cons c r =>
        have hr : r.length ≤ 19 := by simp at hlen; omega
        have he := come_end HC.out (by simp)
        have HEQ := Lib.hid he
        clear he
        by_cases hneg : a < 0
        · go_wp2_with fail
          go_ret
          refine ⟨retstr_eq ?_, hfr⟩
          rw [Lib.itoa, if_pos hneg, HU.out, ← HEQ.out]
          exact cat_cons _ _
        · go_wp2_with fail
          go_ret
          refine ⟨retstr_eq ?_, hfr⟩
          rw [Lib.itoa, if_neg (by omega), show a.toNat = u by rw [← HU.out]; omega, ← HEQ.out]
end Go.Proofs.YtmdnhinpaflamaaDoor
