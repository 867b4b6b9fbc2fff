/- The document's Parse. -/
import Derived.Test.YtmdnhinpaflamaaGreatDoorBas
import Derived.Test.YtmdnhinpaflamaaGreatDoorShelf
import Derived.Lib.AppendIntMem
import Derived.Lib.ItoaLen
namespace Go.Proofs.YtmdnhinpaflamaaGreatDoor
open Go.RowKit

namespace Parse
theorem val_mono (l : List UInt8) (c : UInt8) : val l ≤ val (l ++ [c]) := by rw [val_snoc]; omega

/-- what holds of the document's Parse behind some digits -/
def Inv (l : List UInt8) (v : Int) (o : Bool) : Prop := (o = false → (val l : Int) = v) ∧ (o = true → ok64 (val l) = false)

theorem inv_over (l : List UInt8) (c : UInt8) (v : Int) (h : Inv l v true) : Inv (l ++ [c]) v true := by
  refine ⟨fun h => by simp at h, fun _ => ?_⟩
  have h1 := h.2 rfl
  have h2 := val_mono l c
  rw [no_iff] at *
  omega
theorem inv_runs (l : List UInt8) (c : UInt8) (v d : Int) (h : Inv l v false) (hd : (c.toNat : Int) = d + 48) (h0 : 0 ≤ d ∧ d ≤ 9) (hb : (9223372036854775807 - d) / 10 < v) : Inv (l ++ [c]) v true := by
  refine ⟨fun h => by simp at h, fun _ => ?_⟩
  have h1 := h.1 rfl
  rw [val_snoc, no_iff]
  omega
theorem inv_step (l : List UInt8) (c : UInt8) (v d : Int) (h : Inv l v false) (hd : (c.toNat : Int) = d + 48) (h0 : 0 ≤ d ∧ d ≤ 9) : Inv (l ++ [c]) (v * 10 + d) false := by
  refine ⟨fun _ => ?_, fun h => by simp at h⟩
  have h1 := h.1 rfl
  rw [val_snoc]
  omega

theorem rparse_good {l : List UInt8} {v : Int} (h : bad l = false) (hi : Inv l v false) (h0 : 0 ≤ v ∧ v ≤ 9223372036854775807) : Ending.returned (.tuple #[.int .i64 v, .int .i64 0]) = .returned (.tuple #[.int .i64 (parseV l), .int .i64 (parseE l)]) := by
  have h1 := hi.1 rfl
  have ho : ok64 (val l : Int) = true := ok_iff.2 (by omega)
  simp only [parseV, parseE, h, Bool.false_eq_true, if_false]
  rw [res_ok ho, err_ok ho, h1]
theorem rparse_over {l : List UInt8} {v : Int} (h : bad l = false) (hi : Inv l v true) : Ending.returned (.tuple #[.int .i64 0, .int .i64 8]) = .returned (.tuple #[.int .i64 (parseV l), .int .i64 (parseE l)]) := by
  have ho := hi.2 rfl
  simp only [parseV, parseE, h, Bool.false_eq_true, if_false, res_no ho, err_no ho]

set_option maxHeartbeats 1000000 in
theorem rparse_any (l : List UInt8) (w : World) (hs : l.length ≤ 1000000) :
    Calls Tryz.prog 80 #[.string ⟨l.toArray⟩] w fun e w' => e = .returned (.tuple #[.int .i64 (parseV l), .int .i64 (parseE l)]) ∧ w = w' := by
  cases hem : l.isEmpty
  case true =>
    obtain rfl : l = [] := by simpa using hem
    go_enter Tryz.func80, Tryz.ntmps80
    go_wp2_with fail
    go_ret2
    exact ⟨parse_bad rfl, rfl⟩
  have hl0 : ((l.length : Int) == 0) = false := by
    cases l with
    | nil => simp at hem
    | cons => simp; omega
  have HE := Lib.hid hem
  clear hem
  go_enter Tryz.func80, Tryz.ntmps80
  go_wp2_with fail
  clear hl0
  go_loop [4, 5, 6] (fun n ov i => ∃ (k : Nat) (v : Int) (o : Bool), k ≤ l.length ∧ i = .int .i64 k ∧ n = .int .i64 v ∧ ov = .bool o ∧ 0 ≤ v ∧ v ≤ 9223372036854775807 ∧ Hid (Inv (l.take k) v o) ∧ Hid ((l.take k).all dig = true)) (fun _ _ i => l.length - (intOf i).toNat)
  case atStart => exact ⟨0, 0, false, by omega, rfl, rfl, rfl, by omega, by omega, ⟨fun _ => rfl, fun h => by simp at h⟩, rfl⟩
  case round =>
    obtain ⟨k, v, o, hk, rfl, rfl, rfl, hv0, hv1, HP, HD⟩ := hrel
    by_cases hlt : k < l.length
    · obtain ⟨c, hc⟩ : ∃ c, l[k] = c := ⟨_, rfl⟩
      have hix : (ByteArray.mk l.toArray)[k]'(show k < l.toArray.size by simpa using hlt) = c := by rw [← hc]; rfl
      have HCC := Lib.hid hc
      clear hc
      cases hd : dig c
      · have hb := Lib.hid (bad_of hlt HCC.out hd)
        have hd' : c.toNat < 48 ∨ (48 ≤ c.toNat ∧ 57 < c.toNat) := by simp [dig] at hd; omega
        have hc1 : (c.toNat : Int) ≤ 255 := by have := c.toNat_lt; omega
        clear hd
        rcases hd' with h | ⟨h, h'⟩
        all_goals
          go_wp2_with fail
          go_ret2
          exact ⟨parse_bad hb.out, rfl⟩
      · have hd' : 48 ≤ c.toNat ∧ c.toNat ≤ 57 := by simpa [dig] using hd
        obtain ⟨d, hcd⟩ : ∃ d : Int, (c.toNat : Int) = d + 48 := ⟨(c.toNat : Int) - 48, by omega⟩
        have h0 : 0 ≤ d := by omega
        have h9 : d ≤ 9 := by omega
        have HD' := Lib.hid hd
        have HY := Lib.hid hcd
        clear hd hd'
        have e1 : l.take (k + 1) = l.take k ++ [c] := by rw [List.take_succ_eq_append_getElem hlt, HCC.out]
        have E1 := Lib.hid e1
        have HD2 : Hid ((l.take (k + 1)).all dig = true) := by
          rw [Hid, e1, List.all_append, HD.out]; simp [HD'.out]
        clear e1
        cases o
        · by_cases hv : (9223372036854775807 - d) / 10 < v
          · go_wp2_with fail
            go_round
            case rel => exact ⟨k + 1, v, true, by omega, by go_num, rfl, rfl, hv0, hv1, by rw [Hid, E1.out]; exact inv_runs _ c v d HP.out HY.out ⟨h0, h9⟩ hv, HD2⟩
            case measure => simp [intOf]; omega
          · have hv2 : v ≤ (9223372036854775807 - d) / 10 := by omega
            have hb1 : v * 10 + d ≤ 9223372036854775807 := by omega
            have hb2 : 0 ≤ v * 10 + d := by omega
            have hb3 : v * 10 ≤ 9223372036854775807 := by omega
            go_wp2_with fail
            go_round
            case rel => exact ⟨k + 1, v * 10 + d, false, by omega, by go_num, rfl, rfl, hb2, hb1, by rw [Hid, E1.out]; exact inv_step _ c v d HP.out HY.out ⟨h0, h9⟩, HD2⟩
            case measure => simp [intOf]; omega
        · go_wp2_with fail
          go_round
          case rel => exact ⟨k + 1, v, true, by omega, by go_num, rfl, rfl, hv0, hv1, by rw [Hid, E1.out]; exact inv_over _ c v HP.out, HD2⟩
          case measure => simp [intOf]; omega
    · have hkl : l.take k = l := List.take_of_length_le (by omega)
      rw [hkl] at HP HD
      have hg : Hid (bad l = false) := by
        have h1 := HE.out
        have h2 := HD.out
        simp [Hid, bad, h1, h2]
      clear hkl
      cases o
      · go_wp2_with fail
        go_ret2
        exact ⟨rparse_good hg.out HP.out ⟨hv0, hv1⟩, rfl⟩
      · go_wp2_with fail
        go_ret2
        exact ⟨rparse_over hg.out HP.out, rfl⟩
end Parse
end Go.Proofs.YtmdnhinpaflamaaGreatDoor
namespace Go.Proofs.YtmdnhinpaflamaaGreatDoor
open Go.RowKit

end Go.Proofs.YtmdnhinpaflamaaGreatDoor
