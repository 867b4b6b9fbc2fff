/- num.Parse and the document's: what they come to. -/
import Derived.Test.YtpmgecnkcllneaaDoorArith
import Derived.Test.YtpmgecnkcllneaaDoorStr
namespace Go.Proofs.YtpmgecnkcllneaaDoor
open Go.RowKit

namespace Parse
/-- a digit -/
def dig (c : UInt8) : Bool := decide (48 ≤ c.toNat ∧ c.toNat ≤ 57)
/-- one step of num.Parse: the number so far, and whether it has run over -/
def step (p : Int × Bool) (c : UInt8) : Int × Bool := (res (res (p.1 * 10) + ((c.toNat : Int) - 48)), p.2 || err (p.1 * 10) != 0 || err (res (p.1 * 10) + ((c.toNat : Int) - 48)) != 0)
def pst (l : List UInt8) : Int × Bool := l.foldl step (0, false)
def val (l : List UInt8) : Nat := l.foldl (fun v c => v * 10 + (c.toNat - 48)) 0
theorem pst_snoc (l : List UInt8) (c : UInt8) : pst (l ++ [c]) = step (pst l) c := by simp [pst]
theorem val_snoc (l : List UInt8) (c : UInt8) : val (l ++ [c]) = val l * 10 + (c.toNat - 48) := by simp [val]
theorem ok_res (x : Int) : ok64 (res x) = true := by
  unfold res
  split
  · assumption
  · decide
theorem pst_ok (l : List UInt8) : ok64 (pst l).1 = true := by
  rcases List.eq_nil_or_concat l with rfl | ⟨r, c, rfl⟩
  · decide
  · rw [List.concat_eq_append, pst_snoc]; exact ok_res _

theorem pst_val (l : List UInt8) (hd : l.all dig = true) : (ok64 (val l) = true → pst l = ((val l : Int), false)) ∧ (ok64 (val l) = false → (pst l).2 = true) := by
  induction h : l.length generalizing l with
  | zero => obtain rfl := List.eq_nil_of_length_eq_zero h; exact ⟨fun _ => rfl, fun h => by cases h⟩
  | succ n ih =>
    rcases List.eq_nil_or_concat l with rfl | ⟨r, c, rfl⟩
    · simp at h
    rw [List.concat_eq_append] at *
    have hr : r.all dig = true ∧ dig c = true := by simpa using hd
    obtain ⟨i1, i2⟩ := ih r hr.1 (by simpa using h)
    have hc : 48 ≤ c.toNat ∧ c.toNat ≤ 57 := by simpa [dig] using hr.2
    rw [pst_snoc, val_snoc]
    generalize hv : val r = v at *
    cases ho : ok64 (v : Int)
    · have := i2 ho
      rw [no_iff] at ho
      constructor
      · intro hh; rw [ok_iff] at hh; omega
      · intro _; simp [step, this]
    · rw [i1 ho]
      rw [ok_iff] at ho
      constructor
      · intro hh
        rw [ok_iff] at hh
        have e1 : ok64 ((v : Int) * 10) = true := ok_iff.2 (by omega)
        have e2 : ok64 ((v : Int) * 10 + ((c.toNat : Int) - 48)) = true := ok_iff.2 (by omega)
        simp only [step, res_ok e1, err_ok e1, res_ok e2, err_ok e2]
        simp
        omega
      · intro hh
        rw [no_iff] at hh
        cases e1 : ok64 ((v : Int) * 10)
        · simp [step, err_no e1]
        · have e2 : ok64 ((v : Int) * 10 + ((c.toNat : Int) - 48)) = false := no_iff.2 (by omega)
          simp [step, res_ok e1, err_no e2]

/-- what it comes to -/
def bad (l : List UInt8) : Bool := l.isEmpty || !l.all dig
def parseV (l : List UInt8) : Int := if bad l then 0 else res (val l)
def parseE (l : List UInt8) : Int := if bad l then 3 else err (val l)

theorem bad_nil : bad [] = true := rfl
theorem parse_bad {l : List UInt8} (h : bad l = true) : Ending.returned (.tuple #[.int .i64 0, .int .i64 3]) = .returned (.tuple #[.int .i64 (parseV l), .int .i64 (parseE l)]) := by simp [parseV, parseE, h]
theorem parse_good {l : List UInt8} {n : Int} (h : bad l = false) (hp : pst l = (n, false)) : Ending.returned (.tuple #[.int .i64 n, .int .i64 0]) = .returned (.tuple #[.int .i64 (parseV l), .int .i64 (parseE l)]) := by
  simp only [bad, Bool.or_eq_false_iff, Bool.not_eq_false'] at h
  obtain ⟨i1, i2⟩ := pst_val l h.2
  cases ho : ok64 (val l : Int)
  · have := i2 ho; rw [hp] at this; cases this
  · have := i1 ho
    rw [hp] at this
    have hb : bad l = false := by simp [bad, h]
    simp only [parseV, parseE, hb, Bool.false_eq_true, if_false, res_ok ho, err_ok ho]
    simp at this
    rw [this]
theorem parse_over {l : List UInt8} {n : Int} (h : bad l = false) (hp : pst l = (n, true)) : Ending.returned (.tuple #[.int .i64 0, .int .i64 8]) = .returned (.tuple #[.int .i64 (parseV l), .int .i64 (parseE l)]) := by
  simp only [bad, Bool.or_eq_false_iff, Bool.not_eq_false'] at h
  obtain ⟨i1, i2⟩ := pst_val l h.2
  have hb : bad l = false := by simp [bad, h]
  cases ho : ok64 (val l : Int)
  · simp [parseV, parseE, hb, res_no ho, err_no ho]
  · have := i1 ho; rw [hp] at this; simp at this

theorem bad_of {l : List UInt8} {k : Nat} {c : UInt8} (h : k < l.length) (hc : l[k] = c) (hd : dig c = false) : bad l = true := by
  simp only [bad, Bool.or_eq_true, Bool.not_eq_true', List.all_eq_false]
  exact .inr ⟨c, by rw [← hc]; exact List.getElem_mem _, by simp [hd]⟩

set_option maxHeartbeats 1000000 in
theorem parse_any (l : List UInt8) (w : World) (hs : l.length ≤ 1000000) :
    Calls Tryd.prog 65 #[.string ⟨l.toArray⟩] w fun e w' => e = .returned (.tuple #[.int .i64 (parseV l), .int .i64 (parseE l)]) ∧ Fr [] w w' := by
  cases hem : l.isEmpty
  case true =>
    obtain rfl : l = [] := by simpa using hem
    go_enter Tryd.func65, Tryd.ntmps65
    go_wp2_with fail
    go_ret2
    exact ⟨parse_bad rfl, Fr.refl _ _⟩
  obtain ⟨cap, w1, hcv, hcell, hf1, hsz⟩ := bytes_of (P := Tryd.prog) Tryd.underlying9 Tryd.underlying36 Tryd.underlying5 w l
  go_enter Tryd.func65, Tryd.ntmps65
  go_wp2_with fail
  clear hcv hsz
  have HE := Lib.hid hem
  have HC := Lib.hid hcell
  clear hcell hem
  go_loop [4, 5, 17] (fun n ov i => ∃ (k : Nat) (m : Int) (o : Bool), k ≤ l.length ∧ i = .int .i64 k ∧ n = .int .i64 m ∧ ov = .bool o ∧ Hid (pst (l.take k) = (m, o)) ∧ Hid ((l.take k).all dig = true) ∧ Hid (ok64 m = true)) (fun _ _ i => l.length - (intOf i).toNat)
  case atStart => exact ⟨0, 0, false, by omega, rfl, rfl, rfl, rfl, rfl, rfl⟩
  case round =>
    obtain ⟨k, m, o, hk, rfl, rfl, rfl, HP, HD, HM⟩ := hrel
    by_cases hlt : k < l.length
    · obtain ⟨c, hc⟩ : ∃ c, l[k] = c := ⟨_, rfl⟩
      have hcell : w1.cell? ⟨w.heap.size, k, none⟩ = some (.int .u8 (c.toNat : Int)) := by
        rw [HC.out k hlt, List.getD_eq_getElem?_getD, List.getElem?_eq_getElem hlt, hc]; rfl
      have HCC := Lib.hid hc
      clear hc
      have hc1 : (c.toNat : Int) ≤ 255 := by have := c.toNat_lt; omega
      cases hd : dig c
      · have hb := Lib.hid (bad_of hlt HCC.out hd)
        have hd' : c.toNat < 48 ∨ (48 ≤ c.toNat ∧ 57 < c.toNat) := by simp [dig] at hd; omega
        clear hd
        rcases hd' with h | ⟨h, h'⟩
        all_goals
          go_wp2_with fail
          go_ret2
          exact ⟨parse_bad hb.out, hf1⟩
      · have hd' : 48 ≤ c.toNat ∧ c.toNat ≤ 57 := by simpa [dig] using hd
        obtain ⟨h1, h2⟩ := hd'
        have HD' := Lib.hid hd
        clear hd
        obtain ⟨y, hy⟩ : ∃ y : Int, (c.toNat : Int) = y := ⟨_, rfl⟩
        have h1' : (48 : Int) ≤ y := by omega
        have h2' : y ≤ 57 := by omega
        rw [hy] at hcell
        have HY := Lib.hid hy
        clear h1 h2 hy hc1
        have HOK := Lib.hid (ok_iff.2 ⟨by omega, by omega⟩ : ok64 (y - 48) = true)
        have e1 : l.take (k + 1) = l.take k ++ [c] := by rw [List.take_succ_eq_append_getElem hlt, HCC.out]
        have HS : Hid (pst (l.take (k + 1)) = (res (res (m * 10) + (y - 48)), o || err (m * 10) != 0 || err (res (m * 10) + (y - 48)) != 0)) := by
          rw [Hid, e1, pst_snoc, HP.out, step, HY.out]
        have HD2 : Hid ((l.take (k + 1)).all dig = true) := by
          rw [Hid, e1, List.all_append, HD.out]; simp [HD'.out]
        clear e1
        obtain ⟨b1, hb1⟩ : ∃ b1, (err (m * 10) != 0) = b1 := ⟨_, rfl⟩
        obtain ⟨b2, hb2⟩ : ∃ b2, (err (res (m * 10) + (y - 48)) != 0) = b2 := ⟨_, rfl⟩
        rw [hb1, hb2] at HS
        go_wp2_with fail
        refine (mul_any m 10 _ HM.out (by decide)).mono ?_
        rintro e w' ⟨rfl, rfl⟩
        go_wp2_with fail
        refine (add_any (res (m * 10)) (y - 48) _ (ok_res _) HOK.out).mono ?_
        rintro e w' ⟨rfl, rfl⟩
        cases o <;> cases b1 <;> cases b2
        all_goals
          go_wp2_with fail
          go_round
          case rel => exact ⟨k + 1, _, _, by omega, by go_num, rfl, rfl, HS, HD2, ok_res _⟩
          case measure => simp [intOf]; omega
    · have hkl : l.take k = l := List.take_of_length_le (by omega)
      rw [hkl] at HP HD
      have hg : Hid (bad l = false) := by
        have h1 := HE.out
        have h2 := HD.out
        simp [Hid, bad, h1, h2]
      clear hkl
      cases o
      · go_wp2_with fail
        go_ret2
        exact ⟨parse_good hg.out HP.out, hf1⟩
      · go_wp2_with fail
        go_ret2
        exact ⟨parse_over hg.out HP.out, hf1⟩
end Parse
end Go.Proofs.YtpmgecnkcllneaaDoor
