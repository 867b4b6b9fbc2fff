/- How the document shows a value, a column. -/
import Derived.Test.YtmdnhinpaflamaaDoorGaD
namespace Go.Proofs.YtmdnhinpaflamaaDoor
open Go.RowKit
set_option linter.unusedVariables false
namespace Sh
open PM (Ex B)
open CM (Pr)
open Gn (sh)

/-- a text, as bytes -/
abbrev bt (l : B) : ByteArray := ⟨l.toArray⟩
theorem bt_cat (a b : B) : bt a ++ bt b = bt (a ++ b) := by
  apply ByteArray.ext
  rw [ByteArray.data_append]
  simp
theorem bt_size (a : B) : (bt a).size = a.length := by simp [ByteArray.size]
theorem ext_at {S : B} {q : Nat} {c : UInt8} (h : q < S.length) (hc : S[q] = c) : (bt S).extract q (q + 1) = bt [c] := by
  apply ByteArray.ext
  apply Array.ext'
  rw [ByteArray.data_extract]
  simp only [List.extract_toArray, List.extract_eq_take_drop]
  rw [show q + 1 - q = 1 by omega, List.drop_eq_getElem_cons h, hc]
  rfl
theorem quo_take {t : B} {k : Nat} (h : k < t.length) : Pc.quo (t.take (k + 1)) = Pc.quo (t.take k) ++ (if t[k] = 39 then [39, 39] else [t[k]]) := by
  induction t generalizing k with
  | nil => simp at h
  | cons c r ih =>
    cases k with
    | zero => simp [Pc.quo]
    | succ k =>
      have := ih (k := k) (by simpa using h)
      simp only [List.take_succ_cons, List.getElem_cons_succ]
      unfold Pc.quo
      rw [this]
      split <;> simp
theorem b39t {c : UInt8} (h : ((c.toNat : Int) == 39) = true) : c = 39 := UInt8.toNat_inj.1 (by have := beq_iff_eq.1 h; show c.toNat = 39; omega)
theorem b39f {c : UInt8} (h : ((c.toNat : Int) == 39) = false) : ¬ c = 39 := fun e => by subst e; cases h
set_option maxRecDepth 100000 in
set_option maxHeartbeats 2000000 in
/-- quoted -/
theorem quoted_any (t : B) (ht : t.length ≤ 1000) (w : World) :
    Calls Tryd.prog 78 #[.string (bt t)] w fun e w' => e = .returned (.string (bt (39 :: (Pc.quo t ++ [39])))) ∧ Fr [] w w' := by
  go_enter Tryd.func78, Tryd.ntmps78
  have HT := Lib.hid ht
  clear ht
  go_wp2_with fail
  go_loopw [3, 4] (fun s u wr => ∃ (k : Nat) (o : ByteArray), s = .string o ∧ u = .int .i64 k ∧ k ≤ t.length ∧ (o.size : Int) ≤ 2 * k + 1 ∧ Hid (o = bt (39 :: Pc.quo (t.take k))) ∧ Hid (Fr [] w wr)) (fun _ u _ => t.length - (intOf u).toNat)
  case atStart => exact ⟨0, _, rfl, rfl, Nat.zero_le _, by decide, Lib.hid rfl, Lib.hid (Fr.refl [] w)⟩
  case round =>
    obtain ⟨k, o, rfl, rfl, hk, ho, HO, HF⟩ := hrel
    have hli : (t.length : Int) ≤ 1000 := by have := HT.out; omega
    by_cases hkl : k < t.length
    · have hkl' : (k : Int) < t.length := by omega
      obtain ⟨c, hc⟩ : ∃ c, t[k] = c := ⟨_, rfl⟩
      have hix : (ByteArray.mk t.toArray)[k]'(show k < t.toArray.size by simpa using hkl) = c := by rw [← hc]; rfl
      have HE := Lib.hid (ext_at hkl hc)
      have HC := Lib.hid hc
      have hok : (o.size : Int) ≤ 2002 := by omega
      clear hc
      go_wp2_with fail
      all_goals
        refine ⟨⟨k + 1, _, rfl, by go_num, by omega, ?_, Lib.hid ?_, HF⟩, by simp only [intOf]; omega⟩
      · have e1 : (bt [c]).size = 1 := rfl
        have e2 : (⟨#[39]⟩ : ByteArray).size = 1 := rfl
        rw [HE.out, ByteArray.size_append, ByteArray.size_append]
        omega
      · rw [HE.out, HO.out, quo_take hkl, HC.out, if_pos (b39t (by assumption))]
        show bt _ ++ bt [c] ++ bt [39] = _
        rw [b39t (c := c) (by assumption)]
        simp [bt_cat]
      · have e1 : (bt [c]).size = 1 := rfl
        rw [HE.out, ByteArray.size_append]
        omega
      · rw [HE.out, HO.out, quo_take hkl, HC.out, if_neg (b39f (by assumption))]
        show bt _ ++ bt [c] = _
        simp [bt_cat]
    · obtain rfl : k = t.length := by omega
      have hok : (o.size : Int) ≤ 2002 := by omega
      go_wp2_with fail
      go_ret
      refine ⟨?_, HF.out⟩
      have e := HO.out
      rw [List.take_length] at e
      subst e
      exact congrArg (fun z => Ending.returned (.string z)) (bt_cat _ [39])
set_option maxRecDepth 100000 in
set_option maxHeartbeats 2000000 in
/-- Value: a number -/
theorem value_int (v : Nat) (hv : v ≤ 9223372036854775807) (w : World) :
    Calls Tryd.prog 43 #[.agg #[.int .i64 1, .int .i64 v, .string ⟨#[]⟩]] w fun e w' => e = .returned (.string (bt (sh (.int v)))) ∧ Fr [] w w' := by
  have HR := Lib.hid (rshow_any (v : Int) (w.alloc (.cells #[.int .i64 1, .int .i64 v, .string ⟨#[]⟩] 38)) (ok_iff.2 (by omega)))
  have hi : Lib.itoa (v : Int) = Lib.decDigits v := by rw [Lib.itoa, if_neg (by omega)]; simp
  rw [Gn.sh_int, ← hi]
  clear hi
  go_enter Tryd.func43, Tryd.ntmps43
  go_wp2_with fail
  refine HR.out.mono ?_
  rintro e w1 ⟨rfl, hf⟩
  go_wp2_with fail
  go_ret
  exact ⟨rfl, ((Fr.refl [] w).alloc _).trans hf⟩
set_option maxRecDepth 100000 in
set_option maxHeartbeats 2000000 in
/-- Value: a text -/
theorem value_text (t : B) (ht : t.length ≤ 1000) (w : World) :
    Calls Tryd.prog 43 #[.agg #[.int .i64 2, .int .i64 0, .string ⟨t.toArray⟩]] w fun e w' => e = .returned (.string (bt (sh (.text t)))) ∧ Fr [] w w' := by
  have HR := Lib.hid (quoted_any t ht (w.alloc (.cells #[.int .i64 2, .int .i64 0, .string ⟨t.toArray⟩] 38)))
  rw [Gn.sh_text]
  go_enter Tryd.func43, Tryd.ntmps43
  go_wp2_with fail
  refine HR.out.mono ?_
  rintro e w1 ⟨rfl, hf⟩
  go_wp2_with fail
  go_ret
  exact ⟨rfl, ((Fr.refl [] w).alloc _).trans hf⟩
/-- a column's text -/
def colT (t n : B) : B := if t.isEmpty then n else t ++ [46] ++ n
set_option maxRecDepth 100000 in
set_option maxHeartbeats 2000000 in
theorem column_any (t n : B) (ht : t.length ≤ 1000) (hn : n.length ≤ 1000) (w : World) :
    Calls Tryd.prog 56 #[.string ⟨t.toArray⟩, .string ⟨n.toArray⟩] w fun e w' => e = .returned (.string (bt (colT t n))) ∧ Fr [] w w' := by
  show Calls Tryd.prog _ #[.string (bt t), .string (bt n)] w _
  have hs1 : ((bt t).size : Int) ≤ 1000 := by rw [bt_size]; omega
  have hs2 : ((bt n).size : Int) ≤ 1000 := by rw [bt_size]; omega
  by_cases h0 : t = []
  · subst h0
    go_enter Tryd.func56, Tryd.ntmps56
    go_wp2_with fail
    go_ret
    exact ⟨rfl, Fr.refl _ _⟩
  · have hne : (bt t).toList.isEmpty = false := by
      have h1 : ((bt t).toList == (⟨#[]⟩ : ByteArray).toList) = false := by
        rw [Lib.bytes_beq_false_iff]
        exact fun h => h0 (by have := congrArg (fun z => z.data.toList) h; simpa using this)
      rw [(by kernel_rfl : (⟨#[]⟩ : ByteArray).toList = [])] at h1
      cases h2 : (bt t).toList with
      | nil => rw [h2] at h1; cases h1
      | cons => rfl
    have HR : Hid (bt t ++ ⟨#[46]⟩ ++ bt n = bt (colT t n)) := Lib.hid (by
      show bt t ++ bt [46] ++ bt n = _
      have : t.isEmpty = false := by cases t with | nil => exact absurd rfl h0 | cons => rfl
      unfold colT
      rw [if_neg (by rw [this]; decide), bt_cat, bt_cat])
    generalize bt t = s at hs1 hne HR ⊢
    generalize bt n = u at hs2 HR ⊢
    go_enter Tryd.func56, Tryd.ntmps56
    go_wp2_with fail
    go_ret
    exact ⟨congrArg (fun z => Ending.returned (.string z)) HR.out, Fr.refl _ _⟩
theorem colT_one (n : B) : colT [] n = sh (.col n) := by rw [Gn.sh_col]; rfl
theorem colT_two {t n : B} (h : t ≠ []) : colT t n = sh (.tcol t n) := by
  rw [Gn.sh_tcol]
  cases t with
  | nil => exact absurd rfl h
  | cons => rfl
end Sh
end Go.Proofs.YtmdnhinpaflamaaDoor
