/- The document's sums, comparisons, truth. -/
import Derived.Test.YtmdnhinpaflamaaDoorPnO
import Derived.WalkSpells
import Derived.WalkLawsBesides
import Derived.IntWalk
namespace Go.Proofs.YtmdnhinpaflamaaDoor
open Go.RowKit
set_option linter.unusedVariables false
set_option linter.unusedSimpArgs false
namespace Pn
open PM (Ex B Col)
open Gn (put3 frPut3 blkPut3 c3_of)
/-- the number, where it fits -/
def res (x : Int) : Int := if ok64 x then x else 0
/-- OK or ErrOverflow -/
def err (x : Int) : Int := if ok64 x then 0 else 8
theorem res_ok {x : Int} (h : ok64 x = true) : res x = x := by simp [res, h]
theorem err_ok {x : Int} (h : ok64 x = true) : err x = 0 := by simp [err, h]
theorem res_no {x : Int} (h : ok64 x = false) : res x = 0 := by simp [res, h]
theorem err_no {x : Int} (h : ok64 x = false) : err x = 8 := by simp [err, h]
theorem no_iff {x : Int} : ok64 x = false ↔ ¬ (-9223372036854775808 ≤ x ∧ x ≤ 9223372036854775807) := by simp [ok64]
theorem fin_ok {x y : Int} (h : ok64 x = true) (hy : y = x) : Ending.returned (.tuple #[.int .i64 y, .int .i64 0]) = .returned (.tuple #[.int .i64 (res x), .int .i64 (err x)]) := by rw [res_ok h, err_ok h, hy]
theorem fin_okw {x : Int} (h : ok64 x = true) : Ending.returned (.tuple #[.int .i64 (wrap64 x), .int .i64 0]) = .returned (.tuple #[.int .i64 (res x), .int .i64 (err x)]) := fin_ok h (by have := ok_iff.1 h; unfold wrap64; omega)
theorem fin_no {x : Int} (h : ok64 x = false) : Ending.returned (.tuple #[.int .i64 0, .int .i64 8]) = .returned (.tuple #[.int .i64 (res x), .int .i64 (err x)]) := by rw [res_no h, err_no h]
theorem radd_any (a b : Int) (w : World) (ha : ok64 a = true) (hb : ok64 b = true) :
    Calls Tryd.prog 115 #[.int .i64 a, .int .i64 b] w fun e w' => e = .returned (.tuple #[.int .i64 (res (a + b)), .int .i64 (err (a + b))]) ∧ w = w' := by
  have HA := Lib.hid (ok_iff.1 ha)
  have HB := Lib.hid (ok_iff.1 hb)
  clear ha hb
  go_enter Tryd.func115, Tryd.ntmps115
  go_wp2_with fail
  all_goals
    go_ret2
    refine ⟨?_, rfl⟩
    have h1 := HA.out
    have h2 := HB.out
    clear HA HB
    go_tidy
    first
      | (refine fin_no (no_iff.2 ?_); simp only [wrap64] at *; omega)
      | (refine fin_ok (ok_iff.2 ?_) ?_ <;> (try simp only [wrap64] at *) <;> omega)
theorem rsub_any (a b : Int) (w : World) (ha : ok64 a = true) (hb : ok64 b = true) :
    Calls Tryd.prog 114 #[.int .i64 a, .int .i64 b] w fun e w' => e = .returned (.tuple #[.int .i64 (res (a - b)), .int .i64 (err (a - b))]) ∧ w = w' := by
  have HA := Lib.hid (ok_iff.1 ha)
  have HB := Lib.hid (ok_iff.1 hb)
  clear ha hb
  go_enter Tryd.func114, Tryd.ntmps114
  go_wp2_with fail
  all_goals
    go_ret2
    refine ⟨?_, rfl⟩
    have h1 := HA.out
    have h2 := HB.out
    clear HA HB
    go_tidy
    first
      | (refine fin_no (no_iff.2 ?_); simp only [wrap64] at *; omega)
      | (refine fin_ok (ok_iff.2 ?_) ?_ <;> (try simp only [wrap64] at *) <;> omega)
theorem rneg_any (a : Int) (w : World) (ha : ok64 a = true) :
    Calls Tryd.prog 80 #[.int .i64 a] w fun e w' => e = .returned (.tuple #[.int .i64 (res (-a)), .int .i64 (err (-a))]) ∧ w = w' := by
  go_enter Tryd.func80, Tryd.ntmps80
  go_wp2_with fail
  refine (rsub_any 0 a _ (by decide) ha).mono ?_
  rintro e w' ⟨rfl, rfl⟩
  have e0 : (0 : Int) - a = -a := by omega
  rw [e0]
  go_wp2_with fail
  go_ret2
  exact ⟨rfl, rfl⟩
theorem rmul_chk (a b : Int) (L : Nat) (hb : b ≠ 0) (hL : L = if (decide (a < 0) == decide (b < 0)) then 9223372036854775807 else 9223372036854775808) :
    ok64 (a * b) = !decide ((L : Int) / (b.natAbs : Int) < (a.natAbs : Int)) := by
  have h0 : 0 < b.natAbs := by omega
  have e1 : ((L : Int) / (b.natAbs : Int) < (a.natAbs : Int)) ↔ L < a.natAbs * b.natAbs := by
    rw [← Int.natCast_ediv, Int.ofNat_lt, Nat.div_lt_iff_lt_mul h0]
  have e2 : (a * b).natAbs = a.natAbs * b.natAbs := Int.natAbs_mul a b
  have e3 : (a * b < 0 → (decide (a < 0) == decide (b < 0)) = false) ∧ (0 < a * b → (decide (a < 0) == decide (b < 0)) = true) := by
    constructor
    · intro h
      rcases Int.lt_trichotomy a 0 with ha | ha | ha
      · have : ¬ b < 0 := fun hb' => by have := Int.mul_pos_of_neg_of_neg ha hb'; omega
        simp [ha, this]
      · subst ha; simp at h
      · have : b < 0 := by
          rcases Int.lt_trichotomy b 0 with hb' | hb' | hb'
          · exact hb'
          · omega
          · have := Int.mul_pos ha hb'; omega
        simp [this, show ¬ a < 0 by omega]
    · intro h
      rcases Int.lt_trichotomy a 0 with ha | ha | ha
      · have : b < 0 := by
          rcases Int.lt_trichotomy b 0 with hb' | hb' | hb'
          · exact hb'
          · omega
          · have := Int.mul_neg_of_neg_of_pos ha hb'; omega
        simp [ha, this]
      · subst ha; simp at h
      · have : ¬ b < 0 := fun hb' => by have := Int.mul_neg_of_pos_of_neg ha hb'; omega
        simp [this, show ¬ a < 0 by omega]
  rw [Bool.eq_iff_iff, ok_iff]
  simp only [Bool.not_eq_true', decide_eq_false_iff_not, e1, ← e2]
  generalize a * b = x at *
  subst hL
  split
  · rename_i h
    have := e3.1
    rw [h] at this
    have : ¬ x < 0 := fun hx => by simpa using this hx
    omega
  · rename_i h
    have h' : (decide (a < 0) == decide (b < 0)) = false := by simpa using h
    have := e3.2
    rw [h'] at this
    have : ¬ 0 < x := fun hx => by simpa using this hx
    omega
theorem rmul_any (a b : Int) (w : World) (ha : ok64 a = true) (hb : ok64 b = true) :
    Calls Tryd.prog 116 #[.int .i64 a, .int .i64 b] w fun e w' => e = .returned (.tuple #[.int .i64 (res (a * b)), .int .i64 (err (a * b))]) ∧ w = w' := by
  by_cases h0 : a = 0 ∨ b = 0
  · have hz : ∀ (e : Ending), e = .returned (.tuple #[.int .i64 0, .int .i64 0]) → e = .returned (.tuple #[.int .i64 (res (a * b)), .int .i64 (err (a * b))]) := by
      rintro e rfl
      have : a * b = 0 := by rcases h0 with rfl | rfl <;> simp
      rw [this]; rfl
    have HZ := Lib.hid hz
    clear hz
    by_cases h1 : a = 0
    · subst h1
      go_enter Tryd.func116, Tryd.ntmps116
      go_wp2
      go_ret2
      first | exact ⟨rfl, rfl⟩ | exact ⟨HZ.out _ rfl, rfl⟩
    · have h2 : (a == 0) = false := by simpa using h1
      obtain rfl : b = 0 := by omega
      clear h0 h1
      go_enter Tryd.func116, Tryd.ntmps116
      go_wp2
      go_ret2
      first | exact ⟨rfl, rfl⟩ | exact ⟨HZ.out _ rfl, rfl⟩
  · have ha0 : (a == 0) = false := by simp; omega
    have hb0 : (b == 0) = false := by simp; omega
    have HA := Lib.hid ha
    have HB := Lib.hid hb
    clear h0 ha hb
    have hbn : (0 : Int) < (b.natAbs : Int) := by simp at hb0; omega
    go_enter Tryd.func116, Tryd.ntmps116
    go_wp2_with fail
    all_goals
      refine (size_any a _ HA.out).mono ?_
      rintro e w' ⟨rfl, rfl⟩
      go_wp2_with fail
      refine (size_any b _ HB.out).mono ?_
      rintro e w' ⟨rfl, rfl⟩
      go_wp2_with fail
      all_goals
        go_ret2
        refine ⟨?_, rfl⟩
        go_tidy
        first
          | exact fin_no ((rmul_chk a b 9223372036854775808 (by simp at hb0; exact hb0) (by rw [if_neg (by simpa using (by assumption : (!decide (a < 0) == decide (b < 0)) = true))])).trans (by simp only [Bool.not_eq_false', decide_eq_true_eq]; assumption))
          | exact fin_no ((rmul_chk a b 9223372036854775807 (by simp at hb0; exact hb0) (by rw [if_pos (by simpa using (by assumption : (!decide (a < 0) == decide (b < 0)) = false))])).trans (by simp only [Bool.not_eq_false', decide_eq_true_eq]; assumption))
          | exact fin_okw ((rmul_chk a b 9223372036854775808 (by simp at hb0; exact hb0) (by rw [if_neg (by simpa using (by assumption : (!decide (a < 0) == decide (b < 0)) = true))])).trans (by simp only [Bool.not_eq_true', decide_eq_false_iff_not, Int.not_lt]; assumption))
          | exact fin_okw ((rmul_chk a b 9223372036854775807 (by simp at hb0; exact hb0) (by rw [if_pos (by simpa using (by assumption : (!decide (a < 0) == decide (b < 0)) = false))])).trans (by simp only [Bool.not_eq_true', decide_eq_false_iff_not, Int.not_lt]; assumption))
theorem res_in (x : Int) : ok64 (res x) = true := by
  unfold res
  split
  · assumption
  · decide
set_option maxRecDepth 100000 in
set_option maxHeartbeats 2000000 in
/-- CompareText -/
theorem ctext_any (a b : B) (ha : a.length ≤ 1000) (hb : b.length ≤ 1000) (w : World) :
    Calls Tryd.prog 45 #[.string ⟨a.toArray⟩, .string ⟨b.toArray⟩] w fun e w' => (∃ r : Int, e = .returned (.int .i64 r)) ∧ Fr [] w w' := by
  go_enter Tryd.func45, Tryd.ntmps45
  go_wp2_with fail
  have ha' : (a.length : Int) ≤ 1000 := by omega
  have hb' : (b.length : Int) ≤ 1000 := by omega
  go_loopw [5] (fun i wr => ∃ k : Nat, i = .int .i64 k ∧ k ≤ a.length ∧ k ≤ b.length ∧ Hid (Fr [] w wr)) (fun i _ => a.length - (intOf i).toNat)
  case atStart => exact ⟨0, rfl, Nat.zero_le _, Nat.zero_le _, Lib.hid (Fr.refl [] _)⟩
  case round =>
    obtain ⟨k, rfl, hka, hkb, HF⟩ := hrel
    by_cases h1 : k < a.length
    · have h1' : (k : Int) < a.length := by omega
      by_cases h2 : k < b.length
      · have h2' : (k : Int) < b.length := by omega
        obtain ⟨c, hc⟩ : ∃ c, a[k] = c := ⟨_, rfl⟩
        obtain ⟨d, hd⟩ : ∃ c, b[k] = c := ⟨_, rfl⟩
        have hc' : (ByteArray.mk a.toArray)[k]'(show k < a.toArray.size by simpa using h1) = c := hc
        have hd' : (ByteArray.mk b.toArray)[k]'(show k < b.toArray.size by simpa using h2) = d := hd
        clear hc hd
        by_cases hlt : (c.toNat : Int) < d.toNat
        · go_wp2_with fail
          go_region
          all_goals
            go_wp2_with fail
            go_ret
            exact ⟨⟨_, rfl⟩, HF.out.drew⟩
        · by_cases hgt : (d.toNat : Int) < c.toNat
          · go_wp2_with fail
            go_region
            all_goals
              go_wp2_with fail
              go_region
              all_goals
                go_wp2_with fail
                go_ret
                exact ⟨⟨_, rfl⟩, by repeat (first | exact HF.out | refine Fr.drew ?_)⟩
          · go_wp2_with fail
            go_region
            all_goals
              go_wp2_with fail
              go_region
              all_goals
                go_wp2_with fail
                go_roundw
                case rel => exact ⟨k + 1, by go_num, h1, h2, Lib.hid (by repeat (first | exact HF.out | refine Fr.drew ?_))⟩
                case measure => simp only [intOf]; omega
      · have h2' : (b.length : Int) ≤ k := by omega
        go_wp2_with fail
        all_goals
          go_ret
          exact ⟨⟨_, rfl⟩, HF.out⟩
    · have h1' : (a.length : Int) ≤ k := by omega
      go_wp2_with fail
      all_goals
        go_ret
        exact ⟨⟨_, rfl⟩, HF.out⟩
def IntR (e : Ending) : Prop := ∃ r : Int, e = .returned (.int .i64 r)
/-- what a comparison of values returns -/
def CvR (k k' i i' : Int) (e : Ending) : Prop := ∃ r : Int, e = .returned (.int .i64 r) ∧ (k = 1 → k' = 1 → (r = 0 ↔ i = i'))
set_option maxRecDepth 100000 in
set_option maxHeartbeats 2000000 in
/-- CompareValue -/
theorem cvalue_any (k i k' i' : Int) (t t' : B) (ht : t.length ≤ 1000) (ht' : t'.length ≤ 1000) (w : World) :
    Calls Tryd.prog 19 #[.agg #[.int .i64 k, .int .i64 i, .string ⟨t.toArray⟩], .agg #[.int .i64 k', .int .i64 i', .string ⟨t'.toArray⟩]] w fun e w' => CvR k k' i i' e ∧ Fr [] w w' := by
  have HF := Lib.hid (((Fr.refl [] w).alloc (.cells #[.int .i64 k, .int .i64 i, .string ⟨t.toArray⟩] 38)).alloc (.cells #[.int .i64 k', .int .i64 i', .string ⟨t'.toArray⟩] 38))
  have HC := Lib.hid (fun W => ctext_any t t' ht ht' W)
  by_cases h1 : k = 1 ∧ k' = 1
  · obtain ⟨rfl, rfl⟩ := h1
    by_cases h2 : i < i'
    · go_enter Tryd.func19, Tryd.ntmps19
      go_wp2_with fail
      go_ret
      exact ⟨⟨_, rfl, fun _ _ => ⟨fun h => absurd h (by decide), fun h => by omega⟩⟩, HF.out⟩
    · by_cases h3 : i' < i
      · go_enter Tryd.func19, Tryd.ntmps19
        go_wp2_with fail
        go_ret
        exact ⟨⟨_, rfl, fun _ _ => ⟨fun h => absurd h (by decide), fun h => by omega⟩⟩, HF.out⟩
      · obtain rfl : i = i' := by omega
        go_enter Tryd.func19, Tryd.ntmps19
        go_wp2_with fail
        go_ret
        exact ⟨⟨_, rfl, fun _ _ => ⟨fun _ => rfl, fun _ => rfl⟩⟩, HF.out⟩
  · have pf : ∀ r : Int, (k = 1 → k' = 1 → (r = 0 ↔ i = i')) := fun r a b => absurd ⟨a, b⟩ h1
    have key : Calls Tryd.prog 19 #[.agg #[.int .i64 k, .int .i64 i, .string ⟨t.toArray⟩], .agg #[.int .i64 k', .int .i64 i', .string ⟨t'.toArray⟩]] w fun e w' => IntR e ∧ Fr [] w w' := by
      clear pf h1
      go_enter Tryd.func19, Tryd.ntmps19
      go_wp2_with fail
      all_goals first
        | (go_ret; exact ⟨⟨_, rfl⟩, ((Fr.refl [] w).alloc _).alloc _⟩)
        | (refine (HC.out _).mono ?_
           rintro e w2 ⟨⟨r, rfl⟩, hf2⟩
           have HF2 : Hid (Fr [] w w2) := Lib.hid ((((Fr.refl [] w).alloc _).alloc _).trans hf2)
           clear hf2
           go_wp2_with fail
           go_ret
           exact ⟨⟨_, rfl⟩, HF2.out⟩)
    exact key.mono fun e w' ⟨⟨r, hr⟩, hf⟩ => ⟨⟨r, hr, pf r⟩, hf⟩
theorem ret_val {fn : Func} {n : Nat} (h : fn.results = #[.cell n 38]) (tmps : Array Value) (b : Nat) (h2 : tmps.getD n undef = .pointer (some ⟨b, 0, none⟩)) (w : World) (a0 a1 a2 : Value) (hb : Blk w b 38 [a0, a1, a2]) :
    (results fn tmps).run Tryd.prog w = .ok (.agg #[a0, a1, a2]) w := Gn.ret_cellV h tmps b h2 w a0 a1 a2 hb
set_option maxRecDepth 100000 in
set_option maxHeartbeats 2000000 in
theorem truth_any (b : Bool) (w : World) :
    Calls Tryd.prog 81 #[.bool b] w fun e w' => e = .returned (.agg #[.int .i64 3, .int .i64 (if b then 1 else 0), .string ⟨#[]⟩]) ∧ Fr [] w w' := by
  have HB := Lib.hid (Blk.new w 38 [.int .i64 0, .int .i64 0, .string ⟨#[]⟩])
  have HF := Lib.hid ((Fr.refl [] w).alloc (.cells #[.int .i64 0, .int .i64 0, .string ⟨#[]⟩] 38))
  cases b
  all_goals
    go_enter Tryd.func81, Tryd.ntmps81
    go_upto_region 1 with fail
    generalize w.alloc (.cells #[.int .i64 0, .int .i64 0, .string ⟨#[]⟩] 38) = w0 at HB HF ⊢
    obtain ⟨v0, v1, v2, f0, f1, f2⟩ := c3_of HB.out
    go_wp2_with fail
    exact bodyPost_ret (ret_val rfl _ w.heap.size rfl _ _ _ _ (blkPut3 HB.out _ _ _)) rfl ⟨rfl, frPut3 HF.out (.inr (Nat.le_refl _)) _ _ _⟩
end Pn
end Go.Proofs.YtmdnhinpaflamaaDoor
