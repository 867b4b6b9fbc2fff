/- UndoPairs: the walk. -/
import Derived.Test.YtmlmjajhmenjmaaArg
import Derived.Deep.QuietTactic
import Derived.BigQuiet
import Derived.IntWalk
namespace Go.Proofs.Ytmlmjajhmenjmaa
open Go.RowKit

namespace PairsLaw
/-- the blocks of the log are the call's own -/
def Own (w : World) (v : Value) : Prop := ∀ k, v.ownBlock = some k → w.heap.size ≤ k

theorem upTo_app (a b : List Int) : Logi.upTo a.length (a ++ b) = a.length := by
  unfold Logi.upTo; simp; omega
theorem upTo_self (a : List Int) : Logi.upTo a.length a = a.length := by
  unfold Logi.upTo; omega

set_option maxHeartbeats 2000000 in
theorem walk_list (a0 a1 : Option Addr) (cap0 cap1 : Nat) (a b : List Int) (w : World) (ha : Arg .i64 w a0 a) (hb : Arg .i64 w a1 b) (hla : a.length ≤ 30) (hlb : b.length ≤ 30) :
    Calls Try.prog 5 #[.slice a0 a.length cap0, .slice a1 b.length cap1] w fun e w' => e = .returned (.bool true) ∧ Fr [] w w' := by
  have h30a : decide ((30 : Int) < (a.length : Int)) = false := by simp; omega
  have h30b : decide ((30 : Int) < (b.length : Int)) = false := by simp; omega
  have HA := Lib.hid ha
  have HB := Lib.hid hb
  clear ha hb
  go_enter Try.func5, Try.ntmps5
  go_wp2_with fail
  refine (begun_true _).mono ?_
  rintro e w1 ⟨rfl, hf1⟩
  go_wp2_with fail
  refine (Logi.new _).mono ?_
  rintro e w2 ⟨rfl, hl2, hf2, hs2⟩
  obtain ⟨L, hL⟩ : ∃ L, w1.heap.size = L := ⟨_, rfl⟩
  have hwL : w.heap.size ≤ L := by have := hf1.size; omega
  rw [hL] at hl2 hs2 ⊢
  clear hL
  have hf : Fr [] w w2 := hf1.trans hf2
  clear hf1 hf2
  go_wp2_with fail
  go_loopw [6] (fun i wr => ∃ (k : Nat) (v : Value), k ≤ a.length ∧ i = .int .i64 k ∧ Logi.Is wr L v (a.take k) ∧ Own w v ∧ Fr [] w wr) (fun i _ => a.length - (intOf i).toNat)
  case atStart => exact ⟨0, _, by omega, rfl, hl2, by simp [Own, Value.ownBlock], hf⟩
  case round =>
    clear hl2 hf hs2
    obtain ⟨k, v, hk, rfl, hl, hown, hfr⟩ := hrel
    by_cases hlt : k < a.length
    · obtain ⟨b0, off, rfl, hbw, hc0⟩ := HA.out k hlt
      obtain ⟨y, hy⟩ : ∃ y, a.getD k 0 = y := ⟨_, rfl⟩
      have hcell : wr.cell? ⟨b0, off + k, none⟩ = some (.int .i64 y) := (hfr.cell (p := ⟨b0, off + k, none⟩) hbw (by simp)).trans (by rw [hc0, hy])
      have e1 : a.take (k + 1) = a.take k ++ [y] := by rw [List.take_succ_eq_append_getElem hlt, ← hy]; simp [List.getD_eq_getElem?_getD, hlt]
      have E1 := Lib.hid e1
      clear e1 hy hc0
      go_wp2_with fail
      refine (Logi.push L v (a.take k) y _ hl (by simp; omega)).mono ?_
      rintro e w3 ⟨rfl, v3, hl3, hf3, hb3⟩
      go_wp2_with fail
      go_roundw
      case rel =>
        refine ⟨k + 1, v3, by omega, by go_num, by rw [E1.out]; exact hl3, ?_, hfr.trans' hf3 ?_⟩
        · intro j hj
          rcases hb3 with h | ⟨j', hj', h⟩
          · exact hown j (by rw [← h]; exact hj)
          · rw [h] at hj; cases hj; have := hfr.size; omega
        · intro i hi
          simp at hi
          rcases hi with rfl | hi
          · exact .inr hwL
          · exact .inr (hown i hi.symm)
      case measure => simp [intOf]; omega
    · obtain rfl : k = a.length := by omega
      rw [List.take_of_length_le (Nat.le_refl _)] at hl
      clear hlt hk
      go_wp2_with fail
      refine (Logi.len L v a _ hl).mono ?_
      rintro e w3 ⟨rfl, rfl⟩
      go_wp2_with fail
      obtain ⟨wo, rfl⟩ : ∃ wo : World, wo = wr := ⟨_, rfl⟩
      go_loopw [8] (fun i wr => ∃ (k : Nat) (v : Value), k ≤ b.length ∧ i = .int .i64 k ∧ Logi.Is wr L v (a ++ b.take k) ∧ Own w v ∧ Fr [] w wr) (fun i _ => b.length - (intOf i).toNat)
      case atStart => exact ⟨0, _, by omega, rfl, by simpa using hl, hown, hfr⟩
      case round =>
        clear hl hfr hown
        obtain ⟨k, v, hk, rfl, hl, hown, hfr⟩ := hrel
        by_cases hlt : k < b.length
        · obtain ⟨b0, off, rfl, hbw, hc0⟩ := HB.out k hlt
          obtain ⟨y, hy⟩ : ∃ y, b.getD k 0 = y := ⟨_, rfl⟩
          have hcell : wr.cell? ⟨b0, off + k, none⟩ = some (.int .i64 y) := (hfr.cell (p := ⟨b0, off + k, none⟩) hbw (by simp)).trans (by rw [hc0, hy])
          have e1 : a ++ b.take (k + 1) = (a ++ b.take k) ++ [y] := by rw [List.take_succ_eq_append_getElem hlt, ← hy]; simp [List.getD_eq_getElem?_getD, hlt]
          have E1 := Lib.hid e1
          clear e1 hy hc0
          go_wp2_with fail
          refine (Logi.push L v (a ++ b.take k) y _ hl (by simp; omega)).mono ?_
          rintro e w3 ⟨rfl, v3, hl3, hf3, hb3⟩
          go_wp2_with fail
          go_roundw
          case rel =>
            refine ⟨k + 1, v3, by omega, by go_num, by rw [E1.out]; exact hl3, ?_, hfr.trans' hf3 ?_⟩
            · intro j hj
              rcases hb3 with h | ⟨j', hj', h⟩
              · exact hown j (by rw [← h]; exact hj)
              · rw [h] at hj; cases hj; have := hfr.size; omega
            · intro i hi
              simp at hi
              rcases hi with rfl | hi
              · exact .inr hwL
              · exact .inr (hown i hi.symm)
          case measure => simp [intOf]; omega
        · obtain rfl : k = b.length := by omega
          rw [List.take_of_length_le (Nat.le_refl _)] at hl
          clear hlt hk
          go_wp2_with fail
          refine (Logi.back L v (a ++ b) a.length _ hl (by simp; omega)).mono ?_
          rintro e w4 ⟨vb, v4, rfl, hl4, ⟨hr4, ho4⟩, hf4, hb4⟩
          rw [upTo_app] at hl4 hr4
          simp only [List.take_left', List.drop_left'] at hl4 hr4
          go_wp2_with fail
          refine (Logi.all L v4 a _ hl4 (by omega)).mono ?_
          rintro e w5 ⟨va, rfl, ⟨hr5, ho5⟩, hf5⟩
          have hl5 := hl4.keep hf5 (by simp) (by simp)
          have hr5b := hr4.keep hf5 (by simp)
          have hfx : Fr [] w w5 := (hfr.trans' hf4 (by intro i hi; simp at hi; subst hi; exact .inr hwL)).trans hf5
          clear hr4 hl4 hf4 hf5 hfr hl hb4 hown ho4 ho5
          rw [List.length_reverse] at hr5b
          obtain ⟨ba, bc, rfl⟩ : ∃ ba bc, vb = .slice ba b.length bc := by
            rcases hr5b.form with ⟨h, h0, _⟩ | ⟨g, off, c, h, _⟩
            · exact ⟨none, 0, by rw [h, h0]⟩
            · exact ⟨_, _, h⟩
          obtain ⟨aa, ac, rfl⟩ : ∃ aa ac, va = .slice aa a.length ac := by
            rcases hr5.form with ⟨h, h0, _⟩ | ⟨g, off, c, h, _⟩
            · exact ⟨none, 0, by rw [h, h0]⟩
            · exact ⟨_, _, h⟩
          have HRB := Lib.hid hr5b
          have HRA := Lib.hid hr5
          have HL := Lib.hid hl5
          clear hr5b hr5 hl5
          go_wp2_with fail
          go_loopw [11] (fun i wr => ∃ (k : Nat), k ≤ b.length ∧ i = .int .i64 k ∧ Fr [] w5 wr) (fun i _ => b.length - (intOf i).toNat)
          case atStart => exact ⟨0, by omega, rfl, Fr.refl _ _⟩
          case round =>
            obtain ⟨k, hk, rfl, hfr⟩ := hrel
            by_cases hlt : k < b.length
            · obtain ⟨b0, off, rfl, hbw, hc0⟩ := HB.out (b.length - 1 - k) (by omega)
              obtain ⟨y, hy⟩ : ∃ y, b.getD (b.length - 1 - k) 0 = y := ⟨_, rfl⟩
              have hix : ((b.length : Int) - 1 - (k : Int)).toNat = b.length - 1 - k := by omega
              have hcell : wr.cell? ⟨b0, off + ((b.length : Int) - 1 - (k : Int)).toNat, none⟩ = some (.int .i64 y) := by
                rw [hix]
                refine (hfr.cell (p := ⟨b0, off + (b.length - 1 - k), none⟩) (Nat.lt_of_lt_of_le hbw hfx.size) (by simp)).trans ?_
                exact (hfx.cell (p := ⟨b0, off + (b.length - 1 - k), none⟩) hbw (by simp)).trans (by rw [hc0, hy])
              have hcellb : wr.cell? ⟨b0, off + (b.length - 1 - k), none⟩ = some (.int .i64 y) := by rw [← hix]; exact hcell
              rcases (HRB.out).form with ⟨_, h0, _⟩ | ⟨g, off2, c2, he, _, _⟩
              · omega
              cases he
              have hcell2 : wr.cell? ⟨g, off2 + k, none⟩ = some (.int .i64 y) := by
                have hrow := HRB.out.keep hfr (by simp)
                rw [hrow.cells k (by simpa using hlt), List.getD_eq_getElem?_getD, List.getElem?_map, List.getElem?_reverse hlt, ← hy, List.getD_eq_getElem?_getD, List.getElem?_eq_getElem (by omega)]
                rfl
              have hs1 : IntKind.i64.wrap ((b.length : Int) - 1) = (b.length : Int) - 1 := IntWalk.i64_in _ (by omega)
              have hs2 : IntKind.i64.wrap ((b.length : Int) - 1 - (k : Int)) = (b.length : Int) - 1 - (k : Int) := IntWalk.i64_in _ (by omega)
              have hp1 : (0 : Int) ≤ (b.length : Int) - 1 - (k : Int) := by omega
              have hp3 : (k : Int) ≤ (b.length : Int) - 1 := by omega
              have hp2 : (b.length : Int) - 1 - (k : Int) < (b.length : Int) := by omega
              clear hc0 hix hy
              go_wp2_with fail
              refine wp_region_quiet_lit (by kernel_rfl) (by kernel_rfl) ?_
              repeat (first | go_big_quiet_step (fail) | (go_big_quiet_want; go_big_quiet_op; go_simp; go_big_quiet_on))
              refine wpQuiet_nil ?_
              rintro _ ⟨nq, rfl⟩
              clear hs1 hs2
              go_wp2_with fail
              go_roundw
              case rel => exact ⟨k + 1, by omega, by go_num, hfr.drewN _⟩
              case measure => simp [intOf]; omega
            · go_wp2_with fail
              obtain ⟨wo, rfl⟩ : ∃ wo : World, wo = wr := ⟨_, rfl⟩
              go_loopw [12] (fun i wr => ∃ (k : Nat), k ≤ a.length ∧ i = .int .i64 k ∧ Fr [] w5 wr) (fun i _ => a.length - (intOf i).toNat)
              case atStart => exact ⟨0, by omega, rfl, hfr⟩
              case round =>
                clear hfr
                obtain ⟨m, hm, rfl, hfr⟩ := hrel
                by_cases hlm : m < a.length
                · obtain ⟨b0, off, rfl, hbw, hc0⟩ := HA.out m hlm
                  obtain ⟨y, hy⟩ : ∃ y, a.getD m 0 = y := ⟨_, rfl⟩
                  have hcell : wr.cell? ⟨b0, off + m, none⟩ = some (.int .i64 y) := by
                    refine (hfr.cell (p := ⟨b0, off + m, none⟩) (Nat.lt_of_lt_of_le hbw hfx.size) (by simp)).trans ?_
                    exact (hfx.cell (p := ⟨b0, off + m, none⟩) hbw (by simp)).trans (by rw [hc0, hy])
                  rcases (HRA.out).form with ⟨_, h0, _⟩ | ⟨g, off2, c2, he, _, _⟩
                  · omega
                  cases he
                  have hcell2 : wr.cell? ⟨g, off2 + m, none⟩ = some (.int .i64 y) := by
                    have hrow := HRA.out.keep hfr (by simp)
                    rw [hrow.cells m (by simpa using hlm), List.getD_eq_getElem?_getD, List.getElem?_map, ← hy, List.getD_eq_getElem?_getD, List.getElem?_eq_getElem hlm]
                    rfl
                  clear hc0 hy
                  go_wp2_with fail
                  go_quiet (fail)
                  go_wp2_with fail
                  go_roundw
                  case rel => exact ⟨m + 1, by omega, by go_num, hfr.drewN _⟩
                  case measure => simp [intOf]; omega
                · go_wp2_with fail
                  refine (Logi.back L v4 a a.length _ (HL.out.keep hfr (by simp) (by simp)) (by omega)).mono ?_
                  rintro e w6 ⟨vc, v6, rfl, _, ⟨hr6, _⟩, hf6, _⟩
                  rw [upTo_self] at hr6
                  simp only [List.drop_length, List.reverse_nil] at hr6
                  have hf7 := (hfx.trans hfr).trans' hf6 (by intro i hi; simp at hi; subst hi; exact .inr hwL)
                  rcases hr6.form with ⟨rfl, _, _⟩ | ⟨g6, off6, cap6, rfl, _, _⟩
                  · go_wp2_with fail
                    go_ret
                    exact ⟨rfl, hf7⟩
                  · simp only [List.length_nil]
                    go_wp2_with fail
                    go_ret
                    exact ⟨rfl, hf7⟩

theorem walk_long (a0 a1 : Option Addr) (n0 cap0 n1 cap1 : Nat) (w : World) (hl : 30 < n0 ∨ (n0 ≤ 30 ∧ 30 < n1)) :
    Calls Try.prog 5 #[.slice a0 n0 cap0, .slice a1 n1 cap1] w fun e w' => e = .returned (.bool true) ∧ Fr [] w w' := by
  rcases hl with h | ⟨h0, h⟩
  · have h30 : decide ((30 : Int) < (n0 : Int)) = true := by simp; omega
    go_enter Try.func5, Try.ntmps5
    go_wp2_with fail
    refine (begun_true _).mono ?_
    rintro e w1 ⟨rfl, hf1⟩
    go_wp2_with fail
    go_ret
    exact ⟨rfl, hf1⟩
  · have h30 : decide ((30 : Int) < (n0 : Int)) = false := by simp; omega
    have h31 : decide ((30 : Int) < (n1 : Int)) = true := by simp; omega
    go_enter Try.func5, Try.ntmps5
    go_wp2_with fail
    refine (begun_true _).mono ?_
    rintro e w1 ⟨rfl, hf1⟩
    go_wp2_with fail
    go_ret
    exact ⟨rfl, hf1⟩

theorem law (a0 a1 : Option Addr) (cap0 cap1 : Nat) (a b : List Int) (w : World) (ha : Arg .i64 w a0 a) (hb : Arg .i64 w a1 b) :
    Calls Try.prog 5 #[.slice a0 a.length cap0, .slice a1 b.length cap1] w fun e w' => e = .returned (.bool true) ∧ Below w.heap.size w w' := by
  rcases Nat.lt_or_ge 30 a.length with h | h
  · exact (walk_long a0 a1 _ cap0 _ cap1 w (.inl h)).mono fun e w' ⟨h1, h2⟩ => ⟨h1, h2.below⟩
  · rcases Nat.lt_or_ge 30 b.length with h' | h'
    · exact (walk_long a0 a1 _ cap0 _ cap1 w (.inr ⟨h, h'⟩)).mono fun e w' ⟨h1, h2⟩ => ⟨h1, h2.below⟩
    · exact (walk_list a0 a1 cap0 cap1 a b w ha hb h h').mono fun e w' ⟨h1, h2⟩ => ⟨h1, h2.below⟩
end PairsLaw
end Go.Proofs.Ytmlmjajhmenjmaa
