/- UndoOnce: the walk. -/
import Derived.Test.YtmlmjajhmenjmaaArg
import Derived.Deep.QuietTactic
import Derived.BigQuiet
namespace Go.Proofs.Ytmlmjajhmenjmaa
open Go.RowKit

namespace OnceLaw
open Onceu
theorem once_append (acc a b : List Int) : once acc (a ++ b) = once (once acc a) b := by
  induction a generalizing acc with
  | nil => rfl
  | cons x r ih =>
    simp only [List.cons_append, once]
    split <;> exact ih _

theorem once_prefix (acc b : List Int) : ∃ r, once acc b = acc ++ r := by
  induction b generalizing acc with
  | nil => exact ⟨[], by simp [once]⟩
  | cons x r ih =>
    simp only [once]
    split
    · exact ih _
    · obtain ⟨s, hs⟩ := ih (acc ++ [x])
      exact ⟨x :: s, by rw [hs]; simp⟩

theorem has_once (acc b : List Int) (x : Int) : has (once acc b) x = (has acc x || has b x) := by
  induction b generalizing acc with
  | nil => simp [once, has]
  | cons y r ih =>
    simp only [once]
    split
    · rename_i h
      rw [ih]
      simp only [has, List.contains_eq_mem] at *
      by_cases hxy : x = y
      · subst hxy; simp at h; simp [h]
      · simp [hxy]
    · rw [ih]
      simp only [has, List.contains_eq_mem]
      by_cases hxy : x = y <;> simp [hxy]

/-- the table of what was seen -/
def seen (l : List Int) : List Value := (List.range 256).map fun (c : Nat) => .bool (has l c)
theorem seen_len (l : List Int) : (seen l).length = 256 := by simp [seen]
theorem seen_get (l : List Int) (x : Int) (h0 : 0 ≤ x) (h1 : x ≤ 255) : (seen l)[x.toNat]? = some (.bool (has l x)) := by
  have : x.toNat < 256 := by omega
  simp only [seen, List.getElem?_map, List.getElem?_range this, Option.map_some]
  rw [Int.toNat_of_nonneg h0]
theorem seen_set (l : List Int) (x : Int) (h0 : 0 ≤ x) (h1 : x ≤ 255) : (seen l).set x.toNat (.bool true) = seen (l ++ [x]) := by
  apply List.ext_getElem?
  intro j
  by_cases hj : j < 256
  · rw [List.getElem?_set]
    simp only [seen, List.getElem?_map, List.getElem?_range hj, List.length_map, List.length_range]
    by_cases he : x.toNat = j
    · have hx : (j : Int) = x := by omega
      rw [if_pos he, if_pos (by omega)]
      simp [has, hx]
    · have hx : ¬ ((j : Int) = x) := by omega
      rw [if_neg he]
      simp [has, hx]
  · rw [List.getElem?_eq_none (by simp [seen]; omega), List.getElem?_eq_none (by simp [seen]; omega)]

theorem seen_same (l : List Int) (x : Int) (h : has l x = true) : seen (l ++ [x]) = seen l := by
  unfold seen
  apply List.map_congr_left
  intro c _
  congr 1
  simp only [has, List.contains_eq_mem, List.mem_append, List.mem_singleton, decide_eq_decide] at *
  constructor
  · rintro (h1 | h1)
    · exact h1
    · rw [h1]; simpa using h
  · exact .inl

/-- one round: what is known of the list where x is new, and where it is not -/
theorem round_new (l : List Int) (k : Nat) (y : Int) (hk : k < l.length) (hy : l[k] = y) (hh : has (l.take k) y = false) :
    once [] (l.take (k + 1)) = once [] (l.take k) ++ [y] ∧ (once [] (l.take k)).length < (once [] l).length ∧ (once [] l)[(once [] (l.take k)).length]? = some y := by
  have hno : has (once [] (l.take k)) y = false := by rw [has_once, hh]; simp [has]
  have e1 : once [] (l.take (k + 1)) = once [] (l.take k) ++ [y] := by
    rw [List.take_succ_eq_append_getElem hk, hy, once_append]
    simp only [once, hno]
    simp
  have e2 : once [] l = once (once [] (l.take (k + 1))) (l.drop (k + 1)) := by rw [← once_append, List.take_append_drop]
  obtain ⟨r, hr⟩ := once_prefix (once [] (l.take (k + 1))) (l.drop (k + 1))
  rw [e2, hr, e1]
  refine ⟨rfl, by simp, ?_⟩
  simp

theorem round_old (l : List Int) (k : Nat) (y : Int) (hk : k < l.length) (hy : l[k] = y) (hh : has (l.take k) y = true) :
    once [] (l.take (k + 1)) = once [] (l.take k) ∧ seen (l.take (k + 1)) = seen (l.take k) := by
  have hno : has (once [] (l.take k)) y = true := by rw [has_once, hh]; simp
  rw [List.take_succ_eq_append_getElem hk, hy, once_append]
  exact ⟨by simp [once, hno], seen_same _ _ hh⟩

theorem zero256 (w : World) : (zeroValue 25).run Try.prog w = .ok (.agg (seen []).toArray) w := by kernel_rfl

set_option maxHeartbeats 1000000 in
theorem walk_list (a : Option Addr) (cap : Nat) (l : List Int) (w : World) (ha : Arg .u8 w a l) (hb : ∀ x ∈ l, 0 ≤ x ∧ x ≤ 255) (hl : l.length ≤ 60) :
    Calls Try.prog 3 #[.slice a l.length cap] w fun e w' => e = .returned (.bool true) ∧ Fr [] w w' := by
  have h60 : ¬ (60 : Int) < (l.length : Int) := by omega
  have hz := zero256
  go_enter Try.func3, Try.ntmps3
  go_wp2_with fail
  refine (begun_true _).mono ?_
  rintro e w1 ⟨rfl, hf1⟩
  go_wp2_with fail
  refine (Onceu.calls a cap l _ (by omega) (ha.keep hf1)).mono ?_
  rintro e w2 ⟨v, rfl, hr2, ho2, hf2⟩
  have hf2' := hf1.trans hf2
  have ha2 := ha.keep hf2'
  have HA := Lib.hid ha
  clear ha hf1 hf2
  obtain ⟨xa, xc, rfl⟩ : ∃ xa xc, v = .slice xa (once [] l).length xc := by
    rcases hr2.form with ⟨h, h0, _⟩ | ⟨g, off, c, h, _⟩
    · exact ⟨none, 0, by rw [h, h0]⟩
    · exact ⟨_, _, h⟩
  go_wp2_with fail
  clear hz
  have hB := Blk.new w2 25 (seen [])
  generalize hw3 : w2.alloc (.cells (seen []).toArray 25) = w3 at *
  obtain ⟨sb, hsb⟩ : ∃ sb, w2.heap.size = sb := ⟨_, rfl⟩
  have hf3 : Fr [] w w3 := by rw [← hw3]; exact hf2'.alloc _
  have ha3 : Arg .u8 w3 a l := ha2.keep (by rw [← hw3]; exact (Fr.refl _ _).alloc _)
  have hr3 : Row w3 5 1 (.slice xa (once [] l).length xc) (once [] l).length ((once [] l).map (Value.int .u8)) := hr2.keep (by rw [← hw3]; exact (Fr.refl [] _).alloc _) (by simp)
  have hsv : (Value.slice xa (once [] l).length xc).ownBlock ≠ some sb := fun h => by have := hr2.block_lt h; omega
  have hsw : w.heap.size ≤ sb := by rw [← hsb]; exact hf2'.size
  rw [hsb]
  rw [hsb] at hB
  clear hw3 hsb hf2' ha2 hr2
  have HR := Lib.hid hr3
  have H3 := Lib.hid ha3
  clear hr3 ha3
  obtain ⟨N, hN⟩ : ∃ N, (once [] l).length = N := ⟨_, rfl⟩
  have HN := Lib.hid hN
  rw [hN] at HR hsv ho2 ⊢
  clear hN
  go_loopw [4, 6] (fun n i wr => ∃ k m : Nat, k ≤ l.length ∧ i = .int .i64 k ∧ n = .int .i64 m ∧ m ≤ k ∧ Hid (m = (once [] (l.take k)).length) ∧ Blk wr sb 25 (seen (l.take k)) ∧ Fr [some sb] w3 wr) (fun _ i _ => l.length - (intOf i).toNat)
  case atStart => exact ⟨0, 0, by omega, rfl, rfl, by omega, rfl, hB, Fr.refl _ _⟩
  case round =>
    obtain ⟨k, m, hk, rfl, rfl, hm, HM, hblk, hfr⟩ := hrel
    by_cases hlt : k < l.length
    · obtain ⟨b, off, rfl, hbw, hc0⟩ := HA.out k hlt
      obtain ⟨y, hy⟩ : ∃ y, l[k] = y := ⟨_, rfl⟩
      have hbs : b ≠ sb := by omega
      have hcell : wr.cell? ⟨b, off + k, none⟩ = some (.int .u8 y) := by
        obtain ⟨b', off', he, hb3, hc3⟩ := H3.out k hlt
        cases he
        refine (hfr.cell (p := ⟨b, off + k, none⟩) hb3 (by simpa using hbs)).trans (hc3.trans ?_)
        simp [List.getD_eq_getElem?_getD, hlt, hy]
      obtain ⟨hy0, hy1⟩ := hb y (by rw [← hy]; exact List.getElem_mem _)
      have hseen : wr.cell? ⟨sb, y.toNat, none⟩ = some (.bool (has (l.take k) y)) := by rw [hblk.cell, seen_get _ _ hy0 hy1]
      have hfree := hblk.free y.toNat
      have hset := hblk.set y.toNat (.bool true)
      rw [seen_set _ _ hy0 hy1] at hset
      have HY := Lib.hid hy
      clear hy hc0
      cases hh : has (l.take k) y
      · rw [hh] at hseen
        obtain ⟨q1, q2, q3⟩ := round_new l k y hlt HY.out hh
        rw [HN.out, ← HM.out] at q2
        rw [← HM.out] at q3
        have hm0 := hfr
        rcases (HR.out).form with ⟨_, h0, _⟩ | ⟨g, off2, c2, he, _, _⟩
        · omega
        cases he
        have hgs : g ≠ sb := fun e => hsv (by simp [Value.ownBlock, e])
        have hxm : (wr.setCell ⟨sb, y.toNat, none⟩ (.bool true)).cell? ⟨g, off2 + m, none⟩ = some (.int .u8 y) := by
          have hrow := (HR.out.keep hfr (by simpa [Value.ownBlock] using hgs)).keep ((Fr.refl [some sb] wr).setCell (p := ⟨sb, y.toNat, none⟩) (.inl (by simp)) (.bool true)) (by simpa [Value.ownBlock] using hgs)
          rw [← HN.out] at hrow
          have hj : m < ((once [] l).map (Value.int .u8)).length := by rw [List.length_map, HN.out]; exact q2
          rw [hrow.cells m hj, List.getD_eq_getElem?_getD, List.getElem?_map, q3]
          rfl
        have hcell2 : (wr.setCell ⟨sb, y.toNat, none⟩ (.bool true)).cell? ⟨b, off + k, none⟩ = some (.int .u8 y) := by
          rw [← hcell]
          exact World.cell?_of_block (Below.heap_setCell wr ⟨sb, y.toNat, none⟩ _ b hbs)
        have HQ := Lib.hid (And.intro q1 q3)
        have HH := Lib.hid hh
        have hmn : decide (N ≤ m) = false := by simpa using q2
        clear hh q1 q3
        go_wp2_with fail
        go_quiet (fail)
        go_wp2_with fail
        go_roundw
        case rel =>
          have e1 : l.take (k + 1) = l.take k ++ [y] := by rw [List.take_succ_eq_append_getElem hlt, HY.out]
          exact ⟨k + 1, m + 1, by omega, by go_num, by go_num, by omega, by rw [Hid, HQ.out.1, List.length_append, ← HM.out]; rfl, by rw [e1]; exact hset.drewN _, (hfr.setCell (.inl (by simp)) _).drewN _⟩
        case measure => simp [intOf]; omega
      · rw [hh] at hseen
        obtain ⟨q1, q2⟩ := round_old l k y hlt HY.out hh
        have HQ := Lib.hid (And.intro q1 q2)
        clear hh q1 q2 hset
        go_wp2_with fail
        go_roundw
        case rel => exact ⟨k + 1, m, by omega, by go_num, rfl, by omega, by rw [Hid, HQ.out.1]; exact HM.out, by rw [HQ.out.2]; exact hblk, hfr⟩
        case measure => simp [intOf]; omega
    · have hkl : l.take k = l := List.take_of_length_le (by omega)
      have hmN : m = N := by rw [HM.out, hkl, HN.out]
      subst hmN
      clear hkl
      go_wp2_with fail
      refine (Onces.calls (some ⟨wr.heap.size, 0, none⟩) 3 [⟨#[97]⟩, ⟨#[98]⟩, ⟨#[97]⟩] _ (by simp) (by
        intro j hj
        have hb := Blk.new wr 9 [.string ⟨#[97]⟩, .string ⟨#[98]⟩, .string ⟨#[97]⟩]
        refine ⟨_, _, rfl, by simp, ?_⟩
        rw [Nat.zero_add, hb.cell j]
        rcases j with _ | _ | _ | j
        · rfl
        · rfl
        · rfl
        · simp at hj; omega)).mono ?_
      rintro e w6 ⟨v6, rfl, hr6, ho6, hf6⟩
      have hon : (Onces.once [] [⟨#[97]⟩, ⟨#[98]⟩, ⟨#[97]⟩]).length = 2 := by decide +kernel
      rw [hon] at hr6
      rcases hr6.form with ⟨_, h0, _⟩ | ⟨g6, off6, cap6, rfl, _, _⟩
      · simp at h0
      go_wp2_with fail
      go_ret
      refine ⟨rfl, ?_⟩
      refine Fr.trans' (hf3.trans' hfr (fun i hi => ?_)) (((Fr.refl [] _).alloc _).trans' hf6 (by simp)) (by simp)
      simp at hi
      exact .inr (by omega)

theorem walk_long (a : Option Addr) (n cap : Nat) (w : World) (hl : 60 < n) :
    Calls Try.prog 3 #[.slice a n cap] w fun e w' => e = .returned (.bool true) ∧ Fr [] w w' := by
  have h60 : (60 : Int) < (n : Int) := by omega
  go_enter Try.func3, Try.ntmps3
  go_wp2_with fail
  refine (begun_true _).mono ?_
  rintro e w1 ⟨rfl, hf1⟩
  go_wp2_with fail
  go_ret
  exact ⟨rfl, hf1⟩

theorem law (a : Option Addr) (cap : Nat) (l : List Int) (w : World) (ha : Arg .u8 w a l) (hb : ∀ x ∈ l, 0 ≤ x ∧ x ≤ 255) :
    Calls Try.prog 3 #[.slice a l.length cap] w fun e w' => e = .returned (.bool true) ∧ Below w.heap.size w w' := by
  rcases Nat.lt_or_ge 60 l.length with h | h
  · exact (walk_long a _ cap w h).mono fun e w' ⟨h1, h2⟩ => ⟨h1, h2.below⟩
  · exact (walk_list a cap l w ha hb h).mono fun e w' ⟨h1, h2⟩ => ⟨h1, h2.below⟩
end OnceLaw
end Go.Proofs.Ytmlmjajhmenjmaa
