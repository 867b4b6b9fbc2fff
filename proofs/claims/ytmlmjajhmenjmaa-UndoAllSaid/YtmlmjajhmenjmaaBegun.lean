/- begun: it returns true, whatever the world. -/
import Derived.Test.YtmlmjajhmenjmaaLogI
import Derived.Test.YtmlmjajhmenjmaaOnce
namespace Go.Proofs.Ytmlmjajhmenjmaa
open Go.RowKit

set_option maxHeartbeats 1000000 in
theorem begun_true (w : World) : Calls Try.prog 6 #[] w fun e w' => e = .returned (.bool true) ∧ Fr [] w w' := by
  go_enter Try.func6, Try.ntmps6
  go_wp2_with fail
  refine (Logi.new _).mono ?_
  rintro e w1 ⟨rfl, hl1, hf1, hs1⟩
  go_wp2_with fail
  refine (Logi.push w.heap.size _ [] 4 _ hl1 (by simp)).mono ?_
  rintro e w2 ⟨rfl, v2, hl2, hf2, hb2⟩
  go_wp2_with fail
  refine (Logi.push w.heap.size _ [4] 5 _ hl2 (by simp)).mono ?_
  rintro e w3 ⟨rfl, v3, hl3, hf3, hb3⟩
  go_wp2_with fail
  refine (Logi.back w.heap.size _ [4, 5] 1 _ hl3 (by simp)).mono ?_
  rintro e w4 ⟨vb, v4, rfl, hl4, hm4, hf4, hb4⟩
  have hu : Logi.upTo 1 [4, 5] = 1 := by decide
  rw [hu] at hl4 hm4
  simp only [List.take, List.drop, List.reverse_cons, List.reverse_nil, List.nil_append] at hl4 hm4
  obtain ⟨hr4, ho4⟩ := hm4
  rcases hr4.form with ⟨_, h0, _⟩ | ⟨g, off, cap, rfl, hnc, hcm⟩
  · simp at h0
  have hc4 := hr4.cells 0 (by simp)
  simp at hc4
  go_wp2_with fail
  refine (Logi.len w.heap.size _ [4] _ hl4).mono ?_
  rintro e w5 ⟨rfl, rfl⟩
  go_wp2_with fail
  refine (Oncei.calls (some ⟨w4.heap.size, 0, none⟩) 2 [1, 1] _ (by simp) (by
    intro j hj
    have hb := Blk.new w4 3 [.int .i64 1, .int .i64 1]
    refine ⟨_, _, rfl, by simp, ?_⟩
    rw [Nat.zero_add, hb.cell j]
    rcases j with _ | _ | j
    · rfl
    · rfl
    · simp at hj; omega)).mono ?_
  rintro e w6 ⟨v6, rfl, hr6, ho6, hf6⟩
  have hon : Oncei.once [] [1, 1] = [1] := by decide
  rw [hon] at hr6
  rcases hr6.form with ⟨_, h0, _⟩ | ⟨g6, off6, cap6, rfl, _, _⟩
  · simp at h0
  simp only [List.length_cons, List.length_nil]
  go_wp2_with fail
  go_ret
  refine ⟨rfl, ?_⟩
  have hv4 : some w.heap.size ∉ ([] : List (Option Nat)) := by simp
  have h1 : Fr [] w w2 := hf1.trans' hf2 (by simp [Value.ownBlock])
  have h2 : Fr [] w w3 := h1.trans' hf3 (by
    intro i hi
    rcases hb2 with h | ⟨k, hk, h⟩ <;> rw [h] at hi <;> simp [Value.ownBlock] at hi
    · exact .inr (by omega)
    · exact .inr (by have := hf1.size; omega))
  have h3 : Fr [] w w4 := h2.trans' hf4 (by simp)
  exact (h3.alloc _).trans' hf6 (by simp)
end Go.Proofs.Ytmlmjajhmenjmaa
