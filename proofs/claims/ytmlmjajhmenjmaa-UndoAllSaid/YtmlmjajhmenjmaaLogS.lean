/- undo.Log[string]: contracts of its methods. -/
import Derived.Test.YtmlmjajhmenjmaaRows
import Derived.Test.YtmlmjajhmenjmaaMem
import Derived.Test.YtmlmjajhmenjmaaShelf
import Derived.WalkSpells
import Derived.WalkLawsBesides
import Derived.Lib.Hide
namespace Go.Proofs.Ytmlmjajhmenjmaa
open Go.RowKit

namespace Logs
theorem info : (Try.prog.info? 9).map (fun i => (i.zero, i.size, i.bytes)) = some (some (Value.string ByteArray.empty), 1, 16) := by kernel_rfl

/-- a Log at block L: its one cell holds v, which reads as xs -/
structure Is (w : World) (L : Nat) (v : Value) (xs : List ByteArray) : Prop where
  blk : Blk w L 49 [v]
  row : Row w 9 1 v xs.length (xs.map (Value.string))
  ne : v.ownBlock ≠ some L

theorem Is.keep {w w' : World} {L : Nat} {v : Value} {xs : List ByteArray} {S : List (Option Nat)} (h : Is w L v xs) (hf : Fr S w w') (h1 : some L ∉ S) (h2 : ∀ k, v.ownBlock = some k → some k ∉ S) : Is w' L v xs :=
  ⟨h.blk.keep hf h1, h.row.keep hf h2, h.ne⟩

theorem new (w : World) : Calls Try.prog 9 #[] w fun e w' => e = .returned (.pointer (some ⟨w.heap.size, 0, none⟩)) ∧ Is w' w.heap.size (.slice none 0 0) [] ∧ Fr [] w w' ∧ w.heap.size < w'.heap.size := by
  go_enter Try.func9, Try.ntmps9
  go_wp2
  go_ret
  refine ⟨rfl, ⟨Blk.new w _ [_], Row.nil _ _ _, by simp [Value.ownBlock]⟩, (Fr.refl _ _).alloc _, by simp⟩

theorem push_nil (x : ByteArray) (w : World) : Calls Try.prog 10 #[.pointer none, Value.string x] w fun e w' => e = .returned (.tuple #[]) ∧ w = w' := by
  go_enter Try.func10, Try.ntmps10
  go_wp2
  go_end0
  exact ⟨rfl, rfl⟩

theorem len_nil (w : World) : Calls Try.prog 13 #[.pointer none] w fun e w' => e = .returned (.int .i64 0) ∧ w = w' := by
  go_enter Try.func13, Try.ntmps13
  go_wp2
  go_ret
  exact ⟨rfl, rfl⟩

theorem all_nil (w : World) : Calls Try.prog 12 #[.pointer none] w fun e w' => e = .returned (.slice none 0 0) ∧ w = w' := by
  go_enter Try.func12, Try.ntmps12
  go_wp2
  go_ret
  exact ⟨rfl, rfl⟩

theorem back_nil (n : Int) (w : World) : Calls Try.prog 11 #[.pointer none, .int .i64 n] w fun e w' => e = .returned (.slice none 0 0) ∧ w = w' := by
  go_enter Try.func11, Try.ntmps11
  go_wp2
  go_ret
  exact ⟨rfl, rfl⟩

theorem len (L : Nat) (v : Value) (xs : List ByteArray) (w : World) (h : Is w L v xs) : Calls Try.prog 13 #[.pointer (some ⟨L, 0, none⟩)] w fun e w' => e = .returned (.int .i64 xs.length) ∧ w = w' := by
  have hc : w.cell? ⟨L, 0, none⟩ = some v := h.blk.cell 0
  rcases h.row.form with ⟨rfl, h0, _⟩ | ⟨g, off, cap, rfl, _, _⟩
  · have hx : (xs.length : Int) = 0 := by omega
    have HX := Lib.hid hx
    clear hx h0
    go_enter Try.func13, Try.ntmps13
    go_wp2
    go_ret
    rw [HX.out]
    exact ⟨rfl, rfl⟩
  · go_enter Try.func13, Try.ntmps13
    go_wp2
    go_ret
    exact ⟨rfl, rfl⟩

set_option maxHeartbeats 400000 in
theorem push (L : Nat) (v : Value) (xs : List ByteArray) (x : ByteArray) (w : World) (h : Is w L v xs) (hn : xs.length < 1000000) :
    Calls Try.prog 10 #[.pointer (some ⟨L, 0, none⟩), Value.string x] w fun e w' => e = .returned (.tuple #[]) ∧
      ∃ v', Is w' L v' (xs ++ [x]) ∧ Fr [some L, v.ownBlock] w w' ∧ (v'.ownBlock = v.ownBlock ∨ ∃ k, w.heap.size ≤ k ∧ v'.ownBlock = some k) := by
  obtain ⟨i0, hi, hz0, hz1, hz2⟩ := info_parts info
  have hc : w.cell? ⟨L, 0, none⟩ = some v := h.blk.cell 0
  have hL := h.blk.lt
  have hlt := fun k => h.row.block_lt (k := k)
  have hrow := h.row
  have hblk := h.blk
  have hne := h.ne
  clear h
  go_enter Try.func10, Try.ntmps10
  go_wp2_with (at_builtin; refine wpList_append_row rfl _ _ 26 rfl 9 i0 (Value.string ByteArray.empty) 1 16 Try.underlying26 hi hz0 hz1 hz2 rfl (by decide) v xs.length (xs.map (Value.string)) rfl (hrow.keep ((Fr.refl [] _).alloc _) (by simp)) ⟨w.heap.size, 0, none⟩ 1 1 [Value.string x] rfl rfl ?c1 ?c2 ?c3 ?c4 ?_)
  case c1 => exact cell_one_new _ _ _
  case c2 => simp [Value.oneCell']
  case c3 => unfold maxLen; omega
  case c4 => omega
  intro v' w' hr' hf' hb'
  obtain ⟨a', n', c', rfl⟩ : ∃ a n c, v' = .slice a n c := by
    rcases hr'.form with ⟨h, _⟩ | ⟨g, off, cap, h, _⟩
    · exact ⟨_, _, _, h⟩
    · exact ⟨_, _, _, h⟩
  have hlx : v.ownBlock = none ∨ ∃ k, v.ownBlock = some k ∧ k < w.heap.size := by
    cases hv : v.ownBlock with
    | none => exact .inl rfl
    | some k => exact .inr ⟨k, rfl, hlt k hv⟩
  have hb1 := (hblk.alloc (.cells #[Value.string x] 9)).keep hf' (by simpa using fun h => hne h.symm)
  have hc1 := hb1.cell 0
  have hz1 := hb1.free 0
  go_wp2
  go_end0
  have hne' : (Value.slice a' n' c').ownBlock ≠ some L := by
    rcases hb' with h | ⟨k, hk, h⟩
    · rw [h]; exact hne
    · rw [h]; simp; omega
  have hlen : (xs ++ [x]).length = xs.length + 1 := by simp
  have hmap : (xs ++ [x]).map (Value.string) = xs.map (Value.string) ++ [Value.string x] := by simp
  refine ⟨rfl, _, ⟨hb1.set 0 _, ?_, hne'⟩, ?_, ?_⟩
  · rw [hlen, hmap]
    exact hr'.keep ((Fr.refl [some L] _).setCell (.inl (by simp)) _) (fun k hk => by rw [hk] at hne'; simpa using hne')
  · exact (((Fr.refl _ _).alloc _).trans' hf' (fun i hi => .inl (by simp at hi; simp [hi]))).setCell (.inl (by simp)) _
  · rcases hb' with h | ⟨k, hk, h⟩
    · exact .inl h
    · exact .inr ⟨k, by omega, h⟩

/-- a slice handed out: its own memory -/
def Mine (w w' : World) (v : Value) (xs : List ByteArray) : Prop :=
  Row w' 9 1 v xs.length (xs.map (Value.string)) ∧ (v.ownBlock = none ∨ ∃ k, w.heap.size ≤ k ∧ v.ownBlock = some k)

theorem clone (v : Value) (xs : List ByteArray) (w : World) (h : Row w 9 1 v xs.length (xs.map (Value.string))) (hn : xs.length ≤ 1000000) :
    Calls Try.prog 22 #[v] w fun e w' => ∃ v', e = .returned v' ∧ Mine w w' v' xs ∧ Fr [] w w' := by
  rcases h.form with ⟨rfl, h0, hx⟩ | ⟨g, off, cap, rfl, hnc, hcm⟩
  · obtain rfl : xs = [] := by simpa using hx
    refine (Try.slices_Clone_string_nil 0 0 w).mono ?_
    rintro e w' ⟨rfl, rfl⟩
    exact ⟨_, rfl, ⟨Row.nil _ _ _, .inl rfl⟩, Fr.refl _ _⟩
  · refine (Try.slices_Clone_string g off xs.length cap xs w (Nat.le_refl _) (by omega) (fun j hj => ?_)).mono ?_
    · rw [h.cells j (by simpa using hj), List.getD_eq_getElem?_getD, List.getElem?_map, List.getElem?_eq_getElem hj, List.getD_eq_getElem?_getD, List.getElem?_eq_getElem hj]
      rfl
    · rintro e w' ⟨v', rfl, ho, hne, hb⟩
      rw [List.take_of_length_le (Nat.le_refl _)] at ho
      refine ⟨v', rfl, ⟨Row.of_owns ho, ?_⟩, Fr.of_below hb⟩
      rcases hv : v'.ownBlock with _ | k
      · exact .inl rfl
      · exact .inr ⟨k, (ho.lt k hv).1, rfl⟩

theorem all (L : Nat) (v : Value) (xs : List ByteArray) (w : World) (h : Is w L v xs) (hn : xs.length ≤ 1000000) :
    Calls Try.prog 12 #[.pointer (some ⟨L, 0, none⟩)] w fun e w' => ∃ v', e = .returned v' ∧ Mine w w' v' xs ∧ Fr [] w w' := by
  have hc : w.cell? ⟨L, 0, none⟩ = some v := h.blk.cell 0
  go_enter Try.func12, Try.ntmps12
  go_wp2_with (go_at_call 22; refine (clone v xs _ h.row hn).mono ?_; rintro e w' ⟨v', rfl, hm, hf⟩)
  go_ret
  exact ⟨v', rfl, hm, hf⟩


open Go.Sort in
theorem rev (v : Value) (xs : List ByteArray) (w : World) (h : Row w 9 1 v xs.length (xs.map Value.string)) (hn : xs.length ≤ 1000000) :
    Calls Try.prog 23 #[v] w fun e w' => e = .returned (.tuple #[]) ∧ Row w' 9 1 v xs.reverse.length (xs.reverse.map Value.string) ∧ Fr [v.ownBlock] w w' := by
  rcases h.2 with ⟨rfl, h0⟩ | ⟨g, off, cap, cur, rfl, hb, hnc, hcm, hsz, ht⟩
  · obtain rfl : xs = [] := List.eq_nil_of_length_eq_zero h0
    refine (Try.slices_Reverse_string_empty none 0 w).mono ?_
    rintro e w' ⟨rfl, rfl⟩
    exact ⟨rfl, Row.nil _ _ _, Fr.refl _ _⟩
  · have hm := Try.slices_Reverse_string g off cap (xs.map (·.data.toList)) w (fun j hj => ⟨?_, hb.free _⟩) (by simp; omega)
    · rw [List.length_map] at hm
      refine hm.mono ?_
      rintro e w' ⟨rfl, q, rfl⟩
      have hlen : (xs.map (·.data.toList)).reverse.toArray.size = xs.length := by simp
      obtain ⟨hb', hf⟩ := blk_putRow (off := off) encStr hb (xs.map (·.data.toList)).reverse.toArray q (by rw [hlen]; omega)
      have henc : (xs.map (·.data.toList)).reverse.toArray.toList.map encStr = xs.reverse.map Value.string := by
        simp [← List.map_reverse, Function.comp_def, encStr]
      rw [henc, hlen] at hb'
      refine ⟨rfl, ⟨by simp, .inr ⟨g, off, cap, _, by simp, hb', by simpa using hnc, hcm, ?_, ?_⟩⟩, hf⟩
      · simp; omega
      · have e1 : (cur.take off).length = off := by simp; omega
        rw [List.append_assoc, List.drop_append_of_le_length (by rw [e1]; omega), List.drop_take, Nat.sub_self, List.take_zero, List.nil_append, List.take_append_of_le_length (by simp), List.take_of_length_le (by simp)]
    · rw [h.cells j (by simpa using hj)]
      have hj' : j < xs.length := by simpa using hj
      simp [List.getD_eq_getElem?_getD, hj', encStr]


/-- v[k:], and v[:k:k], as the walk has them -/
theorem cutLo {g off cap k : Nat} {xs : List ByteArray} {w : World} (h : Row w 9 1 (.slice (some ⟨g, off, none⟩) xs.length cap) xs.length (xs.map (Value.string))) (hk : k ≤ xs.length) :
    Row w 9 1 (.slice (some ⟨g, off + k, none⟩) (xs.length - k) (cap - k)) (xs.drop k).length ((xs.drop k).map (Value.string)) := by
  have hc : xs.length ≤ cap := by rcases h.form with ⟨h0, _⟩ | ⟨g', off', cap', he, h1, _⟩; cases h0; cases he; exact h1
  have := h.cut (lo := k) (hi := xs.length) (mx := cap) hk (Nat.le_refl _) hc (Nat.le_refl _)
  simp only [Nat.mul_one] at this
  rw [List.length_drop, List.map_drop]
  rw [List.take_of_length_le (by simp)] at this
  exact this
theorem cutEmpty {g off cap : Nat} {xs : List ByteArray} {w : World} (h : Row w 9 1 (.slice (some ⟨g, off, none⟩) xs.length cap) xs.length (xs.map (Value.string))) {n c : Nat} (hn : n = 0) (hc : c = 0) :
    Row w 9 1 (.slice (some ⟨g, off, none⟩) n c) 0 [] := by
  subst hn
  subst hc
  have := h.cut (lo := 0) (hi := 0) (mx := 0) (Nat.le_refl _) (Nat.zero_le _) (Nat.le_refl _) (Nat.zero_le _)
  simpa using this
theorem cutHi {g off cap k : Nat} {xs : List ByteArray} {w : World} (h : Row w 9 1 (.slice (some ⟨g, off, none⟩) xs.length cap) xs.length (xs.map (Value.string))) (hk : k ≤ xs.length) :
    Row w 9 1 (.slice (some ⟨g, off, none⟩) k k) (xs.take k).length ((xs.take k).map (Value.string)) := by
  have hc : xs.length ≤ cap := by rcases h.form with ⟨h0, _⟩ | ⟨g', off', cap', he, h1, _⟩; cases h0; cases he; exact h1
  have := h.cut (lo := 0) (hi := k) (mx := k) (Nat.zero_le _) hk (Nat.le_refl _) (by omega)
  rw [List.length_take, List.map_take, Nat.min_eq_left hk]
  simpa using this

/-- what is left of a run back to n -/
def upTo (n : Int) (xs : List ByteArray) : Nat := (min (max n 0) xs.length).toNat
theorem upTo_le (n : Int) (xs : List ByteArray) : upTo n xs ≤ xs.length := by unfold upTo; omega

set_option maxHeartbeats 1000000 in
theorem back (L : Nat) (v : Value) (xs : List ByteArray) (n : Int) (w : World) (h : Is w L v xs) (hn : xs.length ≤ 1000000) :
    Calls Try.prog 11 #[.pointer (some ⟨L, 0, none⟩), .int .i64 n] w fun e w' => ∃ vb v', e = .returned vb ∧ Is w' L v' (xs.take (upTo n xs)) ∧ Mine w w' vb (xs.drop (upTo n xs)).reverse ∧ Fr [some L] w w' ∧ v'.ownBlock = v.ownBlock := by
  have hc : w.cell? ⟨L, 0, none⟩ = some v := h.blk.cell 0
  have hL := h.blk.lt
  have hblk := h.blk
  have hne := h.ne
  rcases h.row.form with ⟨rfl, h0, hx⟩ | ⟨g, off, cap, rfl, hnc, hcm⟩
  · have hx' : xs = [] := by simpa using hx
    subst hx'
    clear h h0 hx
    have hz : (min (max n 0) (0 : Int)) = 0 := by omega
    go_enter Try.func11, Try.ntmps11
    go_wp2_with fail
    refine (clone (.slice none 0 0) [] _ (Row.nil _ _ _) (by simp)).mono ?_
    rintro e w1 ⟨vb, rfl, ⟨hr1, ho1⟩, hf1⟩
    have hblk1 := hblk.keep hf1 (by simp)
    have hL1 := hblk1.cell 0
    have hF1 := hblk1.free 0
    have hne1 : vb.ownBlock ≠ some L := by rcases ho1 with e | ⟨k, hk, e⟩ <;> rw [e] <;> simp; omega
    go_wp2_with fail
    refine (rev vb [] _ hr1 (by simp)).mono ?_
    rintro e w2 ⟨rfl, hr2, hf2⟩
    have hblk2 := hblk1.keep hf2 (by simpa using fun e => hne1 e.symm)
    have hL2 := hblk2.cell 0
    have hF2 := hblk2.free 0
    go_wp2_with fail
    go_ret
    have hf3 : Fr [some L] w w2 := (hf1.mono (by simp)).trans' hf2 (fun i hi => by
      rcases ho1 with e | ⟨k, hk, e⟩ <;> rw [e] at hi <;> simp at hi
      exact .inr (by omega))
    exact ⟨vb, _, rfl, ⟨hblk2.set 0 _, by simpa using Row.nil _ _ _, by simp [Value.ownBlock]⟩, ⟨by simpa using hr2.keep ((Fr.refl [some L] _).setCell (.inl (by simp)) _) (fun k hk => by rw [hk] at hne1; simpa using hne1), ho1⟩, hf3.setCell (.inl (by simp)) _, rfl⟩
  · have hcm0 := hcm
    unfold maxLen at hcm
    have hrow := h.row
    have hg : g < w.heap.size := hrow.block_lt rfl
    have hgL : g ≠ L := fun e => hne (by simp [Value.ownBlock, e])
    clear h
    have hk1 : (min (max n 0) (xs.length : Int)).toNat ≤ xs.length := by omega
    have hd1 : (xs.drop (min (max n 0) (xs.length : Int)).toNat).length ≤ 1000000 := by simp; omega
    go_enter Try.func11, Try.ntmps11
    go_wp2_with fail
    all_goals
      rename_i hcap
      refine (clone _ (xs.drop (min (max n 0) (xs.length : Int)).toNat) _ ?_ hd1).mono ?_
      first | exact cutLo hrow hk1 | exact (by rw [List.drop_eq_nil_of_le (by omega)]; exact cutEmpty hrow (by omega) rfl)
      rintro e w1 ⟨vb, rfl, ⟨hr1, ho1⟩, hf1⟩
      have hblk1 := hblk.keep hf1 (by simp)
      have hrow1 := hrow.keep hf1 (by simp)
      have hL1 := hblk1.cell 0
      have hF1 := hblk1.free 0
      have hne1 : vb.ownBlock ≠ some L := by rcases ho1 with e | ⟨k, hk, e⟩ <;> rw [e] <;> simp; omega
      go_wp2_with fail
      refine (rev vb (xs.drop (min (max n 0) (xs.length : Int)).toNat) _ hr1 hd1).mono ?_
      rintro e w2 ⟨rfl, hr2, hf2⟩
      have hblk2 := hblk1.keep hf2 (by simpa using fun e => hne1 e.symm)
      have hrow2 : Row w2 9 1 (.slice (some ⟨g, off, none⟩) xs.length cap) xs.length (xs.map (Value.string)) := hrow1.keep hf2 (by
        intro k hk
        simp only [Value.ownBlock, Option.some.injEq] at hk
        subst hk
        rcases ho1 with e | ⟨k, hk, e⟩ <;> rw [e] <;> simp; omega)
      have hL2 := hblk2.cell 0
      have hF2 := hblk2.free 0
      go_wp2_with fail
      go_ret
      refine ⟨vb, _, rfl, ⟨hblk2.set 0 _, (cutHi hrow2 hk1).keep ((Fr.refl [some L] _).setCell (.inl (by simp)) _) (by simpa [Value.ownBlock] using hgL), by simpa [Value.ownBlock] using hgL⟩, ⟨hr2.keep ((Fr.refl [some L] _).setCell (.inl (by simp)) _) (fun k hk => by rw [hk] at hne1; simpa using hne1), ho1⟩, ?_, rfl⟩
      refine Fr.setCell ((hf1.mono (by simp)).trans' hf2 (fun i hi => ?_)) (.inl (by simp)) _
      rcases ho1 with e | ⟨k, hk, e⟩ <;> rw [e] at hi <;> simp at hi
      exact .inr (by omega)

end Logs
end Go.Proofs.Ytmlmjajhmenjmaa
