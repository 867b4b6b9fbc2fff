/- lex: the document's words. -/
import Derived.Test.YtfpkcddnikgabaaDoorLexJ
namespace Go.Proofs.YtfpkcddnikgabaaDoor
open Go.RowKit

namespace Lx
open LexM (Tok)

theorem words_any (w : World) : Calls Tryd.prog 20 #[] w fun e w' => e = .returned (.slice (some ⟨w.heap.size, 0, none⟩) 37 37) ∧
    Blk w' w.heap.size 9 (LexM.words.map fun (l : List UInt8) => Value.string (ByteArray.mk l.toArray)) ∧ Fr [] w w' := by
  go_enter Tryd.func20, Tryd.ntmps20
  go_wp2_with fail
  go_ret
  exact ⟨rfl, Blk.new w 9 (LexM.words.map fun (l : List UInt8) => Value.string (ByteArray.mk l.toArray)), (Fr.refl [] w).alloc _⟩
theorem words_len : LexM.words.length = 37 := by decide +kernel

theorem str_yes {x t : ByteArray} (h : x = t) : (x.toList == t.toList) = true := by rw [h]; exact beq_self_eq_true _
theorem str_no {x t : ByteArray} (h : ¬ x = t) : (x.toList == t.toList) = false := by
  rw [Lib.bytes_beq_false_iff]
  exact h
theorem bytes_inj {x t : List UInt8} (h : ByteArray.mk x.toArray = ByteArray.mk t.toArray) : x = t := congrArg (fun b : ByteArray => b.data.toList) h

set_option maxHeartbeats 1000000 in
theorem word_any (t : List UInt8) (w : World) : Calls Tryd.prog 14 #[.string ⟨t.toArray⟩] w fun e w' => e = .returned (.bool (LexM.words.contains t)) ∧ Fr [] w w' := by
  obtain ⟨b, hbt⟩ : ∃ b, LexM.words.contains t = b := ⟨_, rfl⟩
  rw [hbt]
  have HBT := Lib.hid hbt
  clear hbt
  obtain ⟨tb, htb⟩ : ∃ tb, ByteArray.mk t.toArray = tb := ⟨_, rfl⟩
  rw [htb]
  have HTB := Lib.hid htb
  clear htb
  go_enter Tryd.func14, Tryd.ntmps14
  go_wp2_with fail
  refine (words_any w).mono ?_
  rintro e w1 ⟨rfl, hb, hf1⟩
  have HB := Lib.hid hb
  have HF1 := Lib.hid hf1
  clear hb hf1
  go_wp2_with fail
  go_loop [4] (fun u4 => ∃ (k : Nat), k ≤ 37 ∧ u4 = .int .i64 k ∧ Hid ((LexM.words.take k).contains t = false)) (fun i => 37 - (intOf i).toNat)
  case atStart => exact ⟨0, by omega, rfl, rfl⟩
  case round =>
    obtain ⟨k, hk, rfl, HK⟩ := hrel
    by_cases hlt : k < 37
    · have hkl : k < LexM.words.length := by rw [words_len]; exact hlt
      obtain ⟨x, hx⟩ : ∃ x, LexM.words[k]'hkl = x := ⟨_, rfl⟩
      obtain ⟨xb, hxb⟩ : ∃ xb, ByteArray.mk x.toArray = xb := ⟨_, rfl⟩
      have hcell : w1.cell? ⟨w.heap.size, k, none⟩ = some (.string xb) := by
        rw [HB.out.cell k, List.getElem?_map, List.getElem?_eq_getElem hkl, hx, ← hxb]
        rfl
      by_cases hxt : x = t
      · have HW : Hid (LexM.words.contains t = true) := by
          rw [Hid, List.contains_iff_mem, ← hxt, ← hx]
          exact List.getElem_mem _
        have hs : (xb.toList == tb.toList) = true := str_yes (by rw [← hxb, hxt]; exact HTB.out)
        clear hx hxt hxb
        go_wp2_with fail
        go_ret
        rw [← HBT.out, HW.out]
        exact ⟨rfl, HF1.out⟩
      · have HK2 : Hid ((LexM.words.take (k + 1)).contains t = false) := by
          rw [Hid, List.take_succ_eq_append_getElem hkl, hx, Bool.eq_false_iff]
          intro h
          rw [List.contains_iff_mem, List.mem_append, List.mem_singleton, ← List.contains_iff_mem, HK.out] at h
          rcases h with h | h
          · cases h
          · exact hxt h.symm
        have hs : (xb.toList == tb.toList) = false := str_no (by rw [← hxb, ← HTB.out]; exact fun h => hxt (bytes_inj h))
        clear hx hxt hxb
        go_wp2_with fail
        go_round
        case rel => exact ⟨k + 1, hlt, by go_num, HK2⟩
        case measure => simp [intOf]; omega
    · have HW : Hid (LexM.words.contains t = false) := by
        have := HK.out
        rwa [List.take_of_length_le (by rw [words_len]; omega)] at this
      go_wp2_with fail
      go_ret
      rw [← HBT.out, HW.out]
      exact ⟨rfl, HF1.out⟩
end Lx
end Go.Proofs.YtfpkcddnikgabaaDoor
