/- plan: whether a column has an index, as the program looks; what of an expression is looked at first. -/
import Derived.Test.YtmdnhinpaflamaaDoorPnB
namespace Go.Proofs.YtmdnhinpaflamaaDoor
open Go.RowKit
set_option linter.unusedVariables false
set_option linter.unusedSimpArgs false
namespace Pn
open PM (Ex B Col)
open Px (ColS colC z7 put7 frPut7 blkPut7 ret_cell7 c7_of)
theorem contains_bytes (l : List B) (x : B) : Lib.containsS (l.map fun b => (⟨b.toArray⟩ : ByteArray)) ⟨x.toArray⟩ = l.contains x := by
  have h : Lib.containsS (l.map fun b => (⟨b.toArray⟩ : ByteArray)) ⟨x.toArray⟩ = true ↔ l.contains x = true := by
    rw [Lib.containsS_iff, List.contains_iff_mem, List.mem_map]
    constructor
    · rintro ⟨b, hb, e⟩
      have e := congrArg (fun z => z.data.toList) e
      simp at e
      exact e ▸ hb
    · exact fun h => ⟨x, h, rfl⟩
  cases h1 : l.contains x <;> cases h2 : Lib.containsS (l.map fun b => (⟨b.toArray⟩ : ByteArray)) ⟨x.toArray⟩ <;> simp_all
theorem contains_dec (l : List B) (x : B) : l.contains x = decide (x ∈ l) := by
  cases h : l.contains x
  · rw [eq_comm, decide_eq_false_iff_not, ← List.contains_iff_mem, h]; decide
  · rw [eq_comm, decide_eq_true_iff, ← List.contains_iff_mem]; exact h
theorem contains_any (ix : List B) (nm : B) (A : Nat → Prop) (ia : Option Addr) (ic : Nat) (hil : ix.length ≤ 100) (w : World) (h : StrS A w (.slice ia ix.length ic) ix) :
    Calls Tryd.prog 102 #[.slice ia ix.length ic, .string ⟨nm.toArray⟩] w fun e w' => e = .returned (.bool (ix.contains nm)) ∧ w' = w := by
  cases ix with
  | nil => exact Tryd.slices_Contains_string_empty ia ic ⟨nm.toArray⟩ w
  | cons y r =>
    have hz := (Sh.flat_form (cells := strC) (size := 1) (fun _ => rfl) h).2.2
    obtain ⟨g, off, rfl, -, hg, hcap, -⟩ := hz 0 (by simp)
    have := Tryd.slices_Contains_string g off (y :: r).length ic ((y :: r).map fun b => (⟨b.toArray⟩ : ByteArray)) ⟨nm.toArray⟩ w (by simp) (by omega) (fun j hj => by
      rw [List.length_map] at hj
      obtain ⟨g2, off2, e, -, -, -, hc⟩ := hz j hj
      cases e
      have := hc 0 _ rfl
      rw [Nat.mul_one, Nat.add_zero] at this
      rw [this, List.getD_eq_getElem?_getD, List.getElem?_map, List.getElem?_eq_getElem hj]
      rfl)
    rw [List.take_of_length_le (by simp), contains_bytes] at this
    exact this
set_option maxRecDepth 100000 in
set_option maxHeartbeats 2000000 in
/-- the program's Indexed -/
theorem sindexed_any (tn : B) (l : List Col) (ix : List B) (nm : B) (A : Nat → Prop) (a ia : Option Addr) (c ic : Nat) (hl : l.length ≤ 100) (hil : ix.length ≤ 100) (w : World) (h : TR A w ⟨tn, l, ix⟩ a c ia ic) :
    Calls Tryd.prog 74 #[.agg #[.string ⟨tn.toArray⟩, .slice a l.length c, .slice ia ix.length ic], .string ⟨nm.toArray⟩] w fun e w' => e = .returned (.bool (indexed ⟨tn, l, ix⟩ nm)) ∧ Fr [] w w' := by
  have hf0 := (Fr.refl [] w).alloc (.cells #[.string ⟨tn.toArray⟩, .slice a l.length c, .slice ia ix.length ic] 27)
  have HC := Lib.hid (scolumn_any tn l ix nm A a ia c ic hl _ (h.keep hf0 (by simp)))
  have HBX := Lib.hid (Blk.new w 27 [.string ⟨tn.toArray⟩, .slice a l.length c, .slice ia ix.length ic])
  have HI : Hid (StrS A w (.slice ia ix.length ic) ix) := Lib.hid h.ix
  have HF0 := Lib.hid hf0
  clear h hf0
  obtain ⟨pl, hpl⟩ : ∃ z, place l nm = z := ⟨_, rfl⟩
  rw [hpl] at HC
  have HR : Hid (indexed ⟨tn, l, ix⟩ nm = (decide (pl = 0) || ix.contains nm)) := Lib.hid (by unfold indexed; rw [← hpl])
  clear hpl
  go_enter Tryd.func74, Tryd.ntmps74
  go_wp2_with fail
  refine HC.out.mono ?_
  rintro e w2 ⟨rfl, hf2⟩
  have b2 := (HBX.out.keep hf2 (by simp)).cell 2
  have hbl := (HBX.out.keep hf2 (by simp)).lt
  simp only [List.getElem?_cons_zero, List.getElem?_cons_succ] at b2
  have HF2 := Lib.hid (HF0.out.trans hf2)
  clear hf2
  by_cases h0 : pl = 0
  · subst h0
    go_wp2_with fail
    go_ret
    exact ⟨by rw [HR.out]; rfl, HF2.out⟩
  · have hb0 : (pl == 0) = false := beq_eq_false_iff_ne.2 h0
    have HR2 : Hid (indexed ⟨tn, l, ix⟩ nm = ix.contains nm) := Lib.hid (by rw [HR.out, decide_eq_false h0]; rfl)
    have HQ := Lib.hid (contains_any ix nm A ia ic hil w2 (Px.FlatS.keep HF2.out (by simp) HI.out))
    clear h0
    go_wp2_with fail
    refine HQ.out.mono ?_
    rintro e w3 ⟨rfl, rfl⟩
    go_wp2_with fail
    go_ret
    exact ⟨by rw [HR2.out, contains_dec]; rfl, HF2.out⟩
/-- what of an expression is looked at first -/
def first : Ex → Ex
  | .mk op kind int text table name [] => .mk op kind int text table name []
  | .mk op kind int text table name (x :: r) => if op = 14 then first x else .mk op kind int text table name (x :: r)
theorem first_go (kind int : Int) (text table name : B) (x : Ex) (r : List Ex) : first (.mk 14 kind int text table name (x :: r)) = first x := by rw [first, if_pos rfl]
theorem first_end (op kind int : Int) (text table name : B) (args : List Ex) (h : op ≠ 14 ∨ args = []) : first (.mk op kind int text table name args) = .mk op kind int text table name args := by
  cases args with
  | nil => rw [first]
  | cons x r =>
    rcases h with h | h
    · rw [first, if_neg h]
    · cases h
end Pn
end Go.Proofs.YtmdnhinpaflamaaDoor
