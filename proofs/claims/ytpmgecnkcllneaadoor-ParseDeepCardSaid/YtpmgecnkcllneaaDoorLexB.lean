/- lex: a name, a number. -/
import Derived.Test.YtpmgecnkcllneaaDoorLexW
import Derived.Test.YtpmgecnkcllneaaDoorShelf
namespace Go.Proofs.YtpmgecnkcllneaaDoor
open Go.RowKit

namespace Lx
open LexM (Tok)
/-- a word as a value -/
def tokA (kind : Int) (text : List UInt8) (int : Int) (pos : Nat) : Value := .agg #[.int .i64 kind, .string ⟨text.toArray⟩, .int .i64 int, .int .i64 pos]
def tokV (t : Tok) : Value := tokA t.kind t.text t.int t.pos
/-- what a reader of a word returns -/
def tokR : (Nat × Int) ⊕ (Tok × Nat) → Value
  | .inl (q, e) => .tuple #[tokA 0 [] 0 0, .int .i64 q, .int .i64 e]
  | .inr (t, _) => .tuple #[tokV t, .int .i64 0, .int .i64 0]
/-- the reader behind it -/
def After (w : World) (R : Nat) (S : List UInt8) : (Nat × Int) ⊕ (Tok × Nat) → Prop
  | .inl _ => True
  | .inr (_, q) => Rd w R S q

theorem count_words : Lib.countB ⟨LexM.wordsText.toArray⟩ ⟨#[32]⟩ = 36 := (by decide +kernel : Lib.count LexM.wordsText [32] = 36)
theorem split_words : Lib.splitB ⟨#[32]⟩ 0 36 ⟨LexM.wordsText.toArray⟩ = LexM.words.map (fun l => ⟨l.toArray⟩) := by
  have h := Lib.splitB_data ⟨#[32]⟩ 0 36 ⟨LexM.wordsText.toArray⟩
  have e : Lib.splitK [32] 0 36 LexM.wordsText = LexM.words := by decide +kernel
  rw [show (ByteArray.mk #[32]).data.toList = [32] from rfl, show (ByteArray.mk LexM.wordsText.toArray).data.toList = LexM.wordsText from rfl, e] at h
  rw [← h, List.map_map]
  exact (List.map_id _).symm
theorem contains_words (t : List UInt8) : Lib.containsS ((LexM.words.map (fun l => (⟨l.toArray⟩ : ByteArray))).take 37) ⟨t.toArray⟩ = LexM.words.contains t := by
  rw [Bool.eq_iff_iff, Lib.containsS_iff, List.contains_iff_mem, List.take_of_length_le (by decide +kernel)]
  simp

theorem isWord_any (x : ByteArray) (hx : x = ⟨LexM.wordsText.toArray⟩) (t : List UInt8) (w : World) (m : Int) (hm : w.cell? ⟨0, 0, none⟩ = some (.int .i64 m)) :
    Calls Tryd.prog 64 #[.string x, .string ⟨#[32]⟩] w fun e w' => ∃ g c, e = .returned (.slice (some ⟨g, 0, none⟩) 37 c) ∧ Fr [] w w' ∧
      Calls Tryd.prog 63 #[.slice (some ⟨g, 0, none⟩) 37 c, .string ⟨t.toArray⟩] w' fun e w'' => e = .returned (.bool (LexM.words.contains t)) ∧ w'' = w' := by
  subst hx
  refine (Tryd.strings_Split ⟨LexM.wordsText.toArray⟩ ⟨#[32]⟩ m w (by decide +kernel) hm (by decide)).mono ?_
  rintro e w' ⟨rfl, rfl⟩
  rw [count_words]
  refine ⟨w.heap.size, 37, rfl, (Fr.refl _ _).alloc _, ?_⟩
  rw [← contains_words]
  refine Tryd.slices_Contains_string w.heap.size 0 37 37 (LexM.words.map (fun l => ⟨l.toArray⟩)) ⟨t.toArray⟩ _ (by decide +kernel) (by decide) (fun j hj => ?_)
  rw [split_words]
  have hb := Blk.new w 9 ((LexM.words.map (fun l => (⟨l.toArray⟩ : ByteArray))).map Value.string)
  rw [Nat.zero_add]
  refine (hb.cell j).trans ?_
  rw [List.getElem?_map, List.getD_eq_getElem?_getD]
  rw [List.getElem?_eq_getElem hj]
  rfl

/-- the name at place p, where a letter stands -/
def nameM (p : Nat) (S : List UInt8) : (Nat × Int) ⊕ (Tok × Nat) :=
  let t := (S.drop p).takeWhile LexM.nameByte
  if LexM.words.contains t then .inr (⟨2, t, 0, p⟩, p + t.length)
  else if 16 < t.length then .inl (p, 7)
  else .inr (⟨1, t, 0, p⟩, p + t.length)

def zcells : List Value := [.int .i64 0, .string ⟨#[]⟩, .int .i64 0, .int .i64 0]

/-- the result's cells, written -/
def put4 (w : World) (T : Nat) (a b c d : Value) : World := (((w.setCell ⟨T, 0, none⟩ a).setCell ⟨T, 1, none⟩ b).setCell ⟨T, 2, none⟩ c).setCell ⟨T, 3, none⟩ d
theorem frPut4 {X : List (Option Nat)} {a w : World} {T : Nat} (h : Fr X a w) (hT : some T ∈ X ∨ a.heap.size ≤ T) (x y z u : Value) : Fr X a (put4 w T x y z u) :=
  (((h.setCell (p := ⟨T, 0, none⟩) hT x).setCell (p := ⟨T, 1, none⟩) hT y).setCell (p := ⟨T, 2, none⟩) hT z).setCell (p := ⟨T, 3, none⟩) hT u
theorem blkPut4 {w : World} {T : Nat} {l : List Value} (h : Blk w T 67 l) (hl : l.length = 4) (x y z u : Value) : Blk (put4 w T x y z u) T 67 [x, y, z, u] := by
  obtain ⟨a, b, c, d, rfl⟩ : ∃ a b c d, l = [a, b, c, d] := by
    rcases l with _ | ⟨a, _ | ⟨b, _ | ⟨c, _ | ⟨d, _ | _⟩⟩⟩⟩ <;> simp at hl
    exact ⟨a, b, c, d, rfl⟩
  exact (((h.set 0 x).set 1 y).set 2 z).set 3 u
theorem ret_tok {fn : Func} (h : fn.results = #[.cell 2 67, .tmp 3, .tmp 4]) (tmps : Array Value) (T : Nat) (h2 : tmps.getD 2 undef = .pointer (some ⟨T, 0, none⟩)) (w : World) (a b c d : Value) (hb : Blk w T 67 [a, b, c, d]) :
    (results fn tmps).run Tryd.prog w = .ok (.tuple #[.agg #[a, b, c, d], tmps.getD 3 undef, tmps.getD 4 undef]) w := by
  have c0 := hb.cell 0
  have c1 := hb.cell 1
  have c2 := hb.cell 2
  have c3 := hb.cell 3
  simp only [List.getElem?_cons_zero, List.getElem?_cons_succ] at c0 c1 c2 c3
  have h2' : tmps[2]?.getD undef = .pointer (some ⟨T, 0, none⟩) := by simpa using h2
  simp [results, h, h2', go_sem, c0, c1, c2, c3]

set_option maxRecDepth 100000 in
set_option maxHeartbeats 1000000 in
theorem name_any (R : Nat) (S : List UInt8) (p : Nat) (w : World) (m : Int) (hm : w.cell? ⟨0, 0, none⟩ = some (.int .i64 m)) (h00 : 0 < w.heap.size) (hR : R ≠ 0) (hr : Rd w R S p) (hS : S.length ≤ 1000000) (hp : p ≤ S.length) :
    Calls Tryd.prog 45 #[.pointer (some ⟨R, 0, none⟩)] w fun e w' => e = .returned (tokR (nameM p S)) ∧ After w' R S (nameM p S) ∧ Fr [some R] w w' := by
  have h1 := hr.c1
  have hlt := hr.lt
  have HR := Lib.hid hr
  have HS := Lib.hid hS
  have HM := Lib.hid hm
  clear hr hS hm
  go_enter Tryd.func45, Tryd.ntmps45
  go_wp2_with fail
  refine (while_any 62 LexM.nameByte (fun v w => by kernel_rfl) nameb_any R S p _ ((HR.out.alloc _)) HS.out hp).mono ?_
  rintro e w1 ⟨rfl, hr1, hf1⟩
  obtain ⟨t, ht⟩ : ∃ t, (S.drop p).takeWhile LexM.nameByte = t := ⟨_, rfl⟩
  rw [ht] at hr1 ⊢
  have hT : Blk w1 w.heap.size 67 zcells := (Blk.new w 67 zcells).keep hf1 (by simp; omega)
  have HM1 : w1.cell? ⟨0, 0, none⟩ = some (.int .i64 m) := (hf1.cell (by simp) (by simp; omega)).trans ((((Fr.refl [] w).alloc _).cell h00 (by simp)).trans HM.out)
  go_wp2_with fail
  refine (isWord_any _ (by kernel_rfl) t w1 m HM1).mono ?_
  rintro e w2 ⟨g, cp, rfl, hf2, hC⟩
  have hT2 := hT.keep hf2 (by simp)
  have c0 := hT2.cell 0
  have c1 := hT2.cell 1
  have c2 := hT2.cell 2
  have c3 := hT2.cell 3
  have f0 := hT2.free 0
  have f1 := hT2.free 1
  have f2 := hT2.free 2
  have f3 := hT2.free 3
  have HC := Lib.hid hC
  have HT2 := Lib.hid hT2
  have hTl := hT2.lt
  have hr2 := Lib.hid (hr1.keep hf2 (by simp))
  have hfr : Fr [some R] w w2 := ((Fr.refl _ _).alloc _).trans' (hf1.trans' hf2 (by simp)) (by simp)
  have HF := Lib.hid hfr
  clear hC hT hT2 hf1 hf2 hfr HM1 h1
  simp only [zcells, List.getElem?_cons_zero, List.getElem?_cons_succ] at c0 c1 c2 c3
  have HT := Lib.hid ht
  clear ht
  go_wp2_with fail
  refine HC.out.mono ?_
  rintro e w3 ⟨rfl, rfl⟩
  cases hw : LexM.words.contains t
  · by_cases hl : 16 < t.length
    · have hl' : (16 : Int) < (t.length : Int) := by omega
      have HW := Lib.hid hw
      clear hw
      go_wp2_with fail
      refine bodyPost_ret (ret_tok rfl _ w.heap.size rfl _ _ _ _ _ (blkPut4 HT2.out rfl _ _ _ _)) rfl ⟨?_, ?_, frPut4 HF.out (.inr (by omega)) _ _ _ _⟩
      all_goals simp only [nameM, HT.out, HW.out, if_pos hl, Bool.false_eq_true, if_false]
      · rfl
      · trivial
    · have hl' : (t.length : Int) ≤ 16 := by omega
      have HW := Lib.hid hw
      clear hw
      go_wp2_with fail
      refine bodyPost_ret (ret_tok rfl _ w.heap.size rfl _ _ _ _ _ (blkPut4 HT2.out rfl _ _ _ _)) rfl ⟨?_, ?_, frPut4 HF.out (.inr (by omega)) _ _ _ _⟩
      all_goals simp only [nameM, HT.out, HW.out, if_neg hl, Bool.false_eq_true, if_false]
      · rfl
      · exact Rd.keep hr2.out (frPut4 (Fr.refl [some w.heap.size] _) (.inl (by simp)) _ _ _ _) (by simp; omega)
  · have HW := Lib.hid hw
    clear hw
    go_wp2_with fail
    refine bodyPost_ret (ret_tok rfl _ w.heap.size rfl _ _ _ _ _ (blkPut4 HT2.out rfl _ _ _ _)) rfl ⟨?_, ?_, frPut4 HF.out (.inr (by omega)) _ _ _ _⟩
    all_goals simp only [nameM, HT.out, HW.out, if_true]
    · rfl
    · exact Rd.keep hr2.out (frPut4 (Fr.refl [some w.heap.size] _) (.inl (by simp)) _ _ _ _) (by simp; omega)
end Lx
end Go.Proofs.YtpmgecnkcllneaaDoor
