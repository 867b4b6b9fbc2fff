/- lex: a name, a number. -/
import Derived.Test.YtmdnhinpaflamaaGreatDoorBas
import Derived.Test.YtmdnhinpaflamaaGreatDoorShelf
import Derived.Lib.IndexAny
import Derived.Lib.SlicesS
namespace Go.Proofs.YtmdnhinpaflamaaGreatDoor
open Go.RowKit

namespace Lx
open LexM (Tok)
/-- a word as a value -/
def tokA (kind : Int) (text : List UInt8) (int : Int) (pos : Nat) : Value := .agg #[.int .i64 kind, .string ⟨text.toArray⟩, .int .i64 int, .int .i64 pos]
def tokV (t : Tok) : Value := tokA t.kind t.text t.int t.pos
/-- what a reader of a word returns -/
def tokR : (Nat × Int) ⊕ (Tok × Nat) → Value
  | .inl (q, e) => .tuple #[tokA 0 [] 0 0, .int .i64 q, .int .i64 e]
  | .inr (t, _) => .tuple #[tokV t, .int .i64 0, .int .i64 0]
/-- the reader behind it -/
def After (w : World) (R : Nat) (S : List UInt8) : (Nat × Int) ⊕ (Tok × Nat) → Prop
  | .inl _ => True
  | .inr (_, q) => Rd w R S q

theorem count_words : Lib.countB ⟨LexM.wordsText.toArray⟩ ⟨#[32]⟩ = 36 := (by decide +kernel : Lib.count LexM.wordsText [32] = 36)
theorem split_words : Lib.splitB ⟨#[32]⟩ 0 36 ⟨LexM.wordsText.toArray⟩ = LexM.words.map (fun l => ⟨l.toArray⟩) := by
  have h := Lib.splitB_data ⟨#[32]⟩ 0 36 ⟨LexM.wordsText.toArray⟩
  have e : Lib.splitK [32] 0 36 LexM.wordsText = LexM.words := by decide +kernel
  rw [show (ByteArray.mk #[32]).data.toList = [32] from rfl, show (ByteArray.mk LexM.wordsText.toArray).data.toList = LexM.wordsText from rfl, e] at h
  rw [← h, List.map_map]
  exact (List.map_id _).symm
theorem contains_words (t : List UInt8) : Lib.containsS ((LexM.words.map (fun l => (⟨l.toArray⟩ : ByteArray))).take 37) ⟨t.toArray⟩ = LexM.words.contains t := by
  rw [Bool.eq_iff_iff, Lib.containsS_iff, List.contains_iff_mem, List.take_of_length_le (by decide +kernel)]
  simp

theorem isWord_any (x : ByteArray) (hx : x = ⟨LexM.wordsText.toArray⟩) (t : List UInt8) (w : World) (m : Int) (hm : w.cell? ⟨1, 0, none⟩ = some (.int .i64 m)) :
    Calls Tryz.prog 131 #[.string x, .string ⟨#[32]⟩] w fun e w' => ∃ g c, e = .returned (.slice (some ⟨g, 0, none⟩) 37 c) ∧ Fr [] w w' ∧
      Calls Tryz.prog 130 #[.slice (some ⟨g, 0, none⟩) 37 c, .string ⟨t.toArray⟩] w' fun e w'' => e = .returned (.bool (LexM.words.contains t)) ∧ w'' = w' := by
  subst hx
  refine (Tryz.strings_Split ⟨LexM.wordsText.toArray⟩ ⟨#[32]⟩ m w (by decide +kernel) hm (by decide)).mono ?_
  rintro e w' ⟨rfl, rfl⟩
  rw [count_words]
  refine ⟨w.heap.size, 37, rfl, (Fr.refl _ _).alloc _, ?_⟩
  rw [← contains_words]
  refine Tryz.slices_Contains_string w.heap.size 0 37 37 (LexM.words.map (fun l => ⟨l.toArray⟩)) ⟨t.toArray⟩ _ (by decide +kernel) (by decide) (fun j hj => ?_)
  rw [split_words]
  have hb := Blk.new w 9 ((LexM.words.map (fun l => (⟨l.toArray⟩ : ByteArray))).map Value.string)
  rw [Nat.zero_add]
  refine (hb.cell j).trans ?_
  rw [List.getElem?_map, List.getD_eq_getElem?_getD]
  rw [List.getElem?_eq_getElem hj]
  rfl

/-- the name at place p, where a letter stands -/
def nameM (p : Nat) (S : List UInt8) : (Nat × Int) ⊕ (Tok × Nat) :=
  let t := (S.drop p).takeWhile LexM.nameByte
  if LexM.words.contains t then .inr (⟨2, t, 0, p⟩, p + t.length)
  else if 16 < t.length then .inl (p, 7)
  else .inr (⟨1, t, 0, p⟩, p + t.length)

def zcells : List Value := [.int .i64 0, .string ⟨#[]⟩, .int .i64 0, .int .i64 0]

/-- the result's cells, written -/
def put4 (w : World) (T : Nat) (a b c d : Value) : World := (((w.setCell ⟨T, 0, none⟩ a).setCell ⟨T, 1, none⟩ b).setCell ⟨T, 2, none⟩ c).setCell ⟨T, 3, none⟩ d
theorem frPut4 {X : List (Option Nat)} {a w : World} {T : Nat} (h : Fr X a w) (hT : some T ∈ X ∨ a.heap.size ≤ T) (x y z u : Value) : Fr X a (put4 w T x y z u) :=
  (((h.setCell (p := ⟨T, 0, none⟩) hT x).setCell (p := ⟨T, 1, none⟩) hT y).setCell (p := ⟨T, 2, none⟩) hT z).setCell (p := ⟨T, 3, none⟩) hT u
theorem blkPut4 {w : World} {T : Nat} {l : List Value} (h : Blk w T 45 l) (hl : l.length = 4) (x y z u : Value) : Blk (put4 w T x y z u) T 45 [x, y, z, u] := by
  obtain ⟨a, b, c, d, rfl⟩ : ∃ a b c d, l = [a, b, c, d] := by
    rcases l with _ | ⟨a, _ | ⟨b, _ | ⟨c, _ | ⟨d, _ | _⟩⟩⟩⟩ <;> simp at hl
    exact ⟨a, b, c, d, rfl⟩
  exact (((h.set 0 x).set 1 y).set 2 z).set 3 u
theorem ret_tok {fn : Func} (h : fn.results = #[.cell 2 45, .tmp 3, .tmp 4]) (tmps : Array Value) (T : Nat) (h2 : tmps.getD 2 undef = .pointer (some ⟨T, 0, none⟩)) (w : World) (a b c d : Value) (hb : Blk w T 45 [a, b, c, d]) :
    (results fn tmps).run Tryz.prog w = .ok (.tuple #[.agg #[a, b, c, d], tmps.getD 3 undef, tmps.getD 4 undef]) w := by
  have c0 := hb.cell 0
  have c1 := hb.cell 1
  have c2 := hb.cell 2
  have c3 := hb.cell 3
  simp only [List.getElem?_cons_zero, List.getElem?_cons_succ] at c0 c1 c2 c3
  have h2' : tmps[2]?.getD undef = .pointer (some ⟨T, 0, none⟩) := by simpa using h2
  simp [results, h, h2', go_sem, c0, c1, c2, c3]

set_option maxRecDepth 100000 in
set_option maxHeartbeats 1000000 in
theorem name_any (R : Nat) (S : List UInt8) (p : Nat) (w : World) (m : Int) (hm : w.cell? ⟨1, 0, none⟩ = some (.int .i64 m)) (h00 : 1 < w.heap.size) (hR : R ≠ 1) (hr : Rd w R S p) (hS : S.length ≤ 1000000) (hp : p ≤ S.length) :
    Calls Tryz.prog 94 #[.pointer (some ⟨R, 0, none⟩)] w fun e w' => e = .returned (tokR (nameM p S)) ∧ After w' R S (nameM p S) ∧ Fr [some R] w w' := by
  have h1 := hr.c1
  have hlt := hr.lt
  have HR := Lib.hid hr
  have HS := Lib.hid hS
  have HM := Lib.hid hm
  clear hr hS hm
  go_enter Tryz.func94, Tryz.ntmps94
  go_wp2_with fail
  refine (while_any 129 LexM.nameByte (fun v w => by kernel_rfl) nameb_any R S p _ ((HR.out.alloc _)) HS.out hp).mono ?_
  rintro e w1 ⟨rfl, hr1, hf1⟩
  obtain ⟨t, ht⟩ : ∃ t, (S.drop p).takeWhile LexM.nameByte = t := ⟨_, rfl⟩
  rw [ht] at hr1 ⊢
  have hT : Blk w1 w.heap.size 45 zcells := (Blk.new w 45 zcells).keep hf1 (by simp; omega)
  have HM1 : w1.cell? ⟨1, 0, none⟩ = some (.int .i64 m) := (hf1.cell (by simp <;> omega) (by simp <;> omega)).trans ((((Fr.refl [] w).alloc _).cell h00 (by simp)).trans HM.out)
  go_wp2_with fail
  refine (isWord_any _ (by kernel_rfl) t w1 m HM1).mono ?_
  rintro e w2 ⟨g, cp, rfl, hf2, hC⟩
  have hT2 := hT.keep hf2 (by simp)
  have c0 := hT2.cell 0
  have c1 := hT2.cell 1
  have c2 := hT2.cell 2
  have c3 := hT2.cell 3
  have f0 := hT2.free 0
  have f1 := hT2.free 1
  have f2 := hT2.free 2
  have f3 := hT2.free 3
  have HC := Lib.hid hC
  have HT2 := Lib.hid hT2
  have hTl := hT2.lt
  have hr2 := Lib.hid (hr1.keep hf2 (by simp))
  have hfr : Fr [some R] w w2 := ((Fr.refl _ _).alloc _).trans' (hf1.trans' hf2 (by simp)) (by simp)
  have HF := Lib.hid hfr
  clear hC hT hT2 hf1 hf2 hfr HM1 h1
  simp only [zcells, List.getElem?_cons_zero, List.getElem?_cons_succ] at c0 c1 c2 c3
  have HT := Lib.hid ht
  clear ht
  go_wp2_with fail
  refine HC.out.mono ?_
  rintro e w3 ⟨rfl, rfl⟩
  cases hw : LexM.words.contains t
  · by_cases hl : 16 < t.length
    · have hl' : (16 : Int) < (t.length : Int) := by omega
      have HW := Lib.hid hw
      clear hw
      go_wp2_with fail
      refine bodyPost_ret (ret_tok rfl _ w.heap.size rfl _ _ _ _ _ (blkPut4 HT2.out rfl _ _ _ _)) rfl ⟨?_, ?_, frPut4 HF.out (.inr (by omega)) _ _ _ _⟩
      all_goals simp only [nameM, HT.out, HW.out, if_pos hl, Bool.false_eq_true, if_false]
      · rfl
      · trivial
    · have hl' : (t.length : Int) ≤ 16 := by omega
      have HW := Lib.hid hw
      clear hw
      go_wp2_with fail
      refine bodyPost_ret (ret_tok rfl _ w.heap.size rfl _ _ _ _ _ (blkPut4 HT2.out rfl _ _ _ _)) rfl ⟨?_, ?_, frPut4 HF.out (.inr (by omega)) _ _ _ _⟩
      all_goals simp only [nameM, HT.out, HW.out, if_neg hl, Bool.false_eq_true, if_false]
      · rfl
      · exact Rd.keep hr2.out (frPut4 (Fr.refl [some w.heap.size] _) (.inl (by simp)) _ _ _ _) (by simp; omega)
  · have HW := Lib.hid hw
    clear hw
    go_wp2_with fail
    refine bodyPost_ret (ret_tok rfl _ w.heap.size rfl _ _ _ _ _ (blkPut4 HT2.out rfl _ _ _ _)) rfl ⟨?_, ?_, frPut4 HF.out (.inr (by omega)) _ _ _ _⟩
    all_goals simp only [nameM, HT.out, HW.out, if_true]
    · rfl
    · exact Rd.keep hr2.out (frPut4 (Fr.refl [some w.heap.size] _) (.inl (by simp)) _ _ _ _) (by simp; omega)
end Lx
end Go.Proofs.YtmdnhinpaflamaaGreatDoor
namespace Go.Proofs.YtmdnhinpaflamaaGreatDoor
open Go.RowKit

namespace Lx
open LexM (Tok)
open Parse (parseV parseE)

/-- the number at place p -/
def numM (p : Nat) (S : List UInt8) : (Nat × Int) ⊕ (Tok × Nat) :=
  let t := (S.drop p).takeWhile LexM.dig
  if LexM.letter (at0 S (p + t.length)) then .inl (p + t.length, 4)
  else if parseE t = 0 then .inr (⟨3, [], parseV t, p⟩, p + t.length)
  else .inl (p, parseE t)

structure Cells (w : World) (T : Nat) : Prop where
  c0 : w.cell? ⟨T, 0, none⟩ = some (.int .i64 0)
  c1 : w.cell? ⟨T, 1, none⟩ = some (.string ⟨#[]⟩)
  c2 : w.cell? ⟨T, 2, none⟩ = some (.int .i64 0)
  c3 : w.cell? ⟨T, 3, none⟩ = some (.int .i64 0)
  f0 : w.frozen? ⟨T, 0, none⟩ = false
  f1 : w.frozen? ⟨T, 1, none⟩ = false
  f2 : w.frozen? ⟨T, 2, none⟩ = false
  f3 : w.frozen? ⟨T, 3, none⟩ = false
theorem cells_of {w : World} {T : Nat} (h : Blk w T 45 zcells) : Cells w T :=
  ⟨h.cell 0, h.cell 1, h.cell 2, h.cell 3, h.free 0, h.free 1, h.free 2, h.free 3⟩

set_option maxRecDepth 100000 in
set_option maxHeartbeats 1000000 in
theorem number_any (R : Nat) (S : List UInt8) (p : Nat) (w : World) (hr : Rd w R S p) (hS : S.length ≤ 1000000) (hp : p ≤ S.length) :
    Calls Tryz.prog 96 #[.pointer (some ⟨R, 0, none⟩)] w fun e w' => e = .returned (tokR (numM p S)) ∧ After w' R S (numM p S) ∧ Fr [some R] w w' := by
  have h1 := hr.c1
  have hlt := hr.lt
  have HR := Lib.hid hr
  have HS := Lib.hid hS
  clear hr hS
  go_enter Tryz.func96, Tryz.ntmps96
  go_wp2_with fail
  refine (while_any 95 LexM.dig (fun v w => by kernel_rfl) digit_any R S p _ ((HR.out.alloc _)) HS.out hp).mono ?_
  rintro e w1 ⟨rfl, hr1, hf1⟩
  obtain ⟨t, ht⟩ : ∃ t, (S.drop p).takeWhile LexM.dig = t := ⟨_, rfl⟩
  have htl := (LexM.takeWhile_len LexM.dig (S.drop p))
  rw [ht] at hr1 htl ⊢
  rw [List.length_drop] at htl
  have hT : Blk w1 w.heap.size 45 zcells := (Blk.new w 45 zcells).keep hf1 (by simp; omega)
  have hfr1 : Fr [some R] w w1 := ((Fr.refl _ _).alloc _).trans' hf1 (by simp)
  clear hf1 h1
  have HT := Lib.hid ht
  clear ht
  go_wp2_with fail
  refine (next_any R S (p + t.length) w1 hr1).mono ?_
  rintro e w2 ⟨rfl, hr2, hf2⟩
  obtain ⟨d, hd⟩ : ∃ d, at0 S (p + t.length) = d := ⟨_, rfl⟩
  rw [hd]
  have HD := Lib.hid hd
  clear hd
  go_wp2_with fail
  refine (letter_any d w2).mono ?_
  rintro e w3 ⟨rfl, rfl⟩
  have hT3 := hT.keep hf2 (by simp)
  have hfr3 := Lib.hid (hfr1.trans' hf2 (by simp))
  have HR3 := Lib.hid hr2
  clear hf2 hr2 hr1 hT hfr1
  cases hl : LexM.letter d
  · have HL := Lib.hid hl
    have HT3 := Lib.hid hT3
    clear hl hT3
    go_wp2_with fail
    refine (Parse.parse_any t w3 (by have := HS.out; omega)).mono ?_
    rintro e w4 ⟨rfl, hf4⟩
    have hT4 := HT3.out.keep hf4 (by simp)
    have hTl := hT4.lt
    obtain ⟨c0, c1, c2, c3, f0, f1, f2, f3⟩ := cells_of hT4
    have HT4 := Lib.hid hT4
    have hfr4 := Lib.hid (hfr3.out.trans' hf4 (by simp))
    have HR4 := Lib.hid (HR3.out.keep hf4 (by simp))
    clear hf4 hT4
    obtain ⟨v, hv⟩ : ∃ v, parseV t = v := ⟨_, rfl⟩
    obtain ⟨x, hx⟩ : ∃ x, parseE t = x := ⟨_, rfl⟩
    rw [hv, hx]
    have HV := Lib.hid hv
    have HX := Lib.hid hx
    clear hv hx
    by_cases h0 : x = 0
    · subst h0
      go_wp2_with fail
      refine bodyPost_ret (ret_tok rfl _ w.heap.size rfl _ _ _ _ _ (blkPut4 HT4.out rfl _ _ _ _)) rfl ⟨?_, ?_, frPut4 hfr4.out (.inr (by omega)) _ _ _ _⟩
      all_goals simp only [numM, HT.out, HL.out, HD.out, HX.out, HV.out, Bool.false_eq_true, if_false, if_true]
      · rfl
      · exact Rd.keep HR4.out (frPut4 (Fr.refl [some w.heap.size] _) (.inl (by simp)) _ _ _ _) (by simp; omega)
    · have hx0 : (x == 0) = false := by simp [h0]
      have H0 := Lib.hid h0
      clear h0
      go_wp2_with fail
      refine bodyPost_ret (ret_tok rfl _ w.heap.size rfl _ _ _ _ _ (blkPut4 HT4.out rfl _ _ _ _)) rfl ⟨?_, ?_, frPut4 hfr4.out (.inr (by omega)) _ _ _ _⟩
      all_goals simp only [numM, HT.out, HL.out, HD.out, HX.out, HV.out, Bool.false_eq_true, if_false, if_neg H0.out]
      · rfl
      · trivial
  · have hTl := hT3.lt
    obtain ⟨c0, c1, c2, c3, f0, f1, f2, f3⟩ := cells_of hT3
    have HT3 := Lib.hid hT3
    have h1 := HR3.out.c1
    have HL := Lib.hid hl
    have hne : ¬ R = w.heap.size := by omega
    clear hl hT3
    go_wp2_with fail
    go_region
    all_goals
      go_wp2_with fail
      refine bodyPost_ret (ret_tok rfl _ w.heap.size rfl _ _ _ _ _ (blkPut4 HT3.out rfl _ _ _ _).drew) rfl ⟨?_, ?_, (frPut4 hfr3.out (.inr (by omega)) _ _ _ _).drew⟩
      all_goals simp only [numM, HT.out, HL.out, HD.out, if_true]
      · rfl
      · trivial
end Lx
end Go.Proofs.YtmdnhinpaflamaaGreatDoor
namespace Go.Proofs.YtmdnhinpaflamaaGreatDoor
open Go.RowKit

namespace Lx
open LexM (Tok)

/-- the sign at place p -/
def signM (p : Nat) (S : List UInt8) : (Nat × Int) ⊕ (Tok × Nat) :=
  let c := at0 S p
  if LexM.signs.contains c then
    let d := at0 S (p + 1)
    if (c = 60 ∧ (d = 62 ∨ d = 61)) ∨ (c = 62 ∧ d = 61) then .inr (⟨5, [c, d], 0, p⟩, p + 2)
    else .inr (⟨5, [c], 0, p⟩, p + 1)
  else .inl (p, 4)

set_option maxRecDepth 100000 in
set_option maxHeartbeats 1000000 in
theorem sign_any (R : Nat) (S : List UInt8) (p : Nat) (w : World) (hr : Rd w R S p) (hS : S.length ≤ 1000000) (hp : p ≤ S.length) :
    Calls Tryz.prog 98 #[.pointer (some ⟨R, 0, none⟩)] w fun e w' => e = .returned (tokR (signM p S)) ∧ After w' R S (signM p S) ∧ Fr [some R] w w' := by
  have h1 := hr.c1
  have hlt := hr.lt
  have HR := Lib.hid hr
  have HS := Lib.hid hS
  clear hr hS
  go_enter Tryz.func98, Tryz.ntmps98
  go_wp2_with fail
  refine (next_any R S p _ (HR.out.alloc _)).mono ?_
  rintro e w1 ⟨rfl, hr1, hf1⟩
  obtain ⟨c, hc⟩ : ∃ c, at0 S p = c := ⟨_, rfl⟩
  rw [hc]
  have HC := Lib.hid hc
  clear hc
  have hT : Blk w1 w.heap.size 45 zcells := (Blk.new w 45 zcells).keep hf1 (by simp)
  have hfr1 := Lib.hid ((((Fr.refl [] w).alloc _).trans' hf1 (by simp)).mono (S' := [some R]) (by simp))
  have HR1 := Lib.hid hr1
  clear hf1 hr1 h1
  go_wp2_with fail
  refine (Tryz.strings_IndexByte _ (c.toNat : Int) w1).mono ?_
  rintro e w2 ⟨rfl, rfl⟩
  have hix : LexM.signs.contains c = decide (0 ≤ Lib.indexByte LexM.signs c) := Lib.contains_iff_indexByte _ _
  rw [show Lib.indexByte (ByteArray.mk #[40, 41, 44, 46, 61, 60, 62, 43, 45, 42]).data.toList (Int.toNat (c.toNat : Int)).toUInt8 = Lib.indexByte LexM.signs c from by
    show Lib.indexByte LexM.signs (Int.toNat (c.toNat : Int)).toUInt8 = _
    congr 1
    simp]
  obtain ⟨x, hx⟩ : ∃ x, Lib.indexByte LexM.signs c = x := ⟨_, rfl⟩
  rw [hx] at hix ⊢
  clear hx
  by_cases h0 : 0 ≤ x
  · have HI : Hid (LexM.signs.contains c = true) := by rw [Hid, hix]; simp [h0]
    clear hix
    have h1 := HR1.out.c1
    have hz1 := HR1.out.free 1
    have hcv := str_of_one (P := Tryz.prog) Tryz.underlying35 Tryz.underlying9 Tryz.underlying5 w2 (c.toNat : Int) 1
    have hw : wrap64 ((p : Int) + 1) = ((p + 1 : Nat) : Int) := by have := HS.out; unfold wrap64; omega
    have hz1' : (w2.alloc (.cells #[.int .u8 (c.toNat : Int)] 5)).frozen? ⟨R, 1, none⟩ = false := (HR1.out.alloc _).free 1
    have h1' : (w2.alloc (.cells #[.int .u8 (c.toNat : Int)] 5)).cell? ⟨R, 1, none⟩ = some (.int .i64 p) := Rd.c1 (p := p) (HR1.out.alloc _)
    have HT := Lib.hid hT
    clear hT
    go_wp2_with fail
    refine (next_any R S (p + 1) _ (Rd.set (p := p) (HR1.out.alloc _) (p + 1))).mono ?_
    rintro e w3 ⟨rfl, hr3, hf3⟩
    obtain ⟨d, hd⟩ : ∃ d, at0 S (p + 1) = d := ⟨_, rfl⟩
    rw [hd]
    have HD := Lib.hid hd
    clear hd
    have hfa : Fr [some R] w2 w3 := ((((Fr.refl [] w2).alloc _).mono (S' := [some R]) (by simp)).setCell (p := ⟨R, 1, none⟩) (.inl (by simp)) _).trans' hf3 (by simp)
    have hlt2 := HT.out.lt
    have HT3 := Lib.hid (HT.out.keep hfa (by simp; omega))
    have hfr3 := Lib.hid (hfr1.out.trans hfa)
    have HR3 := Lib.hid hr3
    clear hcv h1 hz1 hz1' h1' hf3 hfa hr3
    have hcv := str_of_one (P := Tryz.prog) Tryz.underlying35 Tryz.underlying9 Tryz.underlying5 w3 (d.toNat : Int) 1
    have h1' : (w3.alloc (.cells #[.int .u8 (d.toNat : Int)] 5)).cell? ⟨R, 1, none⟩ = some (.int .i64 ((p : Int) + 1)) := Rd.c1 (p := p + 1) (HR3.out.alloc _)
    have hz1' : (w3.alloc (.cells #[.int .u8 (d.toNat : Int)] 5)).frozen? ⟨R, 1, none⟩ = false := (HR3.out.alloc _).free 1
    have hw2 : wrap64 ((p : Int) + 1 + 1) = (p : Int) + 1 + 1 := by have := HS.out; unfold wrap64; omega
    have hT4 := HT3.out.alloc (.cells #[.int .u8 (d.toNat : Int)] 5)
    obtain ⟨c0, c1, c2, c3, f0, f1, f2, f3⟩ := cells_of hT4
    have HT4 := Lib.hid hT4
    have hTl := hT4.lt
    clear hT4
    have hne : ¬ R = w.heap.size := by omega
    have hne' : ¬ w.heap.size = R := by omega
    by_cases hb : (c = 60 ∧ (d = 62 ∨ d = 61)) ∨ (c = 62 ∧ d = 61)
    · have HB := Lib.hid hb
      obtain ⟨e1, he, hv⟩ : ∃ e1 : ByteArray, (⟨#[c]⟩ ++ ⟨#[d]⟩ : ByteArray) = e1 ∧ (e1 = ⟨#[60, 62]⟩ ∨ e1 = ⟨#[60, 61]⟩ ∨ e1 = ⟨#[62, 61]⟩) := by
        rcases hb with ⟨rfl, rfl | rfl⟩ | ⟨rfl, rfl⟩
        · exact ⟨_, rfl, .inl rfl⟩
        · exact ⟨_, rfl, .inr (.inl rfl)⟩
        · exact ⟨_, rfl, .inr (.inr rfl)⟩
      clear hb
      have HE : Hid (e1 = ⟨[c, d].toArray⟩) := he.symm.trans rfl
      rcases hv with rfl | rfl | rfl
      all_goals
        go_wp2_with fail

        refine bodyPost_ret (ret_tok rfl _ w.heap.size rfl _ _ _ _ _ (blkPut4 ((HT4.out.keep ((Fr.refl [some R] _).setCell (p := ⟨R, 1, none⟩) (.inl (by simp)) _) (by simp; omega))) rfl _ _ _ _)) rfl ⟨?_, ?_, frPut4 (((hfr3.out).alloc _).setCell (p := ⟨R, 1, none⟩) (.inl (by simp)) _) (.inr (by omega)) _ _ _ _⟩
        all_goals simp only [signM, HC.out, HD.out, HI.out, if_true, if_pos HB.out]
        · simp only [tokR, tokV, tokA]; rw [← HE.out]; rfl
        · exact Rd.keep (p := p + 2) (Rd.set (p := p + 1) (HR3.out.alloc _) (p + 2)) (frPut4 (Fr.refl [some w.heap.size] _) (.inl (by simp)) _ _ _ _) (by simp; omega)
    · have HB := Lib.hid hb
      obtain ⟨e1, he⟩ : ∃ e1 : ByteArray, (⟨#[c]⟩ ++ ⟨#[d]⟩ : ByteArray) = e1 := ⟨_, rfl⟩
      have hn : ∀ x y : UInt8, e1 = ⟨#[x, y]⟩ → c = x ∧ d = y := by
        rintro x y h
        rw [← he] at h
        have : [c, d] = [x, y] := congrArg (fun b : ByteArray => b.data.toList) h
        simpa using this
      have g1 : (e1.toList == [60, 62]) = false := by rw [← (by kernel_rfl : (ByteArray.mk #[60, 62]).toList = [60, 62]), Lib.bytes_beq_false_iff]; intro h; obtain ⟨rfl, rfl⟩ := hn _ _ h; simp at hb
      have g2 : (e1.toList == [60, 61]) = false := by rw [← (by kernel_rfl : (ByteArray.mk #[60, 61]).toList = [60, 61]), Lib.bytes_beq_false_iff]; intro h; obtain ⟨rfl, rfl⟩ := hn _ _ h; simp at hb
      have g3 : (e1.toList == [62, 61]) = false := by rw [← (by kernel_rfl : (ByteArray.mk #[62, 61]).toList = [62, 61]), Lib.bytes_beq_false_iff]; intro h; obtain ⟨rfl, rfl⟩ := hn _ _ h; simp at hb
      clear hn hb
      go_wp2_with fail
      refine bodyPost_ret (ret_tok rfl _ w.heap.size rfl _ _ _ _ _ (blkPut4 HT4.out rfl _ _ _ _)) rfl ⟨?_, ?_, frPut4 ((hfr3.out).alloc _) (.inr (by omega)) _ _ _ _⟩
      all_goals simp only [signM, HC.out, HD.out, HI.out, if_true, if_neg HB.out]
      · rfl
      · exact Rd.keep (p := p + 1) (HR3.out.alloc _) (frPut4 (Fr.refl [some w.heap.size] _) (.inl (by simp)) _ _ _ _) (by simp; omega)
  · have hneg : x < 0 := by omega
    have HI : Hid (LexM.signs.contains c = false) := by rw [Hid, hix]; simp [h0]
    have hTl := hT.lt
    obtain ⟨c0, c1, c2, c3, f0, f1, f2, f3⟩ := cells_of hT
    have HT := Lib.hid hT
    clear hT hix h0
    go_wp2_with fail
    refine bodyPost_ret (ret_tok rfl _ w.heap.size rfl _ _ _ _ _ (blkPut4 HT.out rfl _ _ _ _)) rfl ⟨?_, ?_, frPut4 hfr1.out (.inr (by omega)) _ _ _ _⟩
    all_goals simp only [signM, HC.out, HI.out, Bool.false_eq_true, if_false]
    · rfl
    · trivial
end Lx
end Go.Proofs.YtmdnhinpaflamaaGreatDoor
namespace Go.Proofs.YtmdnhinpaflamaaGreatDoor
open Go.RowKit

namespace Lx
open LexM (Tok)

/-- the text value at place p -/
def textM (p : Nat) (S : List UInt8) : (Nat × Int) ⊕ (Tok × Nat) :=
  match LexM.txt (p + 1) (S.drop (p + 1)) with
  | .inl q => .inl (q, 4)
  | .inr (l, q) => if 30 < l.length then .inl (p, 7) else .inr (⟨4, l, 0, p⟩, q)

/-- what stands behind acc -/
def ahead (acc : List UInt8) : Nat ⊕ (List UInt8 × Nat) → Nat ⊕ (List UInt8 × Nat)
  | .inl q => .inl q
  | .inr (l, q) => .inr (acc ++ l, q)
def Tx (S : List UInt8) (p q : Nat) (acc : List UInt8) : Prop := LexM.txt (p + 1) (S.drop (p + 1)) = ahead acc (LexM.txt q (S.drop q))
theorem Tx.zero (S : List UInt8) (p : Nat) : Tx S p (p + 1) [] := by
  unfold Tx
  rcases LexM.txt (p + 1) (S.drop (p + 1)) with x | ⟨l, q⟩ <;> rfl
theorem ahead_cons (acc : List UInt8) (c : UInt8) (x : Nat ⊕ (List UInt8 × Nat)) : ahead acc (match x with | .inl q => .inl q | .inr (l, q) => .inr (c :: l, q)) = ahead (acc ++ [c]) x := by
  rcases x with x | ⟨l, q⟩ <;> simp [ahead]
theorem txt_bad {S : List UInt8} {q : Nat} (h : (at0 S q).toNat < 32 ∨ 126 < (at0 S q).toNat) : LexM.txt q (S.drop q) = .inl q := by
  by_cases hl : q < S.length
  · rw [at0_lt hl] at h
    rw [List.drop_eq_getElem_cons hl]
    unfold LexM.txt
    rw [if_pos h]
  · rw [List.drop_eq_nil_of_le (by omega)]; rfl
theorem lt_of_good {S : List UInt8} {q : Nat} (h : ¬ ((at0 S q).toNat < 32 ∨ 126 < (at0 S q).toNat)) : q < S.length := by
  rcases Nat.lt_or_ge q S.length with h1 | h1
  · exact h1
  · rw [at0_ge h1] at h; simp at h
theorem txt_plain {S : List UInt8} {q : Nat} (h : ¬ ((at0 S q).toNat < 32 ∨ 126 < (at0 S q).toNat)) (h2 : at0 S q ≠ 39) :
    LexM.txt q (S.drop q) = (match LexM.txt (q + 1) (S.drop (q + 1)) with | .inl x => .inl x | .inr (l, x) => .inr (at0 S q :: l, x)) := by
  have hl := lt_of_good h
  have e := at0_lt hl
  rw [List.drop_eq_getElem_cons hl, ← e]
  conv => lhs; unfold LexM.txt
  rw [if_neg h, if_neg h2]
  rcases LexM.txt (q + 1) (S.drop (q + 1)) with x | ⟨l, x⟩ <;> rfl
theorem txt_twice {S : List UInt8} {q : Nat} (h1 : at0 S q = 39) (h2 : at0 S (q + 1) = 39) :
    q + 1 < S.length ∧ LexM.txt q (S.drop q) = (match LexM.txt (q + 2) (S.drop (q + 2)) with | .inl x => .inl x | .inr (l, x) => .inr (39 :: l, x)) := by
  have hl := lt_of_good (S := S) (q := q) (by rw [h1]; decide)
  have hl2 := lt_of_good (S := S) (q := q + 1) (by rw [h2]; decide)
  have e := at0_lt hl
  have e2 := at0_lt hl2
  refine ⟨hl2, ?_⟩
  rw [List.drop_eq_getElem_cons hl, List.drop_eq_getElem_cons hl2, ← e, ← e2, h1, h2]
  conv => lhs; unfold LexM.txt
  rfl
theorem txt_end {S : List UInt8} {q : Nat} (h1 : at0 S q = 39) (h2 : at0 S (q + 1) ≠ 39) : q < S.length ∧ LexM.txt q (S.drop q) = .inr ([], q + 1) := by
  have hl := lt_of_good (S := S) (q := q) (by rw [h1]; decide)
  have e := at0_lt hl
  refine ⟨hl, ?_⟩
  rw [List.drop_eq_getElem_cons hl, ← e, h1]
  by_cases hl2 : q + 1 < S.length
  · have e2 := at0_lt hl2
    rw [List.drop_eq_getElem_cons hl2, ← e2]
    conv => lhs; unfold LexM.txt
    rw [if_neg (by decide), if_pos rfl]
    simp only [if_neg h2]
  · rw [List.drop_eq_nil_of_le (by omega)]; rfl

def enc (c : UInt8) : Value := .int .u8 (c.toNat : Int)
theorem str_of_row (w : World) (v : Value) (l : List UInt8) (h : Row w 5 1 v l.length (l.map enc)) :
    (convert 35 9 v).run Tryz.prog w = .ok (.string ⟨l.toArray⟩) w := by
  rcases h.form with ⟨rfl, h0, _⟩ | ⟨g, off, cap, rfl, _, _⟩
  · obtain rfl := List.eq_nil_of_length_eq_zero h0
    exact run_convert_bytes_nil _ 35 5 Tryz.underlying35 Tryz.underlying5 0 0 9 Tryz.underlying9
  · refine run_convert_bytes_back w 35 9 5 ⟨g, off, none⟩ cap l Tryz.underlying35 Tryz.underlying5 Tryz.underlying9 (fun j hj => ?_)
    have := h.cells j (by simpa using hj)
    rw [Addr.add_lit, this, List.getD_eq_getElem?_getD, List.getElem?_map, List.getElem?_eq_getElem hj]
    rfl

theorem Tx.plain {S : List UInt8} {p q : Nat} {acc : List UInt8} (h : Tx S p q acc) (h1 : ¬ ((at0 S q).toNat < 32 ∨ 126 < (at0 S q).toNat)) (h2 : at0 S q ≠ 39) : Tx S p (q + 1) (acc ++ [at0 S q]) := by
  unfold Tx at *
  rw [h, txt_plain h1 h2, ahead_cons]
theorem Tx.twice {S : List UInt8} {p q : Nat} {acc : List UInt8} (h : Tx S p q acc) (h1 : at0 S q = 39) (h2 : at0 S (q + 1) = 39) : Tx S p (q + 2) (acc ++ [39]) := by
  unfold Tx at *
  rw [h, (txt_twice h1 h2).2, ahead_cons]
theorem Tx.stop {S : List UInt8} {p q : Nat} {acc : List UInt8} (h : Tx S p q acc) (h1 : at0 S q = 39) (h2 : at0 S (q + 1) ≠ 39) : textM p S = if 30 < acc.length then .inl (p, 7) else .inr (⟨4, acc, 0, p⟩, q + 1) := by
  unfold Tx at h
  rw [textM, h, (txt_end h1 h2).2]
  simp [ahead]

theorem info8 : (Tryz.prog.info? 5).map (fun i => (i.zero, i.size, i.bytes)) = some (some (enc 0), 1, 1) := by kernel_rfl

theorem Rd.setZ {w : World} {R : Nat} {S : List UInt8} {p : Nat} (h : Rd w R S p) (z : Int) : (w.setCell ⟨R, 1, none⟩ (.int .i64 z)).cell? ⟨R, 1, none⟩ = some (.int .i64 z) := (Blk.set h 1 (.int .i64 z)).cell 1
/-- the loop's measure -/
def meaQ (R : Nat) (S : List UInt8) (w : World) : Nat := S.length + 1 - (intOf ((w.cell? ⟨R, 1, none⟩).getD undef)).toNat
theorem meaQ_eq {R : Nat} {S : List UInt8} {w : World} {z : Int} (h : w.cell? ⟨R, 1, none⟩ = some (.int .i64 z)) : meaQ R S w = S.length + 1 - z.toNat := by
  unfold meaQ; rw [h]; rfl
theorem meaQ_lt {R : Nat} {S : List UInt8} {w w' : World} {z : Int} {q q2 : Nat} (h : w.cell? ⟨R, 1, none⟩ = some (.int .i64 (q : Int))) (h' : w'.cell? ⟨R, 1, none⟩ = some (.int .i64 z)) (hz : z = ((q2 : Nat) : Int)) (h1 : q < q2) (h2 : q2 ≤ S.length) : meaQ R S w' < meaQ R S w := by
  rw [meaQ_eq h, meaQ_eq h']; omega
theorem arith2 {p q n k : Nat} (h1 : p < q) (h2 : q + 1 < n) (h3 : k ≤ q) (h4 : n ≤ 1000000) : ((q : Int) + 1) + 1 = ((q + 2 : Nat) : Int) ∧ p < q + 2 ∧ q + 2 ≤ n ∧ k < q + 2 ∧ wrap64 (((q : Int) + 1) + 1) = ((q : Int) + 1) + 1 := by
  unfold wrap64; omega
/-- what the loop keeps -/
def TxI (w : World) (R : Nat) (S : List UInt8) (p : Nat) (a0 v : Value) (wr : World) : Prop :=
  ∃ (q : Nat) (acc : List UInt8), a0 = .int .i64 p ∧ p < q ∧ q ≤ S.length ∧ acc.length ≤ q ∧ Hid (Tx S p q acc) ∧ Rd wr R S q ∧ Blk wr w.heap.size 45 zcells ∧ Row wr 5 1 v acc.length (acc.map enc) ∧ (v.ownBlock = none ∨ ∃ k, w.heap.size < k ∧ v.ownBlock = some k) ∧ Fr [some R] w wr

/-- a byte more -/
theorem TxI.step {w : World} {R : Nat} {S : List UInt8} {p q0 q : Nat} {acc : List UInt8} {c : UInt8} {w1 w' : World} {v v' : Value} {o : Obj} (z : Int) (hz : z = (q : Int)) (hRl : R < w.heap.size) (hpq : p < q) (hq : q ≤ S.length) (hacc : acc.length < q) (hx : Tx S p q (acc ++ [c]))
    (hR : Rd w1 R S q0) (hT : Blk w1 w.heap.size 45 zcells) (hown : v.ownBlock = none ∨ ∃ k, w.heap.size < k ∧ v.ownBlock = some k) (hF : Fr [some R] w w1)
    (hr' : Row w' 5 1 v' (acc.length + 1) (acc.map enc ++ [enc c])) (hf' : Fr [v.ownBlock] (w1.alloc o) w') (hb' : v'.ownBlock = v.ownBlock ∨ ∃ k, w1.heap.size + 1 ≤ k ∧ v'.ownBlock = some k) :
    TxI w R S p (.int .i64 p) v' (w'.setCell ⟨R, 1, none⟩ (.int .i64 z)) := by
  subst hz
  have hdis : some R ∉ [v.ownBlock] := by
    rcases hown with h | ⟨k, hk, h⟩ <;> rw [h] <;> simp
    omega
  have hdis2 : some w.heap.size ∉ [v.ownBlock] := by
    rcases hown with h | ⟨k, hk, h⟩ <;> rw [h] <;> simp
    omega
  have hown' : v'.ownBlock = none ∨ ∃ k, w.heap.size < k ∧ v'.ownBlock = some k := by
    rcases hb' with h | ⟨k, hk, h⟩
    · rw [h]; exact hown
    · exact .inr ⟨k, by have := hT.lt; omega, h⟩
  have hRw : Rd w' R S q0 := Rd.keep (Blk.alloc hR _) hf' hdis
  have hTw : Blk w' w.heap.size 45 zcells := Blk.keep (Blk.alloc hT _) hf' hdis2
  have hFw : Fr [some R] w w' := (Fr.alloc hF _).trans' hf' (by
    intro i hi
    rcases hown with h | ⟨k, hk, h⟩ <;> rw [h] at hi <;> simp at hi
    exact .inr (by omega))
  have hs : Fr [some R] w' (w'.setCell ⟨R, 1, none⟩ (.int .i64 q)) := (Fr.refl [some R] w').setCell (p := ⟨R, 1, none⟩) (.inl (by simp)) _
  have hrow2 : Row w' 5 1 v' (acc ++ [c]).length ((acc ++ [c]).map enc) := by
    rw [List.length_append, List.map_append]
    exact hr'
  refine ⟨q, acc ++ [c], rfl, hpq, hq, by rw [List.length_append]; simp only [List.length_cons, List.length_nil]; omega, hx, hRw.set q, hTw.keep hs (by simp; omega), hrow2.keep hs (fun k hk => ?_), hown', hFw.trans hs⟩
  rcases hown' with h | ⟨k2, hk2, h⟩ <;> rw [h] at hk <;> simp at hk
  simp; omega
/-- the reader's place behind the append -/
theorem rd_behind {w : World} {R : Nat} {S : List UInt8} {q0 : Nat} {w1 w' : World} {v : Value} {o : Obj} (hRl : R < w.heap.size)
    (hR : Rd w1 R S q0) (hown : v.ownBlock = none ∨ ∃ k, w.heap.size < k ∧ v.ownBlock = some k) (hf' : Fr [v.ownBlock] (w1.alloc o) w') : Rd w' R S q0 := by
  have hdis : some R ∉ [v.ownBlock] := by
    rcases hown with h | ⟨k, hk, h⟩ <;> rw [h] <;> simp
    omega
  exact Rd.keep (Blk.alloc hR _) hf' hdis

set_option maxRecDepth 100000 in
set_option maxHeartbeats 2000000 in
theorem text_any (R : Nat) (S : List UInt8) (p : Nat) (w : World) (hr : Rd w R S p) (hS : S.length ≤ 1000000) (hp : p < S.length) :
    Calls Tryz.prog 97 #[.pointer (some ⟨R, 0, none⟩)] w fun e w' => e = .returned (tokR (textM p S)) ∧ After w' R S (textM p S) ∧ Fr [some R] w w' := by
  obtain ⟨i0, hi, hz0, hz1, hz2⟩ := info_parts info8
  have h1 := hr.c1
  have hz := hr.free 1
  have hlt := hr.lt
  have HR := Lib.hid hr
  have HS := Lib.hid hS
  have hw1 : wrap64 ((p : Int) + 1) = (p : Int) + 1 := by unfold wrap64; omega
  have hne : ¬ R = w.heap.size := by omega
  have hne' : ¬ w.heap.size = R := by omega
  clear hr hS
  go_enter Tryz.func97, Tryz.ntmps97
  go_wp2_with fail
  clear h1 hz hw1
  go_loopw [3, 5] (fun a0 v wr => TxI w R S p a0 v wr) (fun _ _ wr => meaQ R S wr)
  case atStart =>
    have hb := Blk.new (w.setCell ⟨R, 1, none⟩ (.int .i64 ((p : Int) + 1))) 45 zcells
    rw [show (w.setCell ⟨R, 1, none⟩ (.int .i64 ((p : Int) + 1))).heap.size = w.heap.size from by simp [World.setCell]] at hb
    exact ⟨p + 1, [], rfl, by omega, by omega, by simp, Tx.zero S p, Blk.alloc (Rd.set HR.out (p + 1)) _, hb, Row.nil _ _ _, .inl rfl, ((Fr.refl [some R] w).setCell (p := ⟨R, 1, none⟩) (.inl (by simp)) _).alloc _⟩
  case round =>
    obtain ⟨q, acc, rfl, hpq, hq, hacc, HX, hr, hT, hrow, hown, hfr⟩ := hrel
    have h1 := hr.c1
    have HRq := Lib.hid hr
    have HT := Lib.hid hT
    have HROW := Lib.hid hrow
    have HF := Lib.hid hfr
    clear hr hT hrow hfr
    go_wp2_with fail
    refine (next_any R S q wr HRq.out).mono ?_
    rintro e w1 ⟨rfl, hr1, hf1⟩
    obtain ⟨c, hc⟩ : ∃ c, at0 S q = c := ⟨_, rfl⟩
    rw [hc]
    have HT1 := Lib.hid (HT.out.keep hf1 (by simp))
    have HROW1 := Lib.hid (HROW.out.keep hf1 (by simp))
    have HF1 := Lib.hid (HF.out.trans' hf1 (by simp))
    have HR1 := Lib.hid hr1
    have HC := Lib.hid hc
    have h1' := hr1.c1
    have hfz := hr1.free 1
    have HMEA := Lib.hid h1
    have hTl := HT1.out.lt
    clear hc hr1 hf1 h1
    by_cases hbad : c.toNat < 32 ∨ 126 < c.toNat
    · have HB : Hid (textM p S = .inl (q, 4)) := by
        have h := HX.out
        unfold Tx at h
        rw [Hid, textM, h, txt_bad (by rw [HC.out]; exact hbad)]
        rfl
      obtain ⟨c0, c1, c2, c3, f0, f1, f2, f3⟩ := cells_of HT1.out
      have hb' : (c.toNat : Int) < 32 ∨ ((32 : Int) ≤ c.toNat ∧ (126 : Int) < c.toNat) := by omega
      clear hbad
      rcases hb' with hb1 | ⟨hb1, hb2⟩
      all_goals
        go_wp2_with fail
        go_region
        all_goals
          go_wp2_with fail
          refine bodyPost_ret (ret_tok rfl _ w.heap.size rfl _ _ _ _ _ (blkPut4 HT1.out rfl _ _ _ _).drew) rfl ⟨?_, ?_, (frPut4 HF1.out (.inr (by omega)) _ _ _ _).drew⟩
          all_goals rw [HB.out]
          · rfl
          · trivial
    · have hgood : ¬ ((at0 S q).toNat < 32 ∨ 126 < (at0 S q).toNat) := by rw [HC.out]; exact hbad
      have hltq := lt_of_good hgood
      have HG := Lib.hid hgood
      have hg1 : (32 : Int) ≤ c.toNat := by omega
      have hg2 : (c.toNat : Int) ≤ 126 := by omega
      clear hbad hgood
      by_cases h39 : c = 39
      · have H39 := Lib.hid h39
        have h39i : ((c.toNat : Int) == 39) = true := by rw [h39]; decide
        clear h39
        have hw1 : wrap64 ((q : Int) + 1) = (q : Int) + 1 := by have := HS.out; unfold wrap64; omega
        go_wp2_with fail
        refine (next_any R S (q + 1) _ (HR1.out.set (q + 1))).mono ?_
        rintro e w2 ⟨rfl, hr2, hf2⟩
        clear h39i
        have hfa : Fr [some R] w1 w2 := (((Fr.refl [some R] w1)).setCell (p := ⟨R, 1, none⟩) (.inl (by simp)) _).trans' hf2 (by simp)
        have hrowk : ∀ k, u5.ownBlock = some k → some k ∉ [some R] := by
          intro k hk
          rcases hown with h | ⟨k2, hk2, h⟩ <;> rw [h] at hk <;> simp at hk
          simp; omega
        have HROW2 := Lib.hid (HROW1.out.keep hfa hrowk)
        have HT2 := Lib.hid (HT1.out.keep hfa (by simp; omega))
        have HF2 := Lib.hid (HF1.out.trans hfa)
        have HR2 := Lib.hid hr2
        clear hr2 hf2 hfa hrowk
        obtain ⟨d, hd⟩ : ∃ d, at0 S (q + 1) = d := ⟨_, rfl⟩
        rw [hd]
        have HD := Lib.hid hd
        clear hd h1' hfz
        by_cases hd39 : d = 39
        · have htw := txt_twice (S := S) (HC.out.trans H39.out) (HD.out.trans hd39)
          have hlt2 := htw.1
          clear htw
          have HX2 : Hid (Tx S p (q + 2) (acc ++ [c])) := by
            have := HX.out.twice (HC.out.trans H39.out) (HD.out.trans hd39)
            rw [← H39.out] at this
            exact this
          have hlen : acc.length ≤ 1000000 := Nat.le_trans hacc (Nat.le_trans hq HS.out)
          have hmx : acc.length + 1 ≤ maxLen := Nat.le_trans (Nat.succ_le_succ hlen) (by unfold maxLen; decide)
          have hby : (acc.length + 1) * 1 ≤ 140737488355328 := by rw [Nat.mul_one]; exact Nat.le_trans (Nat.succ_le_succ hlen) (by decide)
          have hd39i : ((d.toNat : Int) == 39) = true := by rw [hd39]; decide
          clear hd39
          go_wp2_with (at_builtin; refine wpList_append_row rfl _ _ 35 rfl 5 i0 (enc 0) 1 1 Tryz.underlying35 hi hz0 hz1 hz2 rfl (by decide) u5 acc.length (acc.map enc) rfl (HROW2.out.keep ((Fr.refl [] _).alloc _) (by simp)) ⟨w2.heap.size, 0, none⟩ 1 1 [.int .u8 (c.toNat : Int)] rfl rfl ?c1 ?c2 hmx hby ?_)
          case c1 => exact cell_one_new _ _ _
          case c2 => simp [Value.oneCell']
          intro v' w' hr' hf' hb'
          clear hd39i
          have hRw : Rd w' R S (q + 1) := rd_behind hlt HR2.out hown hf'
          obtain ⟨e1, e2, e3, e4, hww⟩ := arith2 hpq hlt2 hacc HS.out
          have HSTEP := Lib.hid (TxI.step (c := c) (((q : Int) + 1) + 1) (q := q + 2) e1 hlt e2 e3 e4 HX2.out HR2.out HT2.out hown HF2.out hr' hf' hb')
          have HMEB := Lib.hid (meaQ_lt HMEA.out (hRw.setZ ((q : Int) + 1 + 1)) e1 (Nat.lt_add_of_pos_right (by decide)) e3)
          have hc1w : w'.cell? ⟨R, 1, none⟩ = some (.int .i64 ((q : Int) + 1)) := hRw.c1
          have hfzw := Blk.free hRw 1
          clear hown hr' hf' hb' hRw e1 e2 e3 e4
          go_wp2_with fail
          go_roundw
          case rel => exact HSTEP.out
          case measure => exact HMEB.out
        · have HE := Lib.hid (HX.out.stop (HC.out.trans H39.out) (by rw [HD.out]; exact hd39))
          have hdne : ((d.toNat : Int) == 39) = false := by
            rw [beq_eq_false_iff_ne]
            intro h
            exact hd39 (UInt8.toNat_inj.1 (by simpa using (by omega : d.toNat = 39)))
          obtain ⟨ba, bc, rfl⟩ : ∃ ba bc, u5 = Value.slice ba acc.length bc := by
            rcases HROW.out.form with ⟨rfl, h0, h0'⟩ | ⟨g, off, cap, rfl, _, _⟩
            · exact ⟨none, 0, by rw [h0]⟩
            · exact ⟨_, _, rfl⟩
          have hcv := str_of_row w2 _ acc HROW2.out
          obtain ⟨c0, c1, c2, c3, f0, f1, f2, f3⟩ := cells_of HT2.out
          have hT2l := HT2.out.lt
          clear hd39
          by_cases hl : 30 < acc.length
          · have hl' : (30 : Int) < (acc.length : Int) := by omega
            go_wp2_with fail
            refine bodyPost_ret (ret_tok rfl _ w.heap.size rfl _ _ _ _ _ (blkPut4 HT2.out rfl _ _ _ _)) rfl ⟨?_, ?_, frPut4 HF2.out (.inr (by omega)) _ _ _ _⟩
            all_goals rw [HE.out, if_pos hl]
            · rfl
            · trivial
          · have hl' : (acc.length : Int) ≤ 30 := by omega
            go_wp2_with fail
            refine bodyPost_ret (ret_tok rfl _ w.heap.size rfl _ _ _ _ _ (blkPut4 HT2.out rfl _ _ _ _)) rfl ⟨?_, ?_, frPut4 HF2.out (.inr (by omega)) _ _ _ _⟩
            all_goals rw [HE.out, if_neg hl]
            · rfl
            · exact Rd.keep HR2.out (frPut4 (Fr.refl [some w.heap.size] _) (.inl (by simp)) _ _ _ _) (by simp; omega)
      · have HX2 := Lib.hid (HX.out.plain HG.out (by rw [HC.out]; exact h39))
        rw [HC.out] at HX2
        have hne39 : ((c.toNat : Int) == 39) = false := by
          rw [beq_eq_false_iff_ne]
          intro h
          exact h39 (UInt8.toNat_inj.1 (by simpa using (by omega : c.toNat = 39)))
        clear h39 h1' hfz
        have hlen : acc.length ≤ 1000000 := Nat.le_trans hacc (Nat.le_trans hq HS.out)
        have hmx : acc.length + 1 ≤ maxLen := Nat.le_trans (Nat.succ_le_succ hlen) (by unfold maxLen; decide)
        have hby : (acc.length + 1) * 1 ≤ 140737488355328 := by rw [Nat.mul_one]; exact Nat.le_trans (Nat.succ_le_succ hlen) (by decide)
        go_wp2_with (at_builtin; refine wpList_append_row rfl _ _ 35 rfl 5 i0 (enc 0) 1 1 Tryz.underlying35 hi hz0 hz1 hz2 rfl (by decide) u5 acc.length (acc.map enc) rfl (HROW1.out.keep ((Fr.refl [] _).alloc _) (by simp)) ⟨w1.heap.size, 0, none⟩ 1 1 [.int .u8 (c.toNat : Int)] rfl rfl ?c1 ?c2 hmx hby ?_)
        case c1 => exact cell_one_new _ _ _
        case c2 => simp [Value.oneCell']
        intro v' w' hr' hf' hb'
        clear hne39
        have hRw : Rd w' R S (q) := rd_behind hlt HR1.out hown hf'
        have e1 : (q : Int) + 1 = ((q + 1 : Nat) : Int) := by omega
        have e2 : p < q + 1 := by omega
        have e3 : q + 1 ≤ S.length := by omega
        have e4 : acc.length < q + 1 := by omega
        have HSTEP := Lib.hid (TxI.step (c := c) ((q : Int) + 1) (q := q + 1) e1 hlt e2 e3 e4 HX2.out HR1.out HT1.out hown HF1.out hr' hf' hb')
        have HMEB := Lib.hid (meaQ_lt HMEA.out (hRw.setZ ((q : Int) + 1)) e1 (Nat.lt_add_of_pos_right (by decide)) e3)
        have hc1w : w'.cell? ⟨R, 1, none⟩ = some (.int .i64 ((q : Int))) := hRw.c1
        have hfzw := Blk.free hRw 1
        have hww : wrap64 (((q : Int)) + 1) = ((q : Int)) + 1 := by have := HS.out; unfold wrap64; omega
        clear hown hr' hf' hb' hRw e1 e2 e3 e4
        go_wp2_with fail
        go_roundw
        case rel => exact HSTEP.out
        case measure => exact HMEB.out
end Lx
end Go.Proofs.YtmdnhinpaflamaaGreatDoor
namespace Go.Proofs.YtmdnhinpaflamaaGreatDoor
open Go.RowKit

namespace Lx
open LexM (Tok)
open Parse (parseV parseE)

theorem at0_drop (S : List UInt8) (p n : Nat) : ((S.drop p).drop n).headD 0 = at0 S (p + n) := by
  unfold at0; rw [List.drop_drop]

theorem tok_name {S : List UInt8} {p : Nat} (hp : p < S.length) (h : LexM.letter (at0 S p) = true) : LexM.tok1 p (S.drop p) = nameM p S := by
  rw [at0_lt hp] at h
  unfold nameM
  rw [List.drop_eq_getElem_cons hp]
  simp only [LexM.tok1, h, if_true]
theorem dig_eq : LexM.dig = Parse.dig := rfl
theorem all_takeWhile (f : UInt8 → Bool) (l : List UInt8) : (l.takeWhile f).all f = true := by
  induction l with
  | nil => rfl
  | cons c r ih =>
    rw [List.takeWhile_cons]
    split
    · rename_i h; simp only [List.all_cons, h, ih, Bool.and_self]
    · rfl
theorem tok_num {S : List UInt8} {p : Nat} (hp : p < S.length) (h : LexM.letter (at0 S p) = false) (h2 : LexM.dig (at0 S p) = true) : LexM.tok1 p (S.drop p) = numM p S := by
  have hb : Parse.bad ((S.drop p).takeWhile LexM.dig) = false := by
    have h3 := all_takeWhile LexM.dig (S.drop p)
    have h4 : 0 < ((S.drop p).takeWhile LexM.dig).length := by
      rw [List.drop_eq_getElem_cons hp]
      rw [at0_lt hp] at h2
      exact LexM.takeWhile_pos h2
    have h5 : ((S.drop p).takeWhile LexM.dig).isEmpty = false := by
      cases hc : (S.drop p).takeWhile LexM.dig with
      | nil => rw [hc] at h4; simp at h4
      | cons => rfl
    unfold Parse.bad
    rw [h5, ← dig_eq, h3]
    rfl
  have e1 : LexM.tok1 p (S.drop p) = (let t := (S.drop p).takeWhile LexM.dig
      if ((S.drop p).drop t.length).headD 0 |> LexM.letter then .inl (p + t.length, 4)
      else if 9223372036854775807 < LexM.val t then .inl (p, 8)
      else .inr (⟨3, [], LexM.val t, p⟩, p + t.length)) := by
    rw [at0_lt hp] at h h2
    rw [List.drop_eq_getElem_cons hp]
    simp only [LexM.tok1, h, h2, if_true, Bool.false_eq_true, if_false]
  rw [e1]
  unfold numM
  obtain ⟨t, ht⟩ : ∃ t, (S.drop p).takeWhile LexM.dig = t := ⟨_, rfl⟩
  simp only [ht, at0_drop]
  rw [ht] at hb
  split
  · rfl
  · have hv : LexM.val t = Parse.val t := rfl
    have hE : parseE t = err (Parse.val t) := by simp [parseE, hb]
    have hV : parseV t = res (Parse.val t) := by simp [parseV, hb]
    rw [hE, hV, hv]
    by_cases hl : 9223372036854775807 < Parse.val t
    · have ho : ok64 (Parse.val t : Int) = false := no_iff.2 (by omega)
      rw [err_no ho, if_pos hl, if_neg (by decide)]
    · have ho : ok64 (Parse.val t : Int) = true := ok_iff.2 (by omega)
      rw [err_ok ho, res_ok ho, if_neg hl, if_pos rfl]
theorem tok_text {S : List UInt8} {p : Nat} (hp : p < S.length) (h : at0 S p = 39) : LexM.tok1 p (S.drop p) = textM p S := by
  rw [at0_lt hp] at h
  unfold textM
  rw [List.drop_eq_getElem_cons hp, h]
  rfl
theorem tok_sign {S : List UInt8} {p : Nat} (hp : p < S.length) (h1 : LexM.letter (at0 S p) = false) (h2 : LexM.dig (at0 S p) = false) (h : at0 S p ≠ 39) : LexM.tok1 p (S.drop p) = signM p S := by
  unfold signM
  rw [at0_lt hp] at h h1 h2 ⊢
  rw [List.drop_eq_getElem_cons hp]
  have : (S.drop (p + 1)).headD 0 = at0 S (p + 1) := rfl
  simp only [LexM.tok1, h, h1, h2, Bool.false_eq_true, if_false, this]

theorem tok_err {S : List UInt8} {p q : Nat} {e : Int} (hp : p < S.length) (h : LexM.tok1 p (S.drop p) = .inl (q, e)) : e ≠ 0 := by
  rw [List.drop_eq_getElem_cons hp] at h
  simp only [LexM.tok1] at h
  repeat' split at h
  all_goals first
    | (simp only [reduceCtorEq] at h; done)
    | (simp only [Sum.inl.injEq, Prod.mk.injEq] at h; obtain ⟨_, rfl⟩ := h; decide)

set_option maxRecDepth 100000 in
set_option maxHeartbeats 1000000 in
theorem token_any (R : Nat) (S : List UInt8) (p : Nat) (w : World) (m : Int) (hm : w.cell? ⟨1, 0, none⟩ = some (.int .i64 m)) (h00 : 1 < w.heap.size) (hR : R ≠ 1) (hr : Rd w R S p) (hS : S.length ≤ 1000000) (hp : p < S.length) :
    Calls Tryz.prog 49 #[.pointer (some ⟨R, 0, none⟩)] w fun e w' => e = .returned (tokR (LexM.tok1 p (S.drop p))) ∧ After w' R S (LexM.tok1 p (S.drop p)) ∧ Fr [some R] w w' := by
  obtain ⟨X, hX⟩ : ∃ X, LexM.tok1 p (S.drop p) = X := ⟨_, rfl⟩
  rw [hX]
  have HX := Lib.hid hX
  have HR := Lib.hid hr
  have HS := Lib.hid hS
  have HM := Lib.hid hm
  have hlt := hr.lt
  clear hr hS hm hX
  go_enter Tryz.func49, Tryz.ntmps49
  go_wp2_with fail
  refine (next_any R S p _ (HR.out.alloc _)).mono ?_
  rintro e w1 ⟨rfl, hr1, hf1⟩
  obtain ⟨c, hc⟩ : ∃ c, at0 S p = c := ⟨_, rfl⟩
  rw [hc]
  have HC := Lib.hid hc
  have HT : Hid (Blk w1 w.heap.size 45 zcells) := (Blk.new w 45 zcells).keep hf1 (by simp)
  have HF : Hid (Fr [some R] w w1) := (((Fr.refl [] w).alloc _).trans' hf1 (by simp)).mono (S' := [some R]) (by simp)
  have HM1 : Hid (w1.cell? ⟨1, 0, none⟩ = some (.int .i64 m)) := (hf1.cell (by simp <;> omega) (by simp)).trans ((((Fr.refl [] w).alloc _).cell h00 (by simp)).trans HM.out)
  have h01 : 1 < w1.heap.size := Nat.lt_of_lt_of_le h00 HF.out.size
  have HR1 := Lib.hid hr1
  clear hc hf1 hr1
  go_wp2_with fail
  refine (letter_any c w1).mono ?_
  rintro e w2 ⟨rfl, rfl⟩
  cases hl : LexM.letter c
  · have HL := Lib.hid hl
    clear hl
    go_wp2_with fail
    refine (digit_any c w2).mono ?_
    rintro e w3 ⟨rfl, rfl⟩
    cases hd : LexM.dig c
    · have HD := Lib.hid hd
      clear hd
      by_cases h39 : c = 39
      · have hcl := text_any R S p w3 HR1.out HS.out hp
        rw [← tok_text hp (HC.out.trans h39), HX.out] at hcl
        have HCL := Lib.hid hcl
        have h39i : ((c.toNat : Int) == 39) = true := by rw [h39]; decide
        clear hcl h39
        go_wp2_with fail
        clear h39i
        refine HCL.out.mono ?_
        rintro e w3 ⟨rfl, ha, hf⟩
        have HA := Lib.hid ha
        have HT3 := Lib.hid (HT.out.keep hf (by simp; omega))
        have HF3 := Lib.hid (HF.out.trans hf)
        have hTl := HT3.out.lt
        obtain ⟨c0, c1, c2, c3, f0, f1, f2, f3⟩ := cells_of HT3.out
        clear ha hf
        rcases X with ⟨q, x⟩ | ⟨t, q⟩
        · simp only [tokR, tokA]
          go_wp2_with fail
          refine bodyPost_ret (ret_tok rfl _ w.heap.size rfl _ _ _ _ _ (blkPut4 HT3.out rfl _ _ _ _)) rfl ⟨rfl, trivial, frPut4 HF3.out (.inr (by omega)) _ _ _ _⟩
        · simp only [tokR, tokV, tokA]
          go_wp2_with fail
          refine bodyPost_ret (ret_tok rfl _ w.heap.size rfl _ _ _ _ _ (blkPut4 HT3.out rfl _ _ _ _)) rfl ⟨rfl, ?_, frPut4 HF3.out (.inr (by omega)) _ _ _ _⟩
          exact Rd.keep (p := q) HA.out (frPut4 (Fr.refl [some w.heap.size] _) (.inl (by simp)) _ _ _ _) (by simp; omega)
      · have hcl := sign_any R S p w3 HR1.out HS.out (Nat.le_of_lt hp)
        rw [← tok_sign hp (by rw [HC.out]; exact HL.out) (by rw [HC.out]; exact HD.out) (by rw [HC.out]; exact h39), HX.out] at hcl
        have HCL := Lib.hid hcl
        have h39i : ((c.toNat : Int) == 39) = false := by
          rw [beq_eq_false_iff_ne]
          intro h
          exact h39 (UInt8.toNat_inj.1 (by simpa using (by omega : c.toNat = 39)))
        clear hcl h39
        go_wp2_with fail
        clear h39i
        refine HCL.out.mono ?_
        rintro e w3 ⟨rfl, ha, hf⟩
        have HA := Lib.hid ha
        have HT3 := Lib.hid (HT.out.keep hf (by simp; omega))
        have HF3 := Lib.hid (HF.out.trans hf)
        have hTl := HT3.out.lt
        obtain ⟨c0, c1, c2, c3, f0, f1, f2, f3⟩ := cells_of HT3.out
        clear ha hf
        rcases X with ⟨q, x⟩ | ⟨t, q⟩
        · simp only [tokR, tokA]
          go_wp2_with fail
          refine bodyPost_ret (ret_tok rfl _ w.heap.size rfl _ _ _ _ _ (blkPut4 HT3.out rfl _ _ _ _)) rfl ⟨rfl, trivial, frPut4 HF3.out (.inr (by omega)) _ _ _ _⟩
        · simp only [tokR, tokV, tokA]
          go_wp2_with fail
          refine bodyPost_ret (ret_tok rfl _ w.heap.size rfl _ _ _ _ _ (blkPut4 HT3.out rfl _ _ _ _)) rfl ⟨rfl, ?_, frPut4 HF3.out (.inr (by omega)) _ _ _ _⟩
          exact Rd.keep (p := q) HA.out (frPut4 (Fr.refl [some w.heap.size] _) (.inl (by simp)) _ _ _ _) (by simp; omega)
    · have hcl := number_any R S p w3 HR1.out HS.out (Nat.le_of_lt hp)
      rw [← tok_num hp (by rw [HC.out]; exact HL.out) (by rw [HC.out]; exact hd), HX.out] at hcl
      have HCL := Lib.hid hcl
      clear hcl hd
      go_wp2_with fail
      refine HCL.out.mono ?_
      rintro e w3 ⟨rfl, ha, hf⟩
      have HA := Lib.hid ha
      have HT3 := Lib.hid (HT.out.keep hf (by simp; omega))
      have HF3 := Lib.hid (HF.out.trans hf)
      have hTl := HT3.out.lt
      obtain ⟨c0, c1, c2, c3, f0, f1, f2, f3⟩ := cells_of HT3.out
      clear ha hf
      rcases X with ⟨q, x⟩ | ⟨t, q⟩
      · simp only [tokR, tokA]
        go_wp2_with fail
        refine bodyPost_ret (ret_tok rfl _ w.heap.size rfl _ _ _ _ _ (blkPut4 HT3.out rfl _ _ _ _)) rfl ⟨rfl, trivial, frPut4 HF3.out (.inr (by omega)) _ _ _ _⟩
      · simp only [tokR, tokV, tokA]
        go_wp2_with fail
        refine bodyPost_ret (ret_tok rfl _ w.heap.size rfl _ _ _ _ _ (blkPut4 HT3.out rfl _ _ _ _)) rfl ⟨rfl, ?_, frPut4 HF3.out (.inr (by omega)) _ _ _ _⟩
        exact Rd.keep (p := q) HA.out (frPut4 (Fr.refl [some w.heap.size] _) (.inl (by simp)) _ _ _ _) (by simp; omega)
  · have hcl := name_any R S p w2 m HM1.out h01 hR HR1.out HS.out (Nat.le_of_lt hp)
    rw [← tok_name hp (by rw [HC.out]; exact hl), HX.out] at hcl
    have HCL := Lib.hid hcl
    clear hcl hl
    go_wp2_with fail
    refine HCL.out.mono ?_
    rintro e w3 ⟨rfl, ha, hf⟩
    have HA := Lib.hid ha
    have HT3 := Lib.hid (HT.out.keep hf (by simp; omega))
    have HF3 := Lib.hid (HF.out.trans hf)
    have hTl := HT3.out.lt
    obtain ⟨c0, c1, c2, c3, f0, f1, f2, f3⟩ := cells_of HT3.out
    clear ha hf
    rcases X with ⟨q, x⟩ | ⟨t, q⟩
    · simp only [tokR, tokA]
      go_wp2_with fail
      refine bodyPost_ret (ret_tok rfl _ w.heap.size rfl _ _ _ _ _ (blkPut4 HT3.out rfl _ _ _ _)) rfl ⟨rfl, trivial, frPut4 HF3.out (.inr (by omega)) _ _ _ _⟩
    · simp only [tokR, tokV, tokA]
      go_wp2_with fail
      refine bodyPost_ret (ret_tok rfl _ w.heap.size rfl _ _ _ _ _ (blkPut4 HT3.out rfl _ _ _ _)) rfl ⟨rfl, ?_, frPut4 HF3.out (.inr (by omega)) _ _ _ _⟩
      exact Rd.keep (p := q) HA.out (frPut4 (Fr.refl [some w.heap.size] _) (.inl (by simp)) _ _ _ _) (by simp; omega)
end Lx
end Go.Proofs.YtmdnhinpaflamaaGreatDoor
namespace Go.Proofs.YtmdnhinpaflamaaGreatDoor
open Go.RowKit

namespace Lx
open LexM (Tok)

/-- the words from place p on -/
def LS (S : List UInt8) (p : Nat) : (Nat × Int) ⊕ List Tok := LexM.lexN S (S.length + 1) p

theorem lexN_fuel (S : List UInt8) : ∀ (n m p : Nat), p ≤ S.length → S.length < p + n → S.length < p + m → LexM.lexN S n p = LexM.lexN S m p
  | 0, m, p, h, h1, h2 => by omega
  | n + 1, 0, p, h, h1, h2 => by omega
  | n + 1, m + 1, p, h, h1, h2 => by
    unfold LexM.lexN
    by_cases hp : p < S.length
    · rw [List.drop_eq_getElem_cons hp]
      simp only []
      split
      · exact lexN_fuel S n m (p + 1) (by omega) (by omega) (by omega)
      · cases ht : LexM.tok1 p (S[p] :: S.drop (p + 1)) with
        | inl e => rfl
        | inr x =>
          obtain ⟨t, q⟩ := x
          obtain ⟨h3, h4, _⟩ := LexM.tok1_next ht
          rw [← List.drop_eq_getElem_cons hp, List.length_drop] at h4
          simp only []
          rw [lexN_fuel S n m q (by omega) (by omega) (by omega)]
    · rw [List.drop_eq_nil_of_le (by omega)]

theorem LS_end (S : List UInt8) : LS S S.length = .inr [⟨6, [], 0, S.length⟩] := by
  unfold LS LexM.lexN
  rw [List.drop_eq_nil_of_le (Nat.le_refl _)]
theorem LS_blank {S : List UInt8} {p : Nat} (hp : p < S.length) (h : at0 S p = 32) : LS S p = LS S (p + 1) := by
  rw [at0_lt hp] at h
  unfold LS
  rw [LexM.lexN, List.drop_eq_getElem_cons hp]
  simp only [h, if_true]
  exact lexN_fuel S _ _ _ (by omega) (by omega) (by omega)
theorem LS_tok {S : List UInt8} {p : Nat} (hp : p < S.length) (h : at0 S p ≠ 32) :
    LS S p = (match LexM.tok1 p (S.drop p) with | .inl e => .inl e | .inr (t, q) => match LS S q with | .inl e => .inl e | .inr l => .inr (t :: l)) := by
  rw [at0_lt hp] at h
  conv => lhs; rw [LS, LexM.lexN, List.drop_eq_getElem_cons hp]
  rw [List.drop_eq_getElem_cons hp]
  simp only [if_neg h]
  cases ht : LexM.tok1 p (S[p] :: S.drop (p + 1)) with
  | inl e => rfl
  | inr x =>
    obtain ⟨t, q⟩ := x
    obtain ⟨h3, h4, _⟩ := LexM.tok1_next ht
    rw [← List.drop_eq_getElem_cons hp, List.length_drop] at h4
    simp only []
    rw [lexN_fuel S S.length (S.length + 1) q (by omega) (by omega) (by omega)]
    rfl
theorem tok_range {S : List UInt8} {p q : Nat} {t : Tok} (hp : p < S.length) (h : LexM.tok1 p (S.drop p) = .inr (t, q)) : p < q ∧ q ≤ S.length ∧ t.pos = p := by
  obtain ⟨h3, h4, h5⟩ := LexM.tok1_next h
  rw [List.length_drop] at h4
  exact ⟨h3, by omega, h5⟩

theorem LS_blanks (S : List UInt8) : ∀ (n p : Nat), p ≤ S.length → S.length - p = n → LS S p = LS S (p + ((S.drop p).takeWhile blank).length) ∧ p + ((S.drop p).takeWhile blank).length ≤ S.length ∧
    (p + ((S.drop p).takeWhile blank).length < S.length → at0 S (p + ((S.drop p).takeWhile blank).length) ≠ 32)
  | 0, p, hp, hn => by
    rw [List.drop_eq_nil_of_le (by omega)]
    simp only [List.takeWhile_nil, List.length_nil, Nat.add_zero]
    exact ⟨trivial, hp, fun h => absurd h (by omega)⟩
  | n + 1, p, hp, hn => by
    have hlt : p < S.length := by omega
    rw [List.drop_eq_getElem_cons hlt, List.takeWhile_cons]
    by_cases hb : S[p] = 32
    · rw [if_pos (by simp [blank, hb]), List.length_cons, ← Nat.add_assoc, Nat.add_right_comm]
      obtain ⟨h1, h2, h3⟩ := LS_blanks S n (p + 1) (by omega) (by omega)
      rw [LS_blank hlt (by rw [at0_lt hlt]; exact hb)]
      exact ⟨h1, h2, h3⟩
    · rw [if_neg (by simp [blank, hb]), List.length_nil, Nat.add_zero]
      exact ⟨rfl, hp, fun _ => by rw [at0_lt hlt]; exact hb⟩

/-- what stands ahead of some words -/
def pre (acc : List Tok) : (Nat × Int) ⊕ List Tok → (Nat × Int) ⊕ List Tok
  | .inl e => .inl e
  | .inr l => .inr (acc ++ l)
theorem pre_nil (x : (Nat × Int) ⊕ List Tok) : x = pre [] x := by cases x <;> rfl
theorem pre_tok {S : List UInt8} {p q : Nat} {t : Tok} (acc : List Tok) (hp : p < S.length) (h : at0 S p ≠ 32) (ht : LexM.tok1 p (S.drop p) = .inr (t, q)) : pre acc (LS S p) = pre (acc ++ [t]) (LS S q) := by
  rw [LS_tok hp h, ht]
  simp only []
  cases LS S q with
  | inl e => rfl
  | inr l => simp [pre]
theorem pre_bad {S : List UInt8} {p : Nat} {e : Nat × Int} (acc : List Tok) (hp : p < S.length) (h : at0 S p ≠ 32) (ht : LexM.tok1 p (S.drop p) = .inl e) : pre acc (LS S p) = .inl e := by
  rw [LS_tok hp h, ht]
  rfl
theorem pre_end (S : List UInt8) (acc : List Tok) : pre acc (LS S S.length) = .inr (acc ++ [⟨6, [], 0, S.length⟩]) := by
  rw [LS_end]; rfl
end Lx
end Go.Proofs.YtmdnhinpaflamaaGreatDoor
namespace Go.Proofs.YtmdnhinpaflamaaGreatDoor
open Go.RowKit

namespace Lx
open LexM (Tok)

/-- a word's cells -/
def tokC (t : Tok) : List Value := [.int .i64 t.kind, .string ⟨t.text.toArray⟩, .int .i64 t.int, .int .i64 t.pos]
def toksC (l : List Tok) : List Value := l.flatMap tokC
theorem toksC_length (l : List Tok) : (toksC l).length = l.length * 4 := by
  induction l with
  | nil => rfl
  | cons t r ih => simp only [toksC, List.flatMap_cons, List.length_append, List.length_cons] at *; rw [ih]; simp [tokC]; omega
theorem toksC_snoc (l : List Tok) (t : Tok) : toksC (l ++ [t]) = toksC l ++ tokC t := by simp [toksC]

theorem infoT : (Tryz.prog.info? 45).map (fun i => (i.zero, i.size, i.bytes)) = some (some (tokA 0 [] 0 0), 4, 40) := by kernel_rfl

/-- what the loop keeps -/
def LxI (w : World) (S : List UInt8) (v : Value) (wr : World) : Prop :=
  ∃ (p : Nat) (acc : List Tok), p ≤ S.length ∧ acc.length ≤ p ∧ Hid (LS S 0 = pre acc (LS S p)) ∧ Rd wr w.heap.size S p ∧ Row wr 45 4 v acc.length (toksC acc) ∧ (v.ownBlock = none ∨ ∃ k, w.heap.size < k ∧ v.ownBlock = some k) ∧ Fr [] w wr

/-- what Lex returns -/
def LxR (w w' : World) (e : Ending) : (Nat × Int) ⊕ List Tok → Prop
  | .inl (q, x) => e = .returned (.tuple #[.slice none 0 0, .int .i64 q, .int .i64 x]) ∧ Fr [] w w'
  | .inr l => ∃ v, e = .returned (.tuple #[v, .int .i64 0, .int .i64 0]) ∧ Row w' 45 4 v l.length (toksC l) ∧ (v.ownBlock = none ∨ ∃ k, w.heap.size < k ∧ v.ownBlock = some k) ∧ Fr [] w w'

theorem four_new (w : World) (E : TypeId) (l : List Value) (j : Nat) (u : Value) (h : l[j]? = some u) : (w.alloc (.cells l.toArray E)).cell? ((⟨w.heap.size, 0, none⟩ : Addr).add j) = some u := by
  rw [Addr.add_lit, Nat.zero_add]
  exact ((Blk.new w E l).cell j).trans h
theorem four_new2 (w : World) (o : Obj) (E : TypeId) (l : List Value) (j : Nat) (u : Value) (h : l[j]? = some u) : ((w.alloc o).alloc (.cells l.toArray E)).cell? ((⟨w.heap.size + 1, 0, none⟩ : Addr).add j) = some u := by
  have := four_new (w.alloc o) E l j u h
  rwa [show (w.alloc o).heap.size = w.heap.size + 1 by simp] at this
theorem one_tok (t : Tok) : ∀ u ∈ tokC t, u.oneCell' = true := by simp [tokC, Value.oneCell']
theorem lim {n : Nat} (h : n ≤ 1000000) : n + 1 ≤ maxLen ∧ (n + 1) * 40 ≤ 140737488355328 := by unfold maxLen; omega
theorem own_not {v : Value} {n : Nat} (h : v.ownBlock = none ∨ ∃ k, n < k ∧ v.ownBlock = some k) : ∀ k, v.ownBlock = some k → some k ∉ [some n] := by
  intro k hk
  rcases h with h | ⟨k2, hk2, h⟩ <;> rw [h] at hk <;> simp at hk
  simp; omega
theorem own_not' {v : Value} {n : Nat} (h : v.ownBlock = none ∨ ∃ k, n < k ∧ v.ownBlock = some k) : some n ∉ [v.ownBlock] := by
  rcases h with h | ⟨k, hk, h⟩ <;> rw [h] <;> simp
  omega
theorem own_behind {v v' : Value} {n z : Nat} (h : v.ownBlock = none ∨ ∃ k, n < k ∧ v.ownBlock = some k) (hb : v'.ownBlock = v.ownBlock ∨ ∃ k, z ≤ k ∧ v'.ownBlock = some k) (hz : n < z) : v'.ownBlock = none ∨ ∃ k, n < k ∧ v'.ownBlock = some k := by
  rcases hb with h1 | ⟨k, hk, h1⟩
  · rw [h1]; exact h
  · exact .inr ⟨k, by omega, h1⟩
theorem own_fr {v : Value} {w w1 w' : World} (hF : Fr [] w w1) (hf : Fr [v.ownBlock] w1 w') (h : v.ownBlock = none ∨ ∃ k, w.heap.size < k ∧ v.ownBlock = some k) : Fr [] w w' :=
  hF.trans' hf (by
    intro i hi
    rcases h with h | ⟨k, hk, h⟩ <;> rw [h] at hi <;> simp at hi
    exact .inr (by omega))

theorem LxI.step {w wa w' : World} {S : List UInt8} {q r z : Nat} {acc : List Tok} {t : Tok} {v v' : Value} (hX : LS S 0 = pre acc (LS S q)) (hlt : q < S.length) (hne : at0 S q ≠ 32) (ht : LexM.tok1 q (S.drop q) = .inr (t, r)) (hacc : acc.length ≤ q)
    (hR : Rd wa w.heap.size S r) (hown : v.ownBlock = none ∨ ∃ k, w.heap.size < k ∧ v.ownBlock = some k) (hF : Fr [] w wa) (hz : w.heap.size < z)
    (hr' : Row w' 45 4 v' (acc.length + 1) (toksC acc ++ tokC t)) (hf' : Fr [v.ownBlock] wa w') (hb' : v'.ownBlock = v.ownBlock ∨ ∃ k, z ≤ k ∧ v'.ownBlock = some k) : LxI w S v' w' ∧ meaQ w.heap.size S w' = S.length + 1 - r := by
  obtain ⟨h1, h2, _⟩ := tok_range hlt ht
  have hR' : Rd w' w.heap.size S r := hR.keep hf' (own_not' hown)
  refine ⟨⟨r, acc ++ [t], h2, by rw [List.length_append]; simp only [List.length_cons, List.length_nil]; omega, by rw [Hid, hX]; exact pre_tok acc hlt hne ht, hR', ?_, own_behind hown hb' hz, own_fr hF hf' hown⟩, ?_⟩
  · rw [List.length_append, toksC_snoc]; exact hr'
  · rw [meaQ_eq hR'.c1]; simp

set_option maxRecDepth 100000 in
set_option maxHeartbeats 2000000 in
theorem lex_any (S : List UInt8) (w : World) (m : Int) (hm : w.cell? ⟨1, 0, none⟩ = some (.int .i64 m)) (h00 : 1 < w.heap.size) (hS : S.length ≤ 1000000) :
    Calls Tryz.prog 18 #[.string ⟨S.toArray⟩] w fun e w' => LxR w w' e (LexM.lex S) := by
  have HM := Lib.hid hm
  have HS := Lib.hid hS
  clear hm hS
  by_cases h400 : 400 < S.length
  · have h4' : (400 : Int) < (S.length : Int) := by omega
    have HL : Hid (LexM.lex S = .inl (0, 7)) := if_pos h400
    clear h400
    go_enter Tryz.func18, Tryz.ntmps18
    go_wp2_with fail
    go_ret3
    rw [HL.out]
    exact ⟨rfl, Fr.refl _ _⟩
  have h4' : (S.length : Int) ≤ 400 := by omega
  have HL : Hid (LexM.lex S = LS S 0) := if_neg h400
  obtain ⟨i0, hi, hz0, hz1, hz2⟩ := info_parts infoT
  clear h400
  go_enter Tryz.func18, Tryz.ntmps18
  go_wp2_with fail
  go_loopw [2] (fun v wr => LxI w S v wr) (fun _ wr => meaQ w.heap.size S wr)
  case atStart =>
    exact ⟨0, [], Nat.zero_le _, Nat.le_refl _, pre_nil _, Blk.new w 92 [.string ⟨S.toArray⟩, .int .i64 0], Row.nil _ _ _, .inl rfl, (Fr.refl [] w).alloc _⟩
  case round =>
    obtain ⟨p, acc, hp, hacc, HX, hr, hrow, hown, hfr⟩ := hrel
    have HR := Lib.hid hr
    have HROW := Lib.hid hrow
    have HF := Lib.hid hfr
    have HOWN := Lib.hid hown
    have HMEA := Lib.hid (meaQ_eq (S := S) hr.c1)
    clear hr hrow hfr hown
    go_wp2_with fail
    refine (while_any 48 blank (fun v w => by kernel_rfl) blank_any w.heap.size S p wr HR.out HS.out hp).mono ?_
    rintro e w1 ⟨rfl, hr1, hf1⟩
    obtain ⟨b1, b2, b3⟩ := LS_blanks S _ p hp rfl
    obtain ⟨q, hq⟩ : ∃ q, p + ((S.drop p).takeWhile blank).length = q := ⟨_, rfl⟩
    have hpq : p ≤ q := by omega
    rw [hq] at hr1 b1 b2 b3
    rw [b1] at HX
    have h1 := hr1.c1
    have HR1 := Lib.hid hr1
    have HB3 := Lib.hid b3
    have HROW1 := Lib.hid (HROW.out.keep hf1 (own_not HOWN.out))
    have HF1 : Hid (Fr [] w w1) := HF.out.trans' hf1 (by simp)
    have HF1s := Lib.hid HF1.out.size
    have HR1l := Lib.hid hr1.lt
    have hlim := lim (Nat.le_trans hacc (Nat.le_trans hp HS.out))
    obtain ⟨hmx, hby⟩ := hlim
    clear hr1 hf1 b1 b3 hq
    by_cases hend : q = S.length
    · subst hend
      have heq : ((S.length : Int) == (S.length : Int)) = true := by simp
      go_wp2_with (at_builtin; refine wpList_append_row rfl _ _ 41 rfl 45 i0 (tokA 0 [] 0 0) 4 40 Tryz.underlying41 hi hz0 hz1 hz2 rfl (by decide) u2 acc.length (toksC acc) rfl (HROW1.out.keep ((Fr.refl [] _).alloc _) (by simp)) ⟨w1.heap.size, 0, none⟩ 1 1 (tokC ⟨6, [], 0, S.length⟩) rfl rfl ?c1 (one_tok _) hmx hby ?_)
      case c1 => exact four_new _ _ _
      intro v' w' hr' hf' hb'
      clear heq
      have HR' := Lib.hid hr'
      have HF' := Lib.hid (own_fr (HF1.out.alloc _) hf' HOWN.out)
      have HB' := Lib.hid (own_behind HOWN.out hb' (Nat.lt_succ_of_lt HR1l.out))
      clear hr' hf' hb'
      go_wp2_with fail
      go_ret3
      rw [HL.out, HX.out, pre_end]
      refine ⟨v', rfl, ?_, HB'.out, HF'.out⟩
      rw [List.length_append, toksC_snoc]
      exact HR'.out
    · have hlt : q < S.length := by omega
      have hne : ((q : Int) == (S.length : Int)) = false := by simp; omega
      clear hend
      have HM1 : Hid (w1.cell? ⟨1, 0, none⟩ = some (.int .i64 m)) := (HF1.out.cell h00 (by simp)).trans HM.out
      have HTK := Lib.hid (token_any w.heap.size S q w1 m HM1.out (Nat.lt_of_lt_of_le h00 HF1s.out) (Nat.ne_of_gt h00) HR1.out HS.out hlt)
      go_wp2_with fail
      refine HTK.out.mono ?_
      rintro e w2 ⟨rfl, ha, hf2⟩
      have HA := Lib.hid ha
      have HROW2 := Lib.hid (HROW1.out.keep hf2 (own_not HOWN.out))
      have HF2 : Hid (Fr [] w w2) := HF1.out.trans' hf2 (by simp)
      clear ha hf2 hne
      rcases hX : LexM.tok1 q (S.drop q) with ⟨r, x⟩ | ⟨t, r⟩
      · rw [hX] at HA
        have hx0 : (x != 0) = true := by simpa using tok_err hlt hX
        have HT := Lib.hid hX
        clear hX
        simp only [tokR, tokA]
        go_wp2_with fail
        go_ret3
        rw [HL.out, HX.out, pre_bad acc hlt (HB3.out hlt) HT.out]
        exact ⟨rfl, HF2.out.alloc _⟩
      · rw [hX] at HA
        have HT := Lib.hid hX
        clear hX
        simp only [tokR, tokV, tokA]
        go_wp2_with (at_builtin; refine wpList_append_row rfl _ _ 41 rfl 45 i0 (tokA 0 [] 0 0) 4 40 Tryz.underlying41 hi hz0 hz1 hz2 rfl (by decide) u2 acc.length (toksC acc) rfl ?c0 ⟨w2.heap.size + 1, 0, none⟩ 1 1 (tokC t) rfl rfl ?c1 (one_tok _) hmx hby ?_)
        case c0 => exact (HROW2.out.keep ((Fr.refl [] _).alloc _) (by simp)).keep ((Fr.refl [] _).alloc _) (by simp)
        case c1 => exact four_new2 _ _ _ _
        intro v' w' hr' hf' hb'
        have hA : Rd w2 w.heap.size S r := HA.out
        have hsz : w.heap.size < w2.heap.size := hA.lt
        obtain ⟨st1, st2⟩ := LxI.step HX.out hlt (HB3.out hlt) HT.out (Nat.le_trans hacc hpq) (Blk.alloc (Blk.alloc hA _) _) HOWN.out ((HF2.out.alloc _).alloc _) (Nat.lt_succ_of_lt (Nat.lt_succ_of_lt hsz)) hr' hf' hb'
        have htr := tok_range hlt HT.out
        have HST := Lib.hid st1
        have HME : Hid (meaQ w.heap.size S w' < meaQ w.heap.size S wr) := by
          rw [Hid, st2, HMEA.out]
          omega
        clear hr' hf' hb' hA hsz st1 st2 htr
        go_wp2_with fail
        go_roundw
        case rel => exact HST.out
        case measure => exact HME.out
end Lx
end Go.Proofs.YtmdnhinpaflamaaGreatDoor
namespace Go.Proofs.YtmdnhinpaflamaaGreatDoor
open Go.RowKit

namespace Lx
open LexM (Tok)

/-- words that are there: where they lie -/
theorem toks_at {w : World} {v : Value} {l : List Tok} (h : Row w 45 4 v l.length (toksC l)) (hne : l ≠ []) :
    ∃ g off cap, v = .slice (some ⟨g, off, none⟩) l.length cap ∧ l.length ≤ cap ∧ ∀ j u, (toksC l)[j]? = some u → w.cell? ⟨g, off + j, none⟩ = some u := by
  rcases h.form with ⟨_, h0, _⟩ | ⟨g, off, cap, rfl, hc, _⟩
  · exact absurd (List.eq_nil_of_length_eq_zero h0) hne
  · refine ⟨g, off, cap, rfl, hc, fun j u hj => ?_⟩
    rw [h.cells j (List.getElem?_eq_some_iff.1 hj).1, List.getD_eq_getElem?_getD, hj]
    rfl

theorem lex_a : LexM.lex [97, 60, 61, 49] = .inr [⟨1, [97], 0, 0⟩, ⟨5, [60, 61], 0, 1⟩, ⟨3, [], 1, 3⟩, ⟨6, [], 0, 4⟩] := by rfl
theorem lex_b : LexM.lex [49, 97] = .inl (1, 4) := by rfl

end Lx
end Go.Proofs.YtmdnhinpaflamaaGreatDoor
namespace Go.Proofs.YtmdnhinpaflamaaGreatDoor
open Go.RowKit

namespace Lx
open LexM (Tok)

theorem LS_err (S : List UInt8) : ∀ (n p q : Nat) (x : Int), p ≤ S.length → S.length - p = n → LS S p = .inl (q, x) → x ≠ 0 := by
  intro n
  induction n using Nat.strongRecOn with
  | ind n ih =>
    intro p q x hp hn h
    by_cases hlt : p < S.length
    · by_cases hb : at0 S p = 32
      · rw [LS_blank hlt hb] at h
        exact ih (S.length - (p + 1)) (by omega) (p + 1) q x (by omega) rfl h
      · rw [LS_tok hlt hb] at h
        cases ht : LexM.tok1 p (S.drop p) with
        | inl e =>
          rw [ht] at h
          obtain ⟨q', x'⟩ := e
          simp only [Sum.inl.injEq, Prod.mk.injEq] at h
          obtain ⟨rfl, rfl⟩ := h
          exact tok_err hlt ht
        | inr y =>
          obtain ⟨t, r⟩ := y
          obtain ⟨h1, h2, _⟩ := tok_range hlt ht
          rw [ht] at h
          simp only [] at h
          cases hr : LS S r with
          | inl e =>
            rw [hr] at h
            simp only [Sum.inl.injEq] at h
            subst h
            exact ih (S.length - r) (by omega) r q x h2 rfl hr
          | inr l => rw [hr] at h; simp only [reduceCtorEq] at h
    · obtain rfl : p = S.length := by omega
      rw [LS_end] at h
      simp only [reduceCtorEq] at h
theorem LS_ne (S : List UInt8) : ∀ (n p : Nat) (l : List Tok), p ≤ S.length → S.length - p = n → LS S p = .inr l → l ≠ [] ∧ l.length ≤ S.length + 1 - p := by
  intro n
  induction n using Nat.strongRecOn with
  | ind n ih =>
    intro p l hp hn h
    by_cases hlt : p < S.length
    · by_cases hb : at0 S p = 32
      · rw [LS_blank hlt hb] at h
        obtain ⟨i1, i2⟩ := ih (S.length - (p + 1)) (by omega) (p + 1) l (by omega) rfl h
        exact ⟨i1, by omega⟩
      · rw [LS_tok hlt hb] at h
        cases ht : LexM.tok1 p (S.drop p) with
        | inl e => rw [ht] at h; simp only [reduceCtorEq] at h
        | inr y =>
          obtain ⟨t, r⟩ := y
          obtain ⟨h1, h2, _⟩ := tok_range hlt ht
          rw [ht] at h
          simp only [] at h
          cases hr : LS S r with
          | inl e => rw [hr] at h; simp only [reduceCtorEq] at h
          | inr l' =>
            rw [hr] at h
            simp only [Sum.inr.injEq] at h
            obtain ⟨i1, i2⟩ := ih (S.length - r) (by omega) r l' h2 rfl hr
            subst h
            exact ⟨by simp, by rw [List.length_cons]; omega⟩
    · obtain rfl : p = S.length := by omega
      rw [LS_end] at h
      simp only [Sum.inr.injEq] at h
      subst h
      exact ⟨by simp, by rw [List.length_singleton]; omega⟩
theorem lex_err {S : List UInt8} {q : Nat} {x : Int} (h : LexM.lex S = .inl (q, x)) : x ≠ 0 := by
  unfold LexM.lex at h
  split at h
  · simp only [Sum.inl.injEq, Prod.mk.injEq] at h
    obtain ⟨_, rfl⟩ := h
    decide
  · exact LS_err S _ 0 q x (Nat.zero_le _) rfl h
theorem lex_ne {S : List UInt8} {l : List Tok} (h : LexM.lex S = .inr l) : l ≠ [] ∧ l.length ≤ 401 := by
  unfold LexM.lex at h
  split at h
  · simp only [reduceCtorEq] at h
  · obtain ⟨h1, h2⟩ := LS_ne S _ 0 l (Nat.zero_le _) rfl h
    exact ⟨h1, by omega⟩

/-- Lex, where it is told what it comes to: no words -/
theorem lex_bad {S : List UInt8} {q : Nat} {x : Int} {w w' : World} {e : Ending} (h : LexM.lex S = .inl (q, x)) (hr : LxR w w' e (LexM.lex S)) : e = .returned (.tuple #[.slice none 0 0, .int .i64 q, .int .i64 x]) ∧ Fr [] w w' := by
  rw [h] at hr
  exact hr
/-- the words, and where they lie -/
theorem lex_good {S : List UInt8} {l : List Tok} {w w' : World} {e : Ending} (h : LexM.lex S = .inr l) (hr : LxR w w' e (LexM.lex S)) : ∃ g off cap, e = .returned (.tuple #[.slice (some ⟨g, off, none⟩) l.length cap, .int .i64 0, .int .i64 0]) ∧ l.length ≤ cap ∧ w.heap.size < g ∧ g < w'.heap.size ∧
    Row w' 45 4 (.slice (some ⟨g, off, none⟩) l.length cap) l.length (toksC l) ∧ (∀ j u, (toksC l)[j]? = some u → w'.cell? ⟨g, off + j, none⟩ = some u) ∧ Fr [] w w' := by
  have hne := (lex_ne h).1
  rw [h] at hr
  obtain ⟨v, rfl, hrow, hown, hf⟩ := hr
  obtain ⟨g, off, cap, rfl, hc, hcell⟩ := toks_at hrow hne
  refine ⟨g, off, cap, rfl, hc, ?_, hrow.block_lt rfl, hrow, hcell, hf⟩
  rcases hown with h1 | ⟨k, hk, h1⟩ <;> simp [Value.ownBlock] at h1
  omega
theorem byte_eq {a c : UInt8} (h : c = a) : ((c.toNat : Int) == (a.toNat : Int)) = true := by rw [h]; exact beq_self_eq_true _
theorem byte_ne {a c : UInt8} (h : ¬ c = a) : ((c.toNat : Int) == (a.toNat : Int)) = false := by
  rw [beq_eq_false_iff_ne]
  intro e
  exact h (UInt8.toNat_inj.1 (by exact_mod_cast e))

theorem size_of_cell {w : World} {v : Value} (h : w.cell? ⟨1, 0, none⟩ = some v) : 1 < w.heap.size := World.block_lt_of_cell? w _ h
end Lx
end Go.Proofs.YtmdnhinpaflamaaGreatDoor
