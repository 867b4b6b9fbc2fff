/- lex: a sign. -/
import Derived.Test.YtpmgecnkcllneaaDoorLexC
import Derived.Lib.IndexAny
import Derived.Lib.SlicesS
namespace Go.Proofs.YtpmgecnkcllneaaDoor
open Go.RowKit

namespace Lx
open LexM (Tok)

/-- the sign at place p -/
def signM (p : Nat) (S : List UInt8) : (Nat × Int) ⊕ (Tok × Nat) :=
  let c := at0 S p
  if LexM.signs.contains c then
    let d := at0 S (p + 1)
    if (c = 60 ∧ (d = 62 ∨ d = 61)) ∨ (c = 62 ∧ d = 61) then .inr (⟨5, [c, d], 0, p⟩, p + 2)
    else .inr (⟨5, [c], 0, p⟩, p + 1)
  else .inl (p, 4)

set_option maxRecDepth 100000 in
set_option maxHeartbeats 1000000 in
theorem sign_any (R : Nat) (S : List UInt8) (p : Nat) (w : World) (hr : Rd w R S p) (hS : S.length ≤ 1000000) (hp : p ≤ S.length) :
    Calls Tryd.prog 49 #[.pointer (some ⟨R, 0, none⟩)] w fun e w' => e = .returned (tokR (signM p S)) ∧ After w' R S (signM p S) ∧ Fr [some R] w w' := by
  have h1 := hr.c1
  have hlt := hr.lt
  have HR := Lib.hid hr
  have HS := Lib.hid hS
  clear hr hS
  go_enter Tryd.func49, Tryd.ntmps49
  go_wp2_with fail
  refine (next_any R S p _ (HR.out.alloc _)).mono ?_
  rintro e w1 ⟨rfl, hr1, hf1⟩
  obtain ⟨c, hc⟩ : ∃ c, at0 S p = c := ⟨_, rfl⟩
  rw [hc]
  have HC := Lib.hid hc
  clear hc
  have hT : Blk w1 w.heap.size 67 zcells := (Blk.new w 67 zcells).keep hf1 (by simp)
  have hfr1 := Lib.hid ((((Fr.refl [] w).alloc _).trans' hf1 (by simp)).mono (S' := [some R]) (by simp))
  have HR1 := Lib.hid hr1
  clear hf1 hr1 h1
  go_wp2_with fail
  refine (Tryd.strings_IndexByte _ (c.toNat : Int) w1).mono ?_
  rintro e w2 ⟨rfl, rfl⟩
  have hix : LexM.signs.contains c = decide (0 ≤ Lib.indexByte LexM.signs c) := Lib.contains_iff_indexByte _ _
  rw [show Lib.indexByte (ByteArray.mk #[40, 41, 44, 46, 61, 60, 62, 43, 45, 42]).data.toList (Int.toNat (c.toNat : Int)).toUInt8 = Lib.indexByte LexM.signs c from by
    show Lib.indexByte LexM.signs (Int.toNat (c.toNat : Int)).toUInt8 = _
    congr 1
    simp]
  obtain ⟨x, hx⟩ : ∃ x, Lib.indexByte LexM.signs c = x := ⟨_, rfl⟩
  rw [hx] at hix ⊢
  clear hx
  by_cases h0 : 0 ≤ x
  · have HI : Hid (LexM.signs.contains c = true) := by rw [Hid, hix]; simp [h0]
    clear hix
    have h1 := HR1.out.c1
    have hz1 := HR1.out.free 1
    have hcv := str_of_one (P := Tryd.prog) Tryd.underlying36 Tryd.underlying9 Tryd.underlying5 w2 (c.toNat : Int) 1
    have hw : wrap64 ((p : Int) + 1) = ((p + 1 : Nat) : Int) := by have := HS.out; unfold wrap64; omega
    have hz1' : (w2.alloc (.cells #[.int .u8 (c.toNat : Int)] 5)).frozen? ⟨R, 1, none⟩ = false := (HR1.out.alloc _).free 1
    have h1' : (w2.alloc (.cells #[.int .u8 (c.toNat : Int)] 5)).cell? ⟨R, 1, none⟩ = some (.int .i64 p) := Rd.c1 (p := p) (HR1.out.alloc _)
    have HT := Lib.hid hT
    clear hT
    go_wp2_with fail
    refine (next_any R S (p + 1) _ (Rd.set (p := p) (HR1.out.alloc _) (p + 1))).mono ?_
    rintro e w3 ⟨rfl, hr3, hf3⟩
    obtain ⟨d, hd⟩ : ∃ d, at0 S (p + 1) = d := ⟨_, rfl⟩
    rw [hd]
    have HD := Lib.hid hd
    clear hd
    have hfa : Fr [some R] w2 w3 := ((((Fr.refl [] w2).alloc _).mono (S' := [some R]) (by simp)).setCell (p := ⟨R, 1, none⟩) (.inl (by simp)) _).trans' hf3 (by simp)
    have hlt2 := HT.out.lt
    have HT3 := Lib.hid (HT.out.keep hfa (by simp; omega))
    have hfr3 := Lib.hid (hfr1.out.trans hfa)
    have HR3 := Lib.hid hr3
    clear hcv h1 hz1 hz1' h1' hf3 hfa hr3
    have hcv := str_of_one (P := Tryd.prog) Tryd.underlying36 Tryd.underlying9 Tryd.underlying5 w3 (d.toNat : Int) 1
    have h1' : (w3.alloc (.cells #[.int .u8 (d.toNat : Int)] 5)).cell? ⟨R, 1, none⟩ = some (.int .i64 ((p : Int) + 1)) := Rd.c1 (p := p + 1) (HR3.out.alloc _)
    have hz1' : (w3.alloc (.cells #[.int .u8 (d.toNat : Int)] 5)).frozen? ⟨R, 1, none⟩ = false := (HR3.out.alloc _).free 1
    have hw2 : wrap64 ((p : Int) + 1 + 1) = (p : Int) + 1 + 1 := by have := HS.out; unfold wrap64; omega
    have hT4 := HT3.out.alloc (.cells #[.int .u8 (d.toNat : Int)] 5)
    obtain ⟨c0, c1, c2, c3, f0, f1, f2, f3⟩ := cells_of hT4
    have HT4 := Lib.hid hT4
    have hTl := hT4.lt
    clear hT4
    have hne : ¬ R = w.heap.size := by omega
    have hne' : ¬ w.heap.size = R := by omega
    by_cases hb : (c = 60 ∧ (d = 62 ∨ d = 61)) ∨ (c = 62 ∧ d = 61)
    · have HB := Lib.hid hb
      obtain ⟨e1, he, hv⟩ : ∃ e1 : ByteArray, (⟨#[c]⟩ ++ ⟨#[d]⟩ : ByteArray) = e1 ∧ (e1 = ⟨#[60, 62]⟩ ∨ e1 = ⟨#[60, 61]⟩ ∨ e1 = ⟨#[62, 61]⟩) := by
        rcases hb with ⟨rfl, rfl | rfl⟩ | ⟨rfl, rfl⟩
        · exact ⟨_, rfl, .inl rfl⟩
        · exact ⟨_, rfl, .inr (.inl rfl)⟩
        · exact ⟨_, rfl, .inr (.inr rfl)⟩
      clear hb
      have HE : Hid (e1 = ⟨[c, d].toArray⟩) := he.symm.trans rfl
      rcases hv with rfl | rfl | rfl
      all_goals
        go_wp2_with fail

        refine bodyPost_ret (ret_tok rfl _ w.heap.size rfl _ _ _ _ _ (blkPut4 ((HT4.out.keep ((Fr.refl [some R] _).setCell (p := ⟨R, 1, none⟩) (.inl (by simp)) _) (by simp; omega))) rfl _ _ _ _)) rfl ⟨?_, ?_, frPut4 (((hfr3.out).alloc _).setCell (p := ⟨R, 1, none⟩) (.inl (by simp)) _) (.inr (by omega)) _ _ _ _⟩
        all_goals simp only [signM, HC.out, HD.out, HI.out, if_true, if_pos HB.out]
        · simp only [tokR, tokV, tokA]; rw [← HE.out]; rfl
        · exact Rd.keep (p := p + 2) (Rd.set (p := p + 1) (HR3.out.alloc _) (p + 2)) (frPut4 (Fr.refl [some w.heap.size] _) (.inl (by simp)) _ _ _ _) (by simp; omega)
    · have HB := Lib.hid hb
      obtain ⟨e1, he⟩ : ∃ e1 : ByteArray, (⟨#[c]⟩ ++ ⟨#[d]⟩ : ByteArray) = e1 := ⟨_, rfl⟩
      have hn : ∀ x y : UInt8, e1 = ⟨#[x, y]⟩ → c = x ∧ d = y := by
        rintro x y h
        rw [← he] at h
        have : [c, d] = [x, y] := congrArg (fun b : ByteArray => b.data.toList) h
        simpa using this
      have g1 : (e1.toList == [60, 62]) = false := by rw [← (by kernel_rfl : (ByteArray.mk #[60, 62]).toList = [60, 62]), Lib.bytes_beq_false_iff]; intro h; obtain ⟨rfl, rfl⟩ := hn _ _ h; simp at hb
      have g2 : (e1.toList == [60, 61]) = false := by rw [← (by kernel_rfl : (ByteArray.mk #[60, 61]).toList = [60, 61]), Lib.bytes_beq_false_iff]; intro h; obtain ⟨rfl, rfl⟩ := hn _ _ h; simp at hb
      have g3 : (e1.toList == [62, 61]) = false := by rw [← (by kernel_rfl : (ByteArray.mk #[62, 61]).toList = [62, 61]), Lib.bytes_beq_false_iff]; intro h; obtain ⟨rfl, rfl⟩ := hn _ _ h; simp at hb
      clear hn hb
      go_wp2_with fail
      refine bodyPost_ret (ret_tok rfl _ w.heap.size rfl _ _ _ _ _ (blkPut4 HT4.out rfl _ _ _ _)) rfl ⟨?_, ?_, frPut4 ((hfr3.out).alloc _) (.inr (by omega)) _ _ _ _⟩
      all_goals simp only [signM, HC.out, HD.out, HI.out, if_true, if_neg HB.out]
      · rfl
      · exact Rd.keep (p := p + 1) (HR3.out.alloc _) (frPut4 (Fr.refl [some w.heap.size] _) (.inl (by simp)) _ _ _ _) (by simp; omega)
  · have hneg : x < 0 := by omega
    have HI : Hid (LexM.signs.contains c = false) := by rw [Hid, hix]; simp [h0]
    have hTl := hT.lt
    obtain ⟨c0, c1, c2, c3, f0, f1, f2, f3⟩ := cells_of hT
    have HT := Lib.hid hT
    clear hT hix h0
    go_wp2_with fail
    refine bodyPost_ret (ret_tok rfl _ w.heap.size rfl _ _ _ _ _ (blkPut4 HT.out rfl _ _ _ _)) rfl ⟨?_, ?_, frPut4 hfr1.out (.inr (by omega)) _ _ _ _⟩
    all_goals simp only [signM, HC.out, HI.out, Bool.false_eq_true, if_false]
    · rfl
    · trivial
end Lx
end Go.Proofs.YtpmgecnkcllneaaDoor
