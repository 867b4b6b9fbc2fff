/- lex: the document's number, and its text value. -/
import Derived.Test.YtfpkcddnikgabaaDoorLexO
namespace Go.Proofs.YtfpkcddnikgabaaDoor
open Go.RowKit

namespace Lx
open LexM (Tok)
open Parse (parseV parseE)

set_option maxRecDepth 100000 in
set_option maxHeartbeats 4000000 in
theorem one_num (S : List UInt8) (p : Nat) (w : World) (hS : S.length ≤ 1000000) (hp : p < S.length) (hl : LexM.letter (at0 S p) = false) (hd : LexM.dig (at0 S p) = true) :
    Calls Tryd.prog 18 #[.string ⟨S.toArray⟩, .int .i64 p] w fun e w' => DocR e (numM p S) ∧ Fr [] w w' := by
  have HS := Lib.hid hS
  obtain ⟨c, hc⟩ : ∃ c, S[p] = c := ⟨_, rfl⟩
  have hix : (ByteArray.mk S.toArray)[p]'(show p < S.toArray.size by simpa using hp) = c := by rw [← hc]; rfl
  rw [at0_lt hp, hc] at hl hd
  have HLC := Lib.hid hl
  have HDC := Lib.hid hd
  have hpi : (p : Int) < (S.length : Int) := by omega
  clear hS hc hl hd
  go_enter Tryd.func18, Tryd.ntmps18
  go_wp2_with fail
  refine (rletter_any c _).mono ?_
  rintro e w1 ⟨rfl, rfl⟩
  rw [HLC.out]
  have HB0 : Hid (Blk ((w.alloc (.cells zcells.toArray 30)).alloc (.cells #[.int .i64 0, .string ⟨#[]⟩, .int .i64 0, .int .i64 p] 30)) w.heap.size 30 zcells) := Blk.alloc (Blk.new w 30 zcells) _
  have HT0 : Hid (TokB ((w.alloc (.cells zcells.toArray 30)).alloc (.cells #[.int .i64 0, .string ⟨#[]⟩, .int .i64 0, .int .i64 p] 30)) (w.heap.size + 1) 0 [] 0 p) := by
    have h2 := Blk.new (w.alloc (.cells zcells.toArray 30)) 30 [.int .i64 0, .string ⟨#[]⟩, .int .i64 0, .int .i64 p]
    rw [show (w.alloc (.cells zcells.toArray 30)).heap.size = w.heap.size + 1 by simp] at h2
    exact h2
  have HF0 : Hid (Fr [] w ((w.alloc (.cells zcells.toArray 30)).alloc (.cells #[.int .i64 0, .string ⟨#[]⟩, .int .i64 0, .int .i64 p] 30))) := ((Fr.refl [] w).alloc _).alloc _
  obtain ⟨wa, hwa⟩ : ∃ wa, (w.alloc (.cells zcells.toArray 30)).alloc (.cells #[.int .i64 0, .string ⟨#[]⟩, .int .i64 0, .int .i64 p] 30) = wa := ⟨_, rfl⟩
  rw [hwa] at HB0 HT0 HF0
  go_wp2_with fail
  refine (rdigit_any c _).mono ?_
  rintro e w1 ⟨rfl, rfl⟩
  rw [HDC.out]
  go_wp2_with fail
  rw [show ((w.alloc (.cells #[.int .i64 0, .string ⟨#[]⟩, .int .i64 0, .int .i64 0] 30)).alloc (.cells #[.int .i64 0, .string ⟨#[]⟩, .int .i64 0, .int .i64 p] 30)) = wa from hwa]
  clear hwa hix
  go_loop [8] (fun u8 => ∃ q : Nat, u8 = .int .i64 q ∧ p ≤ q ∧ q ≤ S.length ∧ Hid (StopAt LexM.dig S p q)) (fun i => S.length - (intOf i).toNat)
  case atStart => exact ⟨p, rfl, Nat.le_refl _, Nat.le_of_lt hp, StopAt.zero _ S p⟩
  case round =>
    obtain ⟨q, rfl, hpq, hq, HST⟩ := hrel
    by_cases hlt : q < S.length
    · obtain ⟨-, -, a3, a4, a5⟩ := arithO hlt HS.out
      obtain ⟨d, hd⟩ : ∃ d, S[q] = d := ⟨_, rfl⟩
      have hix : (ByteArray.mk S.toArray)[q]'(show q < S.toArray.size by simpa using hlt) = d := by rw [← hd]; rfl
      have HD := Lib.hid hd
      clear hd
      go_wp2_with fail
      refine (rdigit_any d _).mono ?_
      rintro e w2 ⟨rfl, rfl⟩
      cases hdd : LexM.dig d
      · have HDN : Hid _ := HST.out.done hpq hq (fun h => by rw [at0_lt h, HD.out]; exact hdd)
        clear hdd
        go_wp2_with fail
        refine (rletter_any d _).mono ?_
        rintro e w3 ⟨rfl, rfl⟩
        have hdl : LexM.letter (at0 S q) = LexM.letter d := by rw [at0_lt hlt, HD.out]
        cases hll : LexM.letter d
        · rw [hll] at hdl
          obtain ⟨t, ht⟩ : ∃ t, (S.drop p).takeWhile LexM.dig = t := ⟨_, rfl⟩
          obtain ⟨e1, e2⟩ := HDN.out
          rw [ht] at e1 e2
          have hext := ext_pq e1.symm
          have HN : Hid (numM p S = if parseE t = 0 then .inr (⟨3, [], parseV t, p⟩, q) else .inl (p, parseE t)) := by
            rw [Hid, numM, ht, ← e2, hdl]
            rfl
          have hqi : (q : Int) ≤ (S.length : Int) := by omega
          have hpqi : (p : Int) ≤ (q : Int) := by omega
          have hbd : (S.length : Int) ≤ 1000000 := by have := HS.out; omega
          have htl : t.length ≤ 1000000 := by have := HS.out; omega
          obtain ⟨t0, t1, t2, t3, g0, g1, g2, g3⟩ := tok_at HT0.out
          obtain ⟨z0, z1, z2, z3, y0, y1, y2, y3⟩ := cells_of HB0.out
          clear ht e1 e2 HDN hdl
          go_wp2_with fail
          refine (Parse.rparse_any t _ htl).mono ?_
          rintro e w4 ⟨rfl, rfl⟩
          obtain ⟨v, hv⟩ : ∃ v, parseV t = v := ⟨_, rfl⟩
          obtain ⟨x, hx⟩ : ∃ x, parseE t = x := ⟨_, rfl⟩
          rw [hv, hx] at HN ⊢
          clear hv hx hext
          go_wp2_with fail
          refine bodyPost_ret (ret_tok4 rfl _ w.heap.size rfl _ _ _ _ _ (blkPut4 (blkPast (blkPast HB0.out (T := w.heap.size + 1) (by omega) _) (T := w.heap.size + 1) (by omega) _) rfl _ _ _ _)) rfl ⟨?_, frPut4 (frPast (frPast HF0.out (T := w.heap.size + 1) (by omega) _) (T := w.heap.size + 1) (by omega) _) (.inr (Nat.le_refl _)) _ _ _ _⟩
          rw [HN.out]
          by_cases hx0 : x = 0
          · rw [if_pos hx0, hx0]
            exact ⟨_, rfl⟩
          · rw [if_neg hx0]
            exact ⟨_, [], _, _, _, rfl⟩
        · rw [hll] at hdl
          have HN : Hid (numM p S = .inl (q, 4)) := by
            obtain ⟨e1, e2⟩ := HDN.out
            rw [Hid, numM, ← e2, if_pos hdl]
          obtain ⟨z0, z1, z2, z3, y0, y1, y2, y3⟩ := cells_of HB0.out
          obtain ⟨t0, t1, t2, t3, g0, g1, g2, g3⟩ := tok_at HT0.out
          clear hdl hll HDN
          go_wp2_with fail
          refine bodyPost_ret (ret_tok4 rfl _ w.heap.size rfl _ _ _ _ _ (blkPut4 HB0.out rfl _ _ _ _)) rfl ⟨?_, frPut4 HF0.out (.inr (Nat.le_refl _)) _ _ _ _⟩
          rw [HN.out]
          exact ⟨_, _, _, _, _, rfl⟩
      · have HN : Hid _ := HST.out.next hpq hlt (by rw [HD.out]; exact hdd)
        clear hdd
        go_wp2_with fail
        go_round
        case rel => exact ⟨q + 1, by go_num, by omega, by omega, HN.out⟩
        case measure => simp [intOf]; omega
    · have HDN : Hid _ := HST.out.done hpq hq (fun h => absurd h hlt)
      have hdl : LexM.letter (at0 S q) = false := by rw [at0_ge (by omega)]; decide
      have hle : (S.length : Int) ≤ (q : Int) := by omega
      have hdf : decide ((q : Int) < (S.length : Int)) = false := decide_eq_false (by omega)
      clear hlt
      obtain ⟨t, ht⟩ : ∃ t, (S.drop p).takeWhile LexM.dig = t := ⟨_, rfl⟩
      obtain ⟨e1, e2⟩ := HDN.out
      rw [ht] at e1 e2
      have hext := ext_pq e1.symm
      have HN : Hid (numM p S = if parseE t = 0 then .inr (⟨3, [], parseV t, p⟩, q) else .inl (p, parseE t)) := by
        rw [Hid, numM, ht, ← e2, hdl]
        rfl
      have hqi : (q : Int) ≤ (S.length : Int) := by omega
      have hpqi : (p : Int) ≤ (q : Int) := by omega
      have hbd : (S.length : Int) ≤ 1000000 := by have := HS.out; omega
      have htl : t.length ≤ 1000000 := by have := HS.out; omega
      obtain ⟨t0, t1, t2, t3, g0, g1, g2, g3⟩ := tok_at HT0.out
      obtain ⟨z0, z1, z2, z3, y0, y1, y2, y3⟩ := cells_of HB0.out
      clear ht e1 e2 HDN hdl
      go_wp2_with fail
      refine (Parse.rparse_any t _ htl).mono ?_
      rintro e w4 ⟨rfl, rfl⟩
      obtain ⟨v, hv⟩ : ∃ v, parseV t = v := ⟨_, rfl⟩
      obtain ⟨x, hx⟩ : ∃ x, parseE t = x := ⟨_, rfl⟩
      rw [hv, hx] at HN ⊢
      clear hv hx hext
      go_wp2_with fail
      refine bodyPost_ret (ret_tok4 rfl _ w.heap.size rfl _ _ _ _ _ (blkPut4 (blkPast (blkPast HB0.out (T := w.heap.size + 1) (by omega) _) (T := w.heap.size + 1) (by omega) _) rfl _ _ _ _)) rfl ⟨?_, frPut4 (frPast (frPast HF0.out (T := w.heap.size + 1) (by omega) _) (T := w.heap.size + 1) (by omega) _) (.inr (Nat.le_refl _)) _ _ _ _⟩
      rw [HN.out]
      by_cases hx0 : x = 0
      · rw [if_pos hx0, hx0]
        exact ⟨_, rfl⟩
      · rw [if_neg hx0]
        exact ⟨_, [], _, _, _, rfl⟩
set_option maxRecDepth 100000 in
set_option maxHeartbeats 4000000 in
theorem one_text (S : List UInt8) (p : Nat) (w : World) (hS : S.length ≤ 1000000) (hp : p < S.length) (h39 : at0 S p = 39) :
    Calls Tryd.prog 18 #[.string ⟨S.toArray⟩, .int .i64 p] w fun e w' => DocR e (textM p S) ∧ Fr [] w w' := by
  have HS := Lib.hid hS
  have hix : (ByteArray.mk S.toArray)[p]'(show p < S.toArray.size by simpa using hp) = 39 := by
    rw [at0_lt hp] at h39
    exact h39
  have hpi : (p : Int) < (S.length : Int) := by omega
  clear hS h39
  obtain ⟨c, hcc⟩ : ∃ c : UInt8, c = 39 := ⟨_, rfl⟩
  rw [← hcc] at hix
  have HLC : Hid (LexM.letter c = false) := by show LexM.letter c = false; rw [hcc]; decide
  have HDC : Hid (LexM.dig c = false) := by show LexM.dig c = false; rw [hcc]; decide
  have h39i : ((c.toNat : Int) == 39) = true := by rw [hcc]; decide
  clear hcc
  go_enter Tryd.func18, Tryd.ntmps18
  go_wp2_with fail
  refine (rletter_any c _).mono ?_
  rintro e w1 ⟨rfl, rfl⟩
  rw [HLC.out]
  go_wp2_with fail
  refine (rdigit_any c _).mono ?_
  rintro e w1 ⟨rfl, rfl⟩
  rw [HDC.out]
  have HB0 : Hid (Blk ((w.alloc (.cells zcells.toArray 30)).alloc (.cells #[.int .i64 0, .string ⟨#[]⟩, .int .i64 0, .int .i64 p] 30)) w.heap.size 30 zcells) := Blk.alloc (Blk.new w 30 zcells) _
  have HF0 : Hid (Fr [] w ((w.alloc (.cells zcells.toArray 30)).alloc (.cells #[.int .i64 0, .string ⟨#[]⟩, .int .i64 0, .int .i64 p] 30))) := ((Fr.refl [] w).alloc _).alloc _
  go_wp2_with fail
  refine (letters_any S p _ HS.out hp).mono ?_
  intro e w3 hr
  obtain ⟨hd, hf⟩ := hr
  have HB := Lib.hid (HB0.out.keep hf (by simp))
  have HF : Hid (Fr [] w w3) := HF0.out.trans hf
  obtain ⟨z0, z1, z2, z3, y0, y1, y2, y3⟩ := cells_of HB.out
  clear hf h39i
  cases hX : textM p S with
  | inl y =>
    obtain ⟨q, x⟩ := y
    rw [hX] at hd
    obtain ⟨a, b, c', d, z, rfl⟩ := hd
    have HX := Lib.hid hX
    clear hX
    go_wp2_with fail
    refine bodyPost_ret (ret_tok4 rfl _ w.heap.size rfl _ _ _ _ _ (blkPut4 HB.out rfl _ _ _ _)) rfl ⟨?_, frPut4 HF.out (.inr (Nat.le_refl _)) _ _ _ _⟩
    rw [HX.out]
    exact ⟨_, _, _, _, _, rfl⟩
  | inr y =>
    obtain ⟨t, q⟩ := y
    rw [hX] at hd
    obtain ⟨z, rfl⟩ := hd
    simp only [tokV, tokA]
    have HX := Lib.hid hX
    clear hX
    go_wp2_with fail
    refine bodyPost_ret (ret_tok4 rfl _ w.heap.size rfl _ _ _ _ _ (blkPut4 HB.out rfl _ _ _ _)) rfl ⟨?_, frPut4 HF.out (.inr (Nat.le_refl _)) _ _ _ _⟩
    rw [HX.out]
    exact ⟨_, rfl⟩
end Lx
end Go.Proofs.YtfpkcddnikgabaaDoor
