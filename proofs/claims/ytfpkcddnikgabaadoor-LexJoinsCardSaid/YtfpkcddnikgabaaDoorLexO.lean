/- lex: the document's name and number. -/
import Derived.Test.YtfpkcddnikgabaaDoorLexL
import Derived.Test.YtfpkcddnikgabaaDoorRParse
namespace Go.Proofs.YtfpkcddnikgabaaDoor
open Go.RowKit

namespace Lx
open LexM (Tok)
open Parse (parseV parseE)

theorem rletter_any (c : UInt8) (w : World) : Calls Tryd.prog 28 #[.int .u8 (c.toNat : Int)] w fun e w' => e = .returned (.bool (LexM.letter c)) ∧ w' = w := by
  have hc := c.toNat_lt
  obtain ⟨y, hy⟩ : ∃ y : Int, (c.toNat : Int) = y := ⟨_, rfl⟩
  have hv : LexM.letter c = (decide (97 ≤ y ∧ y ≤ 122) || decide (y = 95)) := by
    have e : (c == 95) = decide (y = 95) := by
      rw [← hy]
      by_cases h : c = 95
      · subst h; rfl
      · have : ¬ ((c.toNat : Int) = 95) := fun he => h (UInt8.toNat_inj.1 (by simpa using (by omega : c.toNat = 95)))
        simp [h, this]
    unfold LexM.letter
    rw [e]
    congr 1
    rw [decide_eq_decide]
    omega
  rw [hv, hy]
  have h0 : 0 ≤ y ∧ y ≤ 255 := by omega
  obtain ⟨h1, h2⟩ := h0
  have HV := Lib.hid hv
  clear hv hy hc
  rcases (by omega : y < 95 ∨ y = 95 ∨ (95 < y ∧ y < 97) ∨ (97 ≤ y ∧ y ≤ 122) ∨ (97 ≤ y ∧ 122 < y)) with h | rfl | ⟨h, h'⟩ | ⟨h, h'⟩ | ⟨h, h'⟩
  all_goals
    go_enter Tryd.func28, Tryd.ntmps28
    go_wp2_with fail
    go_ret
    refine ⟨?_, rfl⟩
    congr 2
    try simp
    try (rw [Bool.eq_iff_iff]; simp; omega)
    try omega
theorem rdigit_any (c : UInt8) (w : World) : Calls Tryd.prog 29 #[.int .u8 (c.toNat : Int)] w fun e w' => e = .returned (.bool (LexM.dig c)) ∧ w' = w := by
  have hc := c.toNat_lt
  obtain ⟨y, hy⟩ : ∃ y : Int, (c.toNat : Int) = y := ⟨_, rfl⟩
  have hv : LexM.dig c = decide (48 ≤ y ∧ y ≤ 57) := by
    unfold LexM.dig
    rw [decide_eq_decide]
    omega
  rw [hv, hy]
  have h0 : 0 ≤ y ∧ y ≤ 255 := by omega
  obtain ⟨h1, h2⟩ := h0
  have HV := Lib.hid hv
  clear hv hy hc
  rcases (by omega : y < 48 ∨ (48 ≤ y ∧ y ≤ 57) ∨ (48 ≤ y ∧ 57 < y)) with h | ⟨h, h'⟩ | ⟨h, h'⟩
  all_goals
    go_enter Tryd.func29, Tryd.ntmps29
    go_wp2_with fail
    go_ret
    refine ⟨?_, rfl⟩
    congr 2
    try simp
    try (rw [Bool.eq_iff_iff]; simp; omega)
    try omega

theorem arithO {q n : Nat} (h2 : q < n) (h4 : n ≤ 1000000) : (q : Int) + 1 = ((q + 1 : Nat) : Int) ∧ q + 1 ≤ n ∧ (q : Int) ≤ 1000000 ∧ (q : Int) < (n : Int) ∧ decide ((q : Int) < (n : Int)) = true := by
  refine ⟨by omega, by omega, by omega, by omega, by simp; omega⟩
theorem ext_pq {S t : List UInt8} {p q : Nat} (h : (S.drop p).take (q - p) = t) : (ByteArray.mk S.toArray).extract p q = ⟨t.toArray⟩ := by rw [extract_eq, h]

/-- what is known behind a setting -/
theorem TokB.set0 {w : World} {T : Nat} {a : Int} {b : List UInt8} {c d : Int} (h : TokB w T a b c d) (a' : Int) : TokB (w.setCell ⟨T, 0, none⟩ (.int .i64 a')) T a' b c d := Blk.set h 0 _
theorem TokB.set1 {w : World} {T : Nat} {a : Int} {b : List UInt8} {c d : Int} (h : TokB w T a b c d) (b' : List UInt8) : TokB (w.setCell ⟨T, 1, none⟩ (.string ⟨b'.toArray⟩)) T a b' c d := Blk.set h 1 _
theorem TokB.set2 {w : World} {T : Nat} {a : Int} {b : List UInt8} {c d : Int} (h : TokB w T a b c d) (c' : Int) : TokB (w.setCell ⟨T, 2, none⟩ (.int .i64 c')) T a b c' d := Blk.set h 2 _
theorem blkPast {w : World} {b : Nat} {E : TypeId} {cs : List Value} (h : Blk w b E cs) {T i : Nat} (hT : T ≠ b) (u : Value) : Blk (w.setCell ⟨T, i, none⟩ u) b E cs :=
  Blk.keep h ((Fr.refl [some T] w).setCell (p := ⟨T, i, none⟩) (.inl (by simp)) u) (by simp; exact fun h => hT h.symm)
theorem frPast {w w' : World} (h : Fr [] w w') {T i : Nat} (hT : w.heap.size ≤ T) (u : Value) : Fr [] w (w'.setCell ⟨T, i, none⟩ u) := Fr.setCell h (p := ⟨T, i, none⟩) (.inr hT) u

set_option maxRecDepth 100000 in
set_option maxHeartbeats 4000000 in
theorem one_name (S : List UInt8) (p : Nat) (w : World) (hS : S.length ≤ 1000000) (hp : p < S.length) (hl : LexM.letter (at0 S p) = true) :
    Calls Tryd.prog 18 #[.string ⟨S.toArray⟩, .int .i64 p] w fun e w' => DocR e (nameM p S) ∧ Fr [] w w' := by
  have HS := Lib.hid hS
  obtain ⟨c, hc⟩ : ∃ c, S[p] = c := ⟨_, rfl⟩
  have hix : (ByteArray.mk S.toArray)[p]'(show p < S.toArray.size by simpa using hp) = c := by rw [← hc]; rfl
  rw [at0_lt hp, hc] at hl
  have HLC := Lib.hid hl
  have hpi : (p : Int) < (S.length : Int) := by omega
  clear hS hc hl
  go_enter Tryd.func18, Tryd.ntmps18
  go_wp2_with fail
  refine (rletter_any c _).mono ?_
  rintro e w1 ⟨rfl, rfl⟩
  rw [HLC.out]
  have HB0 : Hid (Blk ((w.alloc (.cells zcells.toArray 30)).alloc (.cells #[.int .i64 0, .string ⟨#[]⟩, .int .i64 0, .int .i64 p] 30)) w.heap.size 30 zcells) := Blk.alloc (Blk.new w 30 zcells) _
  have HT0 : Hid (TokB ((w.alloc (.cells zcells.toArray 30)).alloc (.cells #[.int .i64 0, .string ⟨#[]⟩, .int .i64 0, .int .i64 p] 30)) (w.heap.size + 1) 0 [] 0 p) := by
    have h2 := Blk.new (w.alloc (.cells zcells.toArray 30)) 30 [.int .i64 0, .string ⟨#[]⟩, .int .i64 0, .int .i64 p]
    rw [show (w.alloc (.cells zcells.toArray 30)).heap.size = w.heap.size + 1 by simp] at h2
    exact h2
  have HF0 : Hid (Fr [] w ((w.alloc (.cells zcells.toArray 30)).alloc (.cells #[.int .i64 0, .string ⟨#[]⟩, .int .i64 0, .int .i64 p] 30))) := ((Fr.refl [] w).alloc _).alloc _
  obtain ⟨wa, hwa⟩ : ∃ wa, (w.alloc (.cells zcells.toArray 30)).alloc (.cells #[.int .i64 0, .string ⟨#[]⟩, .int .i64 0, .int .i64 p] 30) = wa := ⟨_, rfl⟩
  rw [hwa] at HB0 HT0 HF0
  go_wp2_with fail
  rw [show ((w.alloc (.cells #[.int .i64 0, .string ⟨#[]⟩, .int .i64 0, .int .i64 0] 30)).alloc (.cells #[.int .i64 0, .string ⟨#[]⟩, .int .i64 0, .int .i64 p] 30)) = wa from hwa]
  clear hwa hix
  go_loop [8] (fun u8 => ∃ q : Nat, u8 = .int .i64 q ∧ p ≤ q ∧ q ≤ S.length ∧ Hid (StopAt LexM.nameByte S p q)) (fun i => S.length - (intOf i).toNat)
  case atStart => exact ⟨p, rfl, Nat.le_refl _, Nat.le_of_lt hp, StopAt.zero _ S p⟩
  case round =>
    obtain ⟨q, rfl, hpq, hq, HST⟩ := hrel
    by_cases hlt : q < S.length
    · obtain ⟨-, -, a3, a4, a5⟩ := arithO hlt HS.out
      obtain ⟨d, hd⟩ : ∃ d, S[q] = d := ⟨_, rfl⟩
      have hix : (ByteArray.mk S.toArray)[q]'(show q < S.toArray.size by simpa using hlt) = d := by rw [← hd]; rfl
      have HD := Lib.hid hd
      clear hd
      go_wp2_with fail
      refine (rletter_any d _).mono ?_
      rintro e w1 ⟨rfl, rfl⟩
      cases hl : LexM.letter d
      · go_wp2_with fail
        refine (rdigit_any d _).mono ?_
        rintro e w2 ⟨rfl, rfl⟩
        cases hdd : LexM.dig d
        · have HDN : Hid _ := HST.out.done hpq hq (fun h => by rw [at0_lt h, HD.out]; simp [LexM.nameByte, hl, hdd])
          clear hl hdd
          go_wp2_with fail
          obtain ⟨t, ht⟩ : ∃ t, (S.drop p).takeWhile LexM.nameByte = t := ⟨_, rfl⟩
          obtain ⟨e1, e2⟩ := HDN.out
          rw [ht] at e1 e2
          have hext := ext_pq e1.symm
          have HN : Hid (nameM p S = if LexM.words.contains t then .inr (⟨2, t, 0, p⟩, q) else if 16 < t.length then .inl (p, 7) else .inr (⟨1, t, 0, p⟩, q)) := by
            rw [Hid, nameM, ht, ← e2]
          have hqi : (q : Int) ≤ (S.length : Int) := by omega
          have hpqi : (p : Int) ≤ (q : Int) := by omega
          have hbd : (S.length : Int) ≤ 1000000 := by have := HS.out; omega
          have hqt : (q : Int) - (p : Int) = (t.length : Int) := by omega
          obtain ⟨t0, t1, t2, t3, g0, g1, g2, g3⟩ := tok_at HT0.out
          clear ht e1 e2 HDN
          go_wp2_with fail
          go_region
          go_wp2_with fail
          refine (word_any t _).mono ?_
          rintro e w3 ⟨rfl, hf3⟩
          have HT3 : Hid (TokB w3 (w.heap.size + 1) 1 t 0 p) := Blk.keep (Blk.drew ((HT0.out.set0 1).set1 t)) hf3 (by simp)
          have HB3 : Hid (Blk w3 w.heap.size 30 zcells) := Blk.keep (Blk.drew (blkPast (blkPast HB0.out (by omega) _) (by omega) _)) hf3 (by simp)
          have HF3 : Hid (Fr [] w w3) := Fr.trans (Fr.drew (frPast (frPast HF0.out (by omega) _) (by omega) _)) hf3
          obtain ⟨z0, z1, z2, z3, y0, y1, y2, y3⟩ := cells_of HB3.out
          obtain ⟨x0, x1, x2, x3, v0, v1, v2, v3⟩ := tok_at HT3.out
          clear t0 t1 t2 t3 g0 g1 g2 g3 hf3 hext
          cases hw : LexM.words.contains t
          · rw [hw] at HN
            by_cases hl : 16 < t.length
            · have hl' : (16 : Int) < (q : Int) - (p : Int) := by omega
              have HL : Hid (nameM p S = .inl (p, 7)) := by rw [Hid, HN.out, if_neg Bool.false_ne_true, if_pos hl]
              clear hw hl hqt
              go_wp2_with fail
              refine bodyPost_ret (ret_tok4 rfl _ w.heap.size rfl _ _ _ _ _ (blkPut4 HB3.out rfl _ _ _ _)) rfl ⟨?_, frPut4 HF3.out (.inr (Nat.le_refl _)) _ _ _ _⟩
              rw [HL.out]
              exact ⟨_, _, _, _, _, rfl⟩
            · have hl' : (q : Int) - (p : Int) ≤ 16 := by omega
              have HL : Hid (nameM p S = .inr (⟨1, t, 0, p⟩, q)) := by rw [Hid, HN.out, if_neg Bool.false_ne_true, if_neg hl]
              clear hw hl hqt
              go_wp2_with fail
              refine bodyPost_ret (ret_tok4 rfl _ w.heap.size rfl _ _ _ _ _ (blkPut4 HB3.out rfl _ _ _ _)) rfl ⟨?_, frPut4 HF3.out (.inr (Nat.le_refl _)) _ _ _ _⟩
              rw [HL.out]
              exact ⟨_, rfl⟩
          · rw [hw] at HN
            have HL : Hid (nameM p S = .inr (⟨2, t, 0, p⟩, q)) := by rw [Hid, HN.out, if_pos rfl]
            clear hw hqt
            go_wp2_with fail
            refine bodyPost_ret (ret_tok4 rfl _ w.heap.size rfl _ _ _ _ _ (blkPut4 (blkPast HB3.out (T := w.heap.size + 1) (by omega) _) rfl _ _ _ _)) rfl ⟨?_, frPut4 (frPast HF3.out (T := w.heap.size + 1) (by omega) _) (.inr (Nat.le_refl _)) _ _ _ _⟩
            rw [HL.out]
            exact ⟨_, rfl⟩
        · have HN : Hid _ := HST.out.next hpq hlt (by rw [HD.out]; simp [LexM.nameByte, hdd])
          clear hl hdd
          go_wp2_with fail
          go_round
          case rel => exact ⟨q + 1, by go_num, by omega, by omega, HN.out⟩
          case measure => simp [intOf]; omega
      · have HN : Hid _ := HST.out.next hpq hlt (by rw [HD.out]; simp [LexM.nameByte, hl])
        clear hl
        go_wp2_with fail
        go_round
        case rel => exact ⟨q + 1, by go_num, by omega, by omega, HN.out⟩
        case measure => simp [intOf]; omega
    · have HDN : Hid _ := HST.out.done hpq hq (fun h => absurd h hlt)
      have hle : (S.length : Int) ≤ (q : Int) := by omega
      have hdf : decide ((q : Int) < (S.length : Int)) = false := decide_eq_false (by omega)
      have hq0 : q = S.length := by omega
      clear hlt hq0
      go_wp2_with fail
      obtain ⟨t, ht⟩ : ∃ t, (S.drop p).takeWhile LexM.nameByte = t := ⟨_, rfl⟩
      obtain ⟨e1, e2⟩ := HDN.out
      rw [ht] at e1 e2
      have hext := ext_pq e1.symm
      have HN : Hid (nameM p S = if LexM.words.contains t then .inr (⟨2, t, 0, p⟩, q) else if 16 < t.length then .inl (p, 7) else .inr (⟨1, t, 0, p⟩, q)) := by
        rw [Hid, nameM, ht, ← e2]
      have hqi : (q : Int) ≤ (S.length : Int) := by omega
      have hpqi : (p : Int) ≤ (q : Int) := by omega
      have hbd : (S.length : Int) ≤ 1000000 := by have := HS.out; omega
      have hqt : (q : Int) - (p : Int) = (t.length : Int) := by omega
      obtain ⟨t0, t1, t2, t3, g0, g1, g2, g3⟩ := tok_at HT0.out
      clear ht e1 e2 HDN
      go_wp2_with fail
      go_region
      go_wp2_with fail
      refine (word_any t _).mono ?_
      rintro e w3 ⟨rfl, hf3⟩
      have HT3 : Hid (TokB w3 (w.heap.size + 1) 1 t 0 p) := Blk.keep (Blk.drew ((HT0.out.set0 1).set1 t)) hf3 (by simp)
      have HB3 : Hid (Blk w3 w.heap.size 30 zcells) := Blk.keep (Blk.drew (blkPast (blkPast HB0.out (by omega) _) (by omega) _)) hf3 (by simp)
      have HF3 : Hid (Fr [] w w3) := Fr.trans (Fr.drew (frPast (frPast HF0.out (by omega) _) (by omega) _)) hf3
      obtain ⟨z0, z1, z2, z3, y0, y1, y2, y3⟩ := cells_of HB3.out
      obtain ⟨x0, x1, x2, x3, v0, v1, v2, v3⟩ := tok_at HT3.out
      clear t0 t1 t2 t3 g0 g1 g2 g3 hf3 hext
      cases hw : LexM.words.contains t
      · rw [hw] at HN
        by_cases hl : 16 < t.length
        · have hl' : (16 : Int) < (q : Int) - (p : Int) := by omega
          have HL : Hid (nameM p S = .inl (p, 7)) := by rw [Hid, HN.out, if_neg Bool.false_ne_true, if_pos hl]
          clear hw hl hqt
          go_wp2_with fail
          refine bodyPost_ret (ret_tok4 rfl _ w.heap.size rfl _ _ _ _ _ (blkPut4 HB3.out rfl _ _ _ _)) rfl ⟨?_, frPut4 HF3.out (.inr (Nat.le_refl _)) _ _ _ _⟩
          rw [HL.out]
          exact ⟨_, _, _, _, _, rfl⟩
        · have hl' : (q : Int) - (p : Int) ≤ 16 := by omega
          have HL : Hid (nameM p S = .inr (⟨1, t, 0, p⟩, q)) := by rw [Hid, HN.out, if_neg Bool.false_ne_true, if_neg hl]
          clear hw hl hqt
          go_wp2_with fail
          refine bodyPost_ret (ret_tok4 rfl _ w.heap.size rfl _ _ _ _ _ (blkPut4 HB3.out rfl _ _ _ _)) rfl ⟨?_, frPut4 HF3.out (.inr (Nat.le_refl _)) _ _ _ _⟩
          rw [HL.out]
          exact ⟨_, rfl⟩
      · rw [hw] at HN
        have HL : Hid (nameM p S = .inr (⟨2, t, 0, p⟩, q)) := by rw [Hid, HN.out, if_pos rfl]
        clear hw hqt
        go_wp2_with fail
        refine bodyPost_ret (ret_tok4 rfl _ w.heap.size rfl _ _ _ _ _ (blkPut4 (blkPast HB3.out (T := w.heap.size + 1) (by omega) _) rfl _ _ _ _)) rfl ⟨?_, frPut4 (frPast HF3.out (T := w.heap.size + 1) (by omega) _) (.inr (Nat.le_refl _)) _ _ _ _⟩
        rw [HL.out]
        exact ⟨_, rfl⟩
end Lx
end Go.Proofs.YtfpkcddnikgabaaDoor
