/- lex: the document's sign. -/
import Derived.Test.YtfpkcddnikgabaaDoorLexP
namespace Go.Proofs.YtfpkcddnikgabaaDoor
open Go.RowKit

namespace Lx
open LexM (Tok)

theorem sg_no' {l : List UInt8} {k : Nat} {a c : UInt8} (h : k < l.length) (hc : l[k] = c) (ha : ¬ c = a) : (l.take (k + 1)).contains a = (l.take k).contains a := by
  rw [List.take_succ_eq_append_getElem h, hc, Bool.eq_iff_iff]
  simp only [List.contains_iff_mem, List.mem_append, List.mem_singleton]
  constructor
  · rintro (h | h)
    · exact h
    · exact absurd h.symm ha
  · exact .inl
theorem ext_two {S : List UInt8} {p : Nat} {c d : UInt8} (h : p + 1 < S.length) (hc : S[p]'(by omega) = c) (hd : S[p + 1] = d) : (ByteArray.mk S.toArray).extract p (p + 2) = ⟨#[c, d]⟩ := by
  rw [extract_eq, show p + 2 - p = 2 by omega, List.drop_eq_getElem_cons (by omega), List.drop_eq_getElem_cons h, hc, hd]
  rfl
theorem ext_1 {S : List UInt8} {p : Nat} {c : UInt8} (h : p < S.length) (hc : S[p] = c) : (ByteArray.mk S.toArray).extract p (p + 1) = ⟨#[c]⟩ := by
  rw [extract_eq, show p + 1 - p = 1 by omega, List.drop_eq_getElem_cons h, hc]
  rfl
/-- what the loop over the signs keeps -/
def SgI (w : World) (p : Nat) (c : UInt8) (u : Value) (wr : World) : Prop :=
  ∃ k : Nat, u = .int .i64 k ∧ k ≤ 10 ∧ Hid ((LexM.signs.take k).contains c = false) ∧ Hid (Blk wr w.heap.size 30 zcells) ∧ Hid (TokB wr (w.heap.size + 1) 5 [] 0 p) ∧ Hid (Fr [] w wr)

set_option maxRecDepth 100000 in
set_option maxHeartbeats 8000000 in
theorem one_sign (S : List UInt8) (p : Nat) (w : World) (hS : S.length ≤ 1000000) (hp : p < S.length) (hl : LexM.letter (at0 S p) = false) (hd : LexM.dig (at0 S p) = false) (h39 : at0 S p ≠ 39) :
    Calls Tryd.prog 18 #[.string ⟨S.toArray⟩, .int .i64 p] w fun e w' => DocR e (signM p S) ∧ Fr [] w w' := by
  have HS := Lib.hid hS
  obtain ⟨c, hc⟩ : ∃ c, S[p] = c := ⟨_, rfl⟩
  have hix : (ByteArray.mk S.toArray)[p]'(show p < S.toArray.size by simpa using hp) = c := by rw [← hc]; rfl
  have HAT : Hid (at0 S p = c) := (at0_lt hp).trans hc
  rw [at0_lt hp, hc] at hl hd h39
  have HLC := Lib.hid hl
  have HDC := Lib.hid hd
  have HC := Lib.hid hc
  have hpi : (p : Int) < (S.length : Int) := by omega
  have hbd : (S.length : Int) ≤ 1000000 := by omega
  have h39i : ((c.toNat : Int) == 39) = false := byte_ne (a := 39) h39
  clear hS hc hl hd h39
  go_enter Tryd.func18, Tryd.ntmps18
  go_wp2_with fail
  refine (rletter_any c _).mono ?_
  rintro e w1 ⟨rfl, rfl⟩
  rw [HLC.out]
  have HB0 : Hid (Blk ((w.alloc (.cells zcells.toArray 30)).alloc (.cells #[.int .i64 0, .string ⟨#[]⟩, .int .i64 0, .int .i64 p] 30)) w.heap.size 30 zcells) := Blk.alloc (Blk.new w 30 zcells) _
  have HT0 : Hid (TokB ((w.alloc (.cells zcells.toArray 30)).alloc (.cells #[.int .i64 0, .string ⟨#[]⟩, .int .i64 0, .int .i64 p] 30)) (w.heap.size + 1) 0 [] 0 p) := by
    have h2 := Blk.new (w.alloc (.cells zcells.toArray 30)) 30 [.int .i64 0, .string ⟨#[]⟩, .int .i64 0, .int .i64 p]
    rw [show (w.alloc (.cells zcells.toArray 30)).heap.size = w.heap.size + 1 by simp] at h2
    exact h2
  have HF0 : Hid (Fr [] w ((w.alloc (.cells zcells.toArray 30)).alloc (.cells #[.int .i64 0, .string ⟨#[]⟩, .int .i64 0, .int .i64 p] 30))) := ((Fr.refl [] w).alloc _).alloc _
  obtain ⟨wa, hwa⟩ : ∃ wa, (w.alloc (.cells zcells.toArray 30)).alloc (.cells #[.int .i64 0, .string ⟨#[]⟩, .int .i64 0, .int .i64 p] 30) = wa := ⟨_, rfl⟩
  rw [hwa] at HB0 HT0 HF0
  go_wp2_with fail
  refine (rdigit_any c _).mono ?_
  rintro e w1 ⟨rfl, rfl⟩
  rw [HDC.out]
  rw [show ((w.alloc (.cells #[.int .i64 0, .string ⟨#[]⟩, .int .i64 0, .int .i64 0] 30)).alloc (.cells #[.int .i64 0, .string ⟨#[]⟩, .int .i64 0, .int .i64 p] 30)) = wa from hwa]
  clear hwa
  have HB5 : Hid (Blk (wa.setCell ⟨w.heap.size + 1, 0, none⟩ (.int .i64 5)) w.heap.size 30 zcells) := blkPast HB0.out (by omega) _
  have HT5 : Hid (TokB (wa.setCell ⟨w.heap.size + 1, 0, none⟩ (.int .i64 5)) (w.heap.size + 1) 5 [] 0 p) := HT0.out.set0 5
  have HF5 : Hid (Fr [] w (wa.setCell ⟨w.heap.size + 1, 0, none⟩ (.int .i64 5))) := frPast HF0.out (by omega) _
  obtain ⟨t0, t1, t2, t3, g0, g1, g2, g3⟩ := tok_at HT0.out
  obtain ⟨z0, z1, z2, z3, y0, y1, y2, y3⟩ := cells_of HB0.out
  by_cases h2 : p + 1 < S.length
  · obtain ⟨d, hd⟩ : ∃ d, S[p + 1] = d := ⟨_, rfl⟩
    have hext := ext_two h2 HC.out hd
    have HAD : Hid (at0 S (p + 1) = d) := (at0_lt h2).trans hd
    have h2i : (p : Int) + 1 < (S.length : Int) := by clear h39i; omega
    have h2j : (p : Int) + 2 ≤ (S.length : Int) := by clear h39i; omega
    clear hd h2
    by_cases hb : (c = 60 ∧ (d = 62 ∨ d = 61)) ∨ (c = 62 ∧ d = 61)
    · have HM : Hid (signM p S = .inr (⟨5, [c, d], 0, p⟩, p + 2)) := by
        have hs : LexM.signs.contains c = true := by
          rcases hb with ⟨rfl, _⟩ | ⟨rfl, _⟩ <;> decide
        rw [Hid, signM, HAT.out, HAD.out]
        simp only [hs, if_true, if_pos hb]
      obtain ⟨e1, he, hv⟩ : ∃ e1 : ByteArray, (⟨#[c, d]⟩ : ByteArray) = e1 ∧ (e1 = ⟨#[60, 62]⟩ ∨ e1 = ⟨#[60, 61]⟩ ∨ e1 = ⟨#[62, 61]⟩) := by
        rcases hb with ⟨rfl, rfl | rfl⟩ | ⟨rfl, rfl⟩
        · exact ⟨_, rfl, .inl rfl⟩
        · exact ⟨_, rfl, .inr (.inl rfl)⟩
        · exact ⟨_, rfl, .inr (.inr rfl)⟩
      rw [he] at hext
      have HE := Lib.hid he
      clear hb he
      rcases hv with rfl | rfl | rfl
      all_goals
        go_wp2_with fail
        refine bodyPost_ret (ret_tok4 rfl _ w.heap.size rfl _ _ _ _ _ (blkPut4 (blkPast HB5.out (T := w.heap.size + 1) (by clear h39i; omega) _) rfl _ _ _ _)) rfl ⟨?_, frPut4 (frPast HF5.out (T := w.heap.size + 1) (by clear h39i; omega) _) (.inr (Nat.le_refl _)) _ _ _ _⟩
        rw [HM.out]
        refine ⟨0, ?_⟩
        rw [show tokV ⟨5, [c, d], 0, p⟩ = .agg #[.int .i64 5, .string ⟨#[c, d]⟩, .int .i64 0, .int .i64 p] from rfl, HE.out]
        rfl
    · obtain ⟨e1, he⟩ : ∃ e1 : ByteArray, (⟨#[c, d]⟩ : ByteArray) = e1 := ⟨_, rfl⟩
      have hn : ∀ x y : UInt8, e1 = ⟨#[x, y]⟩ → c = x ∧ d = y := by
        rintro x y h
        rw [← he] at h
        have : [c, d] = [x, y] := congrArg (fun b : ByteArray => b.data.toList) h
        simpa using this
      have k1 : (e1.toList == [60, 62]) = false := by rw [← (by kernel_rfl : (ByteArray.mk #[60, 62]).toList = [60, 62]), Lib.bytes_beq_false_iff]; intro h; obtain ⟨rfl, rfl⟩ := hn _ _ h; simp at hb
      have k2 : (e1.toList == [60, 61]) = false := by rw [← (by kernel_rfl : (ByteArray.mk #[60, 61]).toList = [60, 61]), Lib.bytes_beq_false_iff]; intro h; obtain ⟨rfl, rfl⟩ := hn _ _ h; simp at hb
      have k3 : (e1.toList == [62, 61]) = false := by rw [← (by kernel_rfl : (ByteArray.mk #[62, 61]).toList = [62, 61]), Lib.bytes_beq_false_iff]; intro h; obtain ⟨rfl, rfl⟩ := hn _ _ h; simp at hb
      have HM : Hid (signM p S = if LexM.signs.contains c then .inr (⟨5, [c], 0, p⟩, p + 1) else .inl (p, 4)) := by
        rw [Hid, signM, HAT.out, HAD.out]
        simp only [if_neg hb]
      rw [he] at hext
      clear hn hb he
      go_wp2_with fail
      go_loopw [13] (fun u wr => SgI w p c u wr) (fun i _ => 10 - (intOf i).toNat)
      case atStart => exact ⟨0, rfl, by clear h39i; omega, rfl, HB5.out, HT5.out, HF5.out⟩
      case round =>
        obtain ⟨k, rfl, hk, HK, HB, HT, HF⟩ := hrel
        clear t0 t1 t2 t3 g0 g1 g2 g3 z0 z1 z2 z3 y0 y1 y2 y3 h39i
        obtain ⟨t0, t1, t2, t3, g0, g1, g2, g3⟩ := tok_at HT.out
        obtain ⟨z0, z1, z2, z3, y0, y1, y2, y3⟩ := cells_of HB.out
        by_cases hlt : k < 10
        · obtain ⟨x, hx⟩ : ∃ x, LexM.signs[k]'hlt = x := ⟨_, rfl⟩
          have hixk : (ByteArray.mk #[40, 41, 44, 46, 61, 60, 62, 43, 45, 42])[k]'hlt = x := hx
          have hki : (k : Int) < 10 := by omega
          by_cases hxc : x = c
          · have HM2 : Hid (signM p S = .inr (⟨5, [c], 0, p⟩, p + 1)) := by
              have hs : LexM.signs.contains c = true := by
                rw [List.contains_iff_mem, ← hxc, ← hx]
                exact List.getElem_mem _
              rw [Hid, HM.out, if_pos hs]
            have hxi := byte_eq hxc
            have hext1 := ext_1 hp HC.out
            have hpi1 : (p : Int) + 1 ≤ (S.length : Int) := by omega
            clear hx hxc
            go_wp2_with fail
            go_quiet (fail)
            go_wp2_with fail
            refine bodyPost_ret (ret_tok4 rfl _ w.heap.size rfl _ _ _ _ _ (blkPut4 (blkPast (Blk.drewN HB.out _) (T := w.heap.size + 1) (by clear hxi; omega) _) rfl _ _ _ _)) rfl ⟨?_, frPut4 (frPast (Fr.drewN HF.out _) (T := w.heap.size + 1) (by clear hxi; omega) _) (.inr (Nat.le_refl _)) _ _ _ _⟩
            rw [HM2.out]
            exact ⟨_, rfl⟩
          · have HK2 : Hid ((LexM.signs.take (k + 1)).contains c = false) := by
              rw [Hid, sg_no' hlt hx hxc]
              exact HK.out
            have hxi := byte_ne hxc
            clear hx hxc
            go_wp2_with fail
            go_quiet (fail)
            go_wp2_with fail
            go_roundw
            case rel => exact ⟨k + 1, by go_num, hlt, HK2, Blk.drewN HB.out _, Blk.drewN HT.out _, Fr.drewN HF.out _⟩
            case measure => clear hxi; simp [intOf]; omega
        · have HM2 : Hid (signM p S = .inl (p, 4)) := by
            obtain rfl : k = 10 := by omega
            have := HK.out
            rw [Hid, HM.out, if_neg (by rw [show LexM.signs.contains c = (LexM.signs.take 10).contains c from rfl, this]; decide)]
          have hki : (10 : Int) ≤ (k : Int) := by omega
          go_wp2_with fail
          refine bodyPost_ret (ret_tok4 rfl _ w.heap.size rfl _ _ _ _ _ (blkPut4 HB.out rfl _ _ _ _)) rfl ⟨?_, frPut4 HF.out (.inr (Nat.le_refl _)) _ _ _ _⟩
          rw [HM2.out]
          exact ⟨_, _, _, _, _, rfl⟩
  · have HM : Hid (signM p S = if LexM.signs.contains c then .inr (⟨5, [c], 0, p⟩, p + 1) else .inl (p, 4)) := by
      have hb : ¬ ((c = 60 ∧ ((0 : UInt8) = 62 ∨ (0 : UInt8) = 61)) ∨ (c = 62 ∧ (0 : UInt8) = 61)) := by
        rintro (⟨_, h | h⟩ | ⟨_, h⟩) <;> revert h <;> decide
      rw [Hid, signM, HAT.out, at0_ge (S := S) (p := p + 1) (by omega)]
      simp only [if_neg hb]
    have h2i : (S.length : Int) ≤ (p : Int) + 1 := by clear h39i; omega
    have h2d : decide ((p : Int) + 1 < (S.length : Int)) = false := decide_eq_false (by clear h39i; omega)
    clear h2
    go_wp2_with fail
    go_loopw [13] (fun u wr => SgI w p c u wr) (fun i _ => 10 - (intOf i).toNat)
    case atStart => exact ⟨0, rfl, by clear h39i; omega, rfl, HB5.out, HT5.out, HF5.out⟩
    case round =>
      obtain ⟨k, rfl, hk, HK, HB, HT, HF⟩ := hrel
      clear t0 t1 t2 t3 g0 g1 g2 g3 z0 z1 z2 z3 y0 y1 y2 y3 h39i
      obtain ⟨t0, t1, t2, t3, g0, g1, g2, g3⟩ := tok_at HT.out
      obtain ⟨z0, z1, z2, z3, y0, y1, y2, y3⟩ := cells_of HB.out
      by_cases hlt : k < 10
      · obtain ⟨x, hx⟩ : ∃ x, LexM.signs[k]'hlt = x := ⟨_, rfl⟩
        have hixk : (ByteArray.mk #[40, 41, 44, 46, 61, 60, 62, 43, 45, 42])[k]'hlt = x := hx
        have hki : (k : Int) < 10 := by omega
        by_cases hxc : x = c
        · have HM2 : Hid (signM p S = .inr (⟨5, [c], 0, p⟩, p + 1)) := by
            have hs : LexM.signs.contains c = true := by
              rw [List.contains_iff_mem, ← hxc, ← hx]
              exact List.getElem_mem _
            rw [Hid, HM.out, if_pos hs]
          have hxi := byte_eq hxc
          have hext1 := ext_1 hp HC.out
          have hpi1 : (p : Int) + 1 ≤ (S.length : Int) := by omega
          clear hx hxc
          go_wp2_with fail
          go_quiet (fail)
          go_wp2_with fail
          refine bodyPost_ret (ret_tok4 rfl _ w.heap.size rfl _ _ _ _ _ (blkPut4 (blkPast (Blk.drewN HB.out _) (T := w.heap.size + 1) (by clear hxi; omega) _) rfl _ _ _ _)) rfl ⟨?_, frPut4 (frPast (Fr.drewN HF.out _) (T := w.heap.size + 1) (by clear hxi; omega) _) (.inr (Nat.le_refl _)) _ _ _ _⟩
          rw [HM2.out]
          exact ⟨_, rfl⟩
        · have HK2 : Hid ((LexM.signs.take (k + 1)).contains c = false) := by
            rw [Hid, sg_no' hlt hx hxc]
            exact HK.out
          have hxi := byte_ne hxc
          clear hx hxc
          go_wp2_with fail
          go_quiet (fail)
          go_wp2_with fail
          go_roundw
          case rel => exact ⟨k + 1, by go_num, hlt, HK2, Blk.drewN HB.out _, Blk.drewN HT.out _, Fr.drewN HF.out _⟩
          case measure => clear hxi; simp [intOf]; omega
      · have HM2 : Hid (signM p S = .inl (p, 4)) := by
          obtain rfl : k = 10 := by omega
          have := HK.out
          rw [Hid, HM.out, if_neg (by rw [show LexM.signs.contains c = (LexM.signs.take 10).contains c from rfl, this]; decide)]
        have hki : (10 : Int) ≤ (k : Int) := by omega
        go_wp2_with fail
        refine bodyPost_ret (ret_tok4 rfl _ w.heap.size rfl _ _ _ _ _ (blkPut4 HB.out rfl _ _ _ _)) rfl ⟨?_, frPut4 HF.out (.inr (Nat.le_refl _)) _ _ _ _⟩
        rw [HM2.out]
        exact ⟨_, _, _, _, _, rfl⟩
end Lx
end Go.Proofs.YtfpkcddnikgabaaDoor
