/- lex: the document's text value. -/
import Derived.Test.YtfpkcddnikgabaaDoorLexK
namespace Go.Proofs.YtfpkcddnikgabaaDoor
open Go.RowKit

namespace Lx
open LexM (Tok)

theorem cat_list {A B : List UInt8} {X : ByteArray} (h : X.data.toList = B) : (ByteArray.mk A.toArray ++ X : ByteArray) = ⟨(A ++ B).toArray⟩ := by
  apply bytes_ext
  rw [ByteArray.data_append, Array.toList_append, h]
theorem ext_at {S : List UInt8} {k : Nat} {c : UInt8} (hk : k < S.length) (hc : S[k] = c) : ((ByteArray.mk S.toArray).extract k (k + 1)).data.toList = [c] := by
  rw [extract_eq, show k + 1 - k = 1 by omega, List.drop_eq_getElem_cons hk, hc]
  rfl

/-- what the document's readers of a word return -/
def DocR (e : Ending) : (Nat × Int) ⊕ (Tok × Nat) → Prop
  | .inl (q, x) => ∃ (a : Int) (b : List UInt8) (c d z : Int), e = .returned (.tuple #[.agg #[.int .i64 a, .string ⟨b.toArray⟩, .int .i64 c, .int .i64 d], .int .i64 z, .int .i64 q, .int .i64 x])
  | .inr (t, q) => ∃ z : Int, e = .returned (.tuple #[tokV t, .int .i64 q, .int .i64 z, .int .i64 0])
theorem ret_tok4 {fn : Func} (h : fn.results = #[.cell 4 30, .tmp 5, .tmp 6, .tmp 7]) (tmps : Array Value) (T : Nat) (h2 : tmps.getD 4 undef = .pointer (some ⟨T, 0, none⟩)) (w : World) (a b c d : Value) (hb : Blk w T 30 [a, b, c, d]) :
    (results fn tmps).run Tryd.prog w = .ok (.tuple #[.agg #[a, b, c, d], tmps.getD 5 undef, tmps.getD 6 undef, tmps.getD 7 undef]) w := by
  have c0 := hb.cell 0
  have c1 := hb.cell 1
  have c2 := hb.cell 2
  have c3 := hb.cell 3
  simp only [List.getElem?_cons_zero, List.getElem?_cons_succ] at c0 c1 c2 c3
  have h2' : tmps[4]?.getD undef = .pointer (some ⟨T, 0, none⟩) := by simpa using h2
  simp [results, h, h2', go_sem, c0, c1, c2, c3]

/-- a word's block, as it stands -/
structure TokAt (w : World) (T : Nat) (a : Int) (b : List UInt8) (c d : Int) : Prop where
  c0 : w.cell? ⟨T, 0, none⟩ = some (.int .i64 a)
  c1 : w.cell? ⟨T, 1, none⟩ = some (.string ⟨b.toArray⟩)
  c2 : w.cell? ⟨T, 2, none⟩ = some (.int .i64 c)
  c3 : w.cell? ⟨T, 3, none⟩ = some (.int .i64 d)
  f0 : w.frozen? ⟨T, 0, none⟩ = false
  f1 : w.frozen? ⟨T, 1, none⟩ = false
  f2 : w.frozen? ⟨T, 2, none⟩ = false
  f3 : w.frozen? ⟨T, 3, none⟩ = false
def TokB (w : World) (T : Nat) (a : Int) (b : List UInt8) (c d : Int) : Prop := Blk w T 30 [.int .i64 a, .string ⟨b.toArray⟩, .int .i64 c, .int .i64 d]
theorem tok_at {w : World} {T : Nat} {a : Int} {b : List UInt8} {c d : Int} (h : TokB w T a b c d) : TokAt w T a b c d :=
  ⟨h.cell 0, h.cell 1, h.cell 2, h.cell 3, h.free 0, h.free 1, h.free 2, h.free 3⟩

/-- what the loop keeps -/
def LtI (w : World) (S : List UInt8) (p : Nat) (u : Value) (wr : World) : Prop :=
  ∃ (q : Nat) (acc : List UInt8), u = .int .i64 q ∧ p < q ∧ q ≤ S.length ∧ acc.length ≤ q ∧ Hid (Tx S p q acc) ∧ Hid (Blk wr w.heap.size 30 zcells) ∧ Hid (TokB wr (w.heap.size + 1) 4 acc 0 p) ∧ Hid (Fr [] w wr)
theorem LtI.step {w wr : World} {S : List UInt8} {p q : Nat} {acc acc' : List UInt8} (z : Int) (b : ByteArray) (hz : z = (q : Int)) (hb : b = ⟨acc'.toArray⟩) (h1 : p < q) (h2 : q ≤ S.length) (h3 : acc'.length ≤ q) (hx : Tx S p q acc')
    (hB : Blk wr w.heap.size 30 zcells) (hT : TokB wr (w.heap.size + 1) 4 acc 0 p) (hF : Fr [] w wr) : LtI w S p (.int .i64 z) (wr.setCell ⟨w.heap.size + 1, 1, none⟩ (.string b)) := by
  subst hz hb
  have hs : Fr [some (w.heap.size + 1)] wr (wr.setCell ⟨w.heap.size + 1, 1, none⟩ (.string ⟨acc'.toArray⟩)) := (Fr.refl [some (w.heap.size + 1)] wr).setCell (p := ⟨w.heap.size + 1, 1, none⟩) (.inl (by simp)) _
  exact ⟨q, acc', rfl, h1, h2, h3, hx, hB.keep hs (by simp), Blk.set hT 1 _, hF.trans' hs (by simp)⟩
theorem LtI.drew {w wr : World} {S : List UInt8} {p : Nat} {u : Value} (h : LtI w S p u wr) : LtI w S p u wr.drew := by
  obtain ⟨q, acc, h1, h2, h3, h4, h5, h6, h7, h8⟩ := h
  exact ⟨q, acc, h1, h2, h3, h4, h5, Blk.drew h6.out, Blk.drew h7.out, Fr.drew h8.out⟩

theorem arithL {p q n k : Nat} (h1 : p < q) (h2 : q < n) (h3 : k ≤ q) (h4 : n ≤ 1000000) : (q : Int) + 1 = ((q + 1 : Nat) : Int) ∧ p < q + 1 ∧ q + 1 ≤ n ∧ k + 1 ≤ q + 1 ∧ (q : Int) ≤ 1000000 ∧ (q : Int) < (n : Int) := by
  omega

set_option maxHeartbeats 2000000 in
theorem letters_any (S : List UInt8) (p : Nat) (w : World) (hS : S.length ≤ 1000000) (hp : p < S.length) :
    Calls Tryd.prog 31 #[.string ⟨S.toArray⟩, .int .i64 p] w fun e w' => DocR e (textM p S) ∧ Fr [] w w' := by
  have HS := Lib.hid hS
  have hw1 : (p : Int) ≤ 1000000 := by omega
  clear hS
  go_enter Tryd.func31, Tryd.ntmps31
  go_wp2_with fail
  clear hw1
  go_loopw [9] (fun u wr => LtI w S p u wr) (fun i _ => S.length - (intOf i).toNat)
  case atStart =>
    have h1 := Blk.alloc (Blk.new w 30 zcells) (.cells #[.int .i64 4, .string ⟨#[]⟩, .int .i64 0, .int .i64 p] 30)
    have h2 := Blk.new (w.alloc (.cells zcells.toArray 30)) 30 [.int .i64 4, .string ⟨#[]⟩, .int .i64 0, .int .i64 p]
    rw [show (w.alloc (.cells zcells.toArray 30)).heap.size = w.heap.size + 1 by simp] at h2
    exact ⟨p + 1, [], rfl, by omega, by omega, by simp, Tx.zero S p, h1, h2, ((Fr.refl [] w).alloc _).alloc _⟩
  case round =>
    obtain ⟨q, acc, rfl, hpq, hq, hacc, HX, HB, HT, HF⟩ := hrel
    obtain ⟨t0, t1, t2, t3, g0, g1, g2, g3⟩ := tok_at HT.out
    obtain ⟨z0, z1, z2, z3, y0, y1, y2, y3⟩ := cells_of HB.out
    have hTl := HT.out.lt
    have hsz : acc.length ≤ 1000000 := Nat.le_trans hacc (Nat.le_trans hq HS.out)
    by_cases hlt : q < S.length
    · obtain ⟨a1, a2, a3, a4, hww, hqi⟩ := arithL hpq hlt hacc HS.out
      obtain ⟨c, hc⟩ : ∃ c, S[q] = c := ⟨_, rfl⟩
      have hix : (ByteArray.mk S.toArray)[q]'(show q < S.toArray.size by simpa using hlt) = c := by rw [← hc]; rfl
      have HC : Hid (at0 S q = c) := (at0_lt hlt).trans hc
      have HE := Lib.hid (ext_at hlt hc)
      clear hc
      by_cases hbad : c.toNat < 32 ∨ 126 < c.toNat
      · have HBD : Hid (textM p S = .inl (q, 4)) := by
          have h := HX.out
          unfold Tx at h
          rw [Hid, textM, h, txt_bad (by rw [HC.out]; exact hbad)]
          rfl
        have hb' : (c.toNat : Int) < 32 ∨ ((32 : Int) ≤ c.toNat ∧ (126 : Int) < c.toNat) := by omega
        clear hbad
        rcases hb' with hb1 | ⟨hb1, hb2⟩
        all_goals
          go_wp2_with fail
          refine bodyPost_ret (ret_tok4 rfl _ w.heap.size rfl _ _ _ _ _ (blkPut4 HB.out rfl _ _ _ _)) rfl ⟨?_, frPut4 HF.out (.inr (Nat.le_refl _)) _ _ _ _⟩
          rw [HBD.out]
          exact ⟨_, _, _, _, _, rfl⟩
      · have hgood : ¬ ((at0 S q).toNat < 32 ∨ 126 < (at0 S q).toNat) := by rw [HC.out]; exact hbad
        have HG := Lib.hid hgood
        have hg1 : (32 : Int) ≤ c.toNat := by omega
        have hg2 : (c.toNat : Int) ≤ 126 := by omega
        clear hbad hgood
        by_cases h39 : c = 39
        · have h39i : ((c.toNat : Int) == 39) = true := by rw [h39]; decide
          have HC39 : Hid (at0 S q = 39) := HC.out.trans h39
          clear h39
          by_cases h2 : q + 1 < S.length
          · obtain ⟨d, hd⟩ : ∃ d, S[q + 1] = d := ⟨_, rfl⟩
            have hix2 : (ByteArray.mk S.toArray)[q + 1]'(show q + 1 < S.toArray.size by simpa using h2) = d := by rw [← hd]; rfl
            have HD : Hid (at0 S (q + 1) = d) := (at0_lt h2).trans hd
            have h2i : (q : Int) + 1 < (S.length : Int) := by clear h39i; omega
            clear hd
            by_cases hd39 : d = 39
            · have HX2 := Lib.hid (HX.out.twice HC39.out (HD.out.trans hd39))
              have hST := LtI.step (acc := acc) (acc' := acc ++ [39]) ((q : Int) + 1 + 1) (ByteArray.mk acc.toArray ++ ByteArray.mk #[39]) (q := q + 2) (by clear h39i; omega) (cat_list (A := acc) (show (ByteArray.mk #[39]).data.toList = [39] from rfl)) (by clear h39i; omega) h2 (by rw [List.length_append, List.length_singleton]; clear h39i; omega) HX2.out HB.out HT.out HF.out
              have HST := Lib.hid hST
              have hd39i : ((d.toNat : Int) == 39) = true := by rw [hd39]; decide
              clear hST a1 a2 a3 a4 hd39
              go_wp2_with fail
              go_roundw
              case rel => exact HST.out
              case measure => clear h39i hd39i; simp [intOf]; omega
            · have HSTP := Lib.hid (HX.out.stop HC39.out (by rw [HD.out]; exact hd39))
              have hd39i : ((d.toNat : Int) == 39) = false := byte_ne (a := 39) hd39
              clear hd39 a1 a2 a3 a4
              by_cases hl : 30 < acc.length
              · have hl' : (30 : Int) < (acc.length : Int) := by clear h39i hd39i; omega
                go_wp2_with fail
                refine bodyPost_ret (ret_tok4 rfl _ w.heap.size rfl _ _ _ _ _ (blkPut4 HB.out rfl _ _ _ _)) rfl ⟨?_, frPut4 HF.out (.inr (Nat.le_refl _)) _ _ _ _⟩
                rw [HSTP.out, if_pos hl]
                exact ⟨_, _, _, _, _, rfl⟩
              · have hl' : (acc.length : Int) ≤ 30 := by clear h39i hd39i; omega
                go_wp2_with fail
                refine bodyPost_ret (ret_tok4 rfl _ w.heap.size rfl _ _ _ _ _ (blkPut4 HB.out rfl _ _ _ _)) rfl ⟨?_, frPut4 HF.out (.inr (Nat.le_refl _)) _ _ _ _⟩
                rw [HSTP.out, if_neg hl]
                exact ⟨_, rfl⟩
          · have HSTP := Lib.hid (HX.out.stop HC39.out (by rw [at0_ge (by clear h39i; omega)]; decide))
            have h2i : (S.length : Int) ≤ (q : Int) + 1 := by clear h39i; omega
            have h2d : decide ((q : Int) + 1 < (S.length : Int)) = false := by simp; exact h2i
            clear a1 a2 a3 a4 h2
            by_cases hl : 30 < acc.length
            · have hl' : (30 : Int) < (acc.length : Int) := by clear h39i; omega
              go_wp2_with fail
              refine bodyPost_ret (ret_tok4 rfl _ w.heap.size rfl _ _ _ _ _ (blkPut4 HB.out rfl _ _ _ _)) rfl ⟨?_, frPut4 HF.out (.inr (Nat.le_refl _)) _ _ _ _⟩
              rw [HSTP.out, if_pos hl]
              exact ⟨_, _, _, _, _, rfl⟩
            · have hl' : (acc.length : Int) ≤ 30 := by clear h39i; omega
              go_wp2_with fail
              refine bodyPost_ret (ret_tok4 rfl _ w.heap.size rfl _ _ _ _ _ (blkPut4 HB.out rfl _ _ _ _)) rfl ⟨?_, frPut4 HF.out (.inr (Nat.le_refl _)) _ _ _ _⟩
              rw [HSTP.out, if_neg hl]
              exact ⟨_, rfl⟩
        · have HX2 := Lib.hid (HX.out.plain HG.out (by rw [HC.out]; exact h39))
          rw [HC.out] at HX2
          have hST := LtI.step (acc := acc) (acc' := acc ++ [c]) ((q : Int) + 1) (ByteArray.mk acc.toArray ++ (ByteArray.mk S.toArray).extract q (q + 1)) a1 (cat_list (A := acc) HE.out) a2 a3 (by rw [List.length_append]; exact a4) HX2.out HB.out HT.out HF.out
          have HST := Lib.hid hST
          clear hST a1 a2 a3 a4
          have hne39 : ((c.toNat : Int) == 39) = false := byte_ne (a := 39) h39
          clear h39
          go_wp2_with fail
          go_region
          go_wp2_with fail
          go_roundw
          case rel => exact HST.out.drew
          case measure => clear hne39; simp [intOf]; omega
    · obtain rfl : q = S.length := by omega
      have HBD : Hid (textM p S = .inl (S.length, 4)) := by
        have h := HX.out
        unfold Tx at h
        rw [Hid, textM, h, txt_bad (by rw [at0_ge (Nat.le_refl _)]; left; decide)]
        rfl
      go_wp2_with fail
      refine bodyPost_ret (ret_tok4 rfl _ w.heap.size rfl _ _ _ _ _ (blkPut4 HB.out rfl _ _ _ _)) rfl ⟨?_, frPut4 HF.out (.inr (Nat.le_refl _)) _ _ _ _⟩
      rw [HBD.out]
      exact ⟨_, _, _, _, _, rfl⟩
end Lx
end Go.Proofs.YtfpkcddnikgabaaDoor
