/- The document's two. -/
import Derived.Test.YtmdnhinpaflamaaDoorPnQ
namespace Go.Proofs.YtmdnhinpaflamaaDoor
open Go.RowKit
set_option linter.unusedVariables false
set_option linter.unusedSimpArgs false
namespace Pn
open PM (Ex B Col It)
open Gn (put3 frPut3 blkPut3 c3_of)
/-- a value, and an error -/
structure EvR (P : Int → Int → B → Int → Prop) (e : Ending) : Prop where
  ex : ∃ (k i : Int) (t : B) (x : Int), e = .returned (.tuple #[.agg #[.int .i64 k, .int .i64 i, .string ⟨t.toArray⟩], .int .i64 x]) ∧ P k i t x
theorem EvR.mono {P Q : Int → Int → B → Int → Prop} {e : Ending} (h : EvR P e) (hPQ : ∀ k i t x, P k i t x → Q k i t x) : EvR Q e := by
  obtain ⟨k, i, t, x, rfl, hp⟩ := h.ex
  exact ⟨k, i, t, x, rfl, hPQ _ _ _ _ hp⟩
/-- a value that may stand in memory -/
def Fine (i : Int) (t : B) : Prop := ok64 i = true ∧ t.length ≤ 1000
theorem ret_ev {fn : Func} {n m : Nat} (h : fn.results = #[.cell n 38, .tmp m]) (tmps : Array Value) (b : Nat) (h2 : tmps.getD n undef = .pointer (some ⟨b, 0, none⟩)) (v : Value) (h3 : tmps.getD m undef = v) (w : World) (a0 a1 a2 : Value) (hb : Blk w b 38 [a0, a1, a2]) :
    (results fn tmps).run Tryd.prog w = .ok (.tuple #[.agg #[a0, a1, a2], v]) w := by
  have c0 := hb.cell 0
  have c1 := hb.cell 1
  have c2 := hb.cell 2
  simp only [List.getElem?_cons_zero, List.getElem?_cons_succ] at c0 c1 c2
  have h2' : tmps[n]?.getD undef = .pointer (some ⟨b, 0, none⟩) := by simpa using h2
  have h3' : tmps[m]?.getD undef = v := by simpa using h3
  simp [results, h, h2', h3', go_sem, c0, c1, c2]
/-- what two returns -/
def TwoP (op ak ai bk bi : Int) (k i : Int) (t : B) (x : Int) : Prop := Fine i t ∧ (op = 8 → ak = 1 → bk = 1 → k = 3 ∧ i = (if ai = bi then 1 else 0) ∧ x = 0)
theorem truth_v (b : Bool) (w : World) :
    Calls Tryd.prog 81 #[.bool b] w fun e w' => (∃ v : Int, e = .returned (.agg #[.int .i64 3, .int .i64 v, .string ⟨#[]⟩]) ∧ Hid (v = if b then 1 else 0)) ∧ Fr [] w w' :=
  (truth_any b w).mono fun e w' ⟨h1, h2⟩ => ⟨⟨_, h1, Lib.hid rfl⟩, h2⟩
theorem zero_truth {r a b : Int} (h : r = 0 ↔ a = b) : (if (r == 0) = true then (1 : Int) else 0) = if a = b then 1 else 0 := by
  by_cases hz : a = b
  · rw [if_pos hz, if_pos (by simpa using h.2 hz)]
  · rw [if_neg hz, if_neg (by simpa using fun hh => hz (h.1 hh))]
theorem fine_truth (b : Bool) : Fine (if b then 1 else 0) [] := by cases b <;> exact ⟨by decide, Nat.zero_le _⟩
set_option maxRecDepth 1000000 in
set_option maxHeartbeats 4000000 in
theorem two_any (op ak ai bk bi : Int) (az bz : B) (h5 : 5 ≤ op) (h15 : op ≤ 15) (ha : Fine ai az) (hb : Fine bi bz) (w : World) :
    Calls Tryd.prog 82 #[.int .i64 op, .agg #[.int .i64 ak, .int .i64 ai, .string ⟨az.toArray⟩], .agg #[.int .i64 bk, .int .i64 bi, .string ⟨bz.toArray⟩]] w fun e w' => EvR (TwoP op ak ai bk bi) e ∧ Fr [] w w' := by
  have HF0 : Hid (Fr [] w (((w.alloc (.cells #[.int .i64 ak, .int .i64 ai, .string ⟨az.toArray⟩] 38)).alloc (.cells #[.int .i64 bk, .int .i64 bi, .string ⟨bz.toArray⟩] 38)).alloc (.cells #[.int .i64 0, .int .i64 0, .string ⟨#[]⟩] 38))) := Lib.hid (((Fr.refl [] w).alloc _).alloc _ |>.alloc _)
  have HA0 := Lib.hid (((Blk.new w 38 [.int .i64 ak, .int .i64 ai, .string ⟨az.toArray⟩]).alloc (.cells #[.int .i64 bk, .int .i64 bi, .string ⟨bz.toArray⟩] 38)).alloc (.cells #[.int .i64 0, .int .i64 0, .string ⟨#[]⟩] 38))
  have hb1 := (Blk.new (w.alloc (.cells #[.int .i64 ak, .int .i64 ai, .string ⟨az.toArray⟩] 38)) 38 [.int .i64 bk, .int .i64 bi, .string ⟨bz.toArray⟩]).alloc (.cells #[.int .i64 0, .int .i64 0, .string ⟨#[]⟩] 38)
  have hb2 := Blk.new ((w.alloc (.cells #[.int .i64 ak, .int .i64 ai, .string ⟨az.toArray⟩] 38)).alloc (.cells #[.int .i64 bk, .int .i64 bi, .string ⟨bz.toArray⟩] 38)) 38 [.int .i64 0, .int .i64 0, .string ⟨#[]⟩]
  rw [World.size_alloc] at hb1
  rw [World.size_alloc, World.size_alloc] at hb2
  have HB0 := Lib.hid hb1
  have HR0 := Lib.hid hb2
  clear hb1 hb2
  go_enter Tryd.func82, Tryd.ntmps82
  go_upto_region 1 with fail
  generalize ((w.alloc (.cells #[.int .i64 ak, .int .i64 ai, .string ⟨az.toArray⟩] 38)).alloc (.cells #[.int .i64 bk, .int .i64 bi, .string ⟨bz.toArray⟩] 38)).alloc (.cells #[.int .i64 0, .int .i64 0, .string ⟨#[]⟩] 38) = w0 at HF0 HA0 HB0 HR0 ⊢
  obtain ⟨a0, a1, a2, -, -, -⟩ := c3_of HA0.out
  obtain ⟨b0, b1, b2, -, -, -⟩ := c3_of HB0.out
  obtain ⟨v0, v1, v2, f0, f1, f2⟩ := c3_of HR0.out
  have hl0 := HA0.out.lt
  have hl1 := HB0.out.lt
  have hl2 := HR0.out.lt
  have HFA := Lib.hid ha
  have HFB := Lib.hid hb
  by_cases h14 : 14 ≤ op
  · go_wp2_with fail
    refine (truth_v _ _).mono ?_
    rintro e w2 ⟨⟨v, rfl, HV⟩, hf2⟩
    have HR2 := Lib.hid (HR0.out.keep hf2 (by simp))
    have HF2 := Lib.hid (HF0.out.trans hf2)
    have vv := c3_of HR2.out
    clear v0 v1 v2 f0 f1 f2
    obtain ⟨v0, v1, v2, f0, f1, f2⟩ := vv
    have hl3 := HR2.out.lt
    clear hf2
    go_wp2_with fail
    exact bodyPost_ret (ret_ev rfl _ (w.heap.size + 2) rfl _ rfl _ _ _ _ (blkPut3 HR2.out _ _ _)) rfl ⟨⟨3, v, [], 0, rfl, ⟨by rw [HV.out]; exact fine_truth _, fun h => by omega⟩⟩, frPut3 HF2.out (.inr (by omega)) _ _ _⟩
  by_cases h8 : 8 ≤ op
  · go_wp2_with fail
    refine (cvalue_any ak ai bk bi az bz HFA.out.2 HFB.out.2 _).mono ?_
    rintro e w1 ⟨⟨r, rfl, hr⟩, hf1⟩
    have HRR := Lib.hid hr
    have HR1 := Lib.hid (HR0.out.keep hf1 (by simp))
    have HF1 := Lib.hid (HF0.out.trans hf1)
    clear hf1 hr
    have hl4 := HR1.out.lt
    rcases (by omega : op = 8 ∨ op = 9 ∨ op = 10 ∨ op = 11 ∨ op = 12 ∨ op = 13) with rfl | rfl | rfl | rfl | rfl | rfl
    · go_wp2_with fail
      refine (truth_v _ _).mono ?_
      rintro e w2 ⟨⟨v, rfl, HV⟩, hf2⟩
      have hfz := ((Fr.refl [] w1).alloc _).trans hf2
      have HR2 := Lib.hid (HR1.out.keep hfz (by simp))
      have HF2 := Lib.hid (HF1.out.trans hfz)
      clear v0 v1 v2 f0 f1 f2 hf2 hfz
      obtain ⟨v0, v1, v2, f0, f1, f2⟩ := c3_of HR2.out
      have hl3 := HR2.out.lt
      go_wp2_with fail
      exact bodyPost_ret (ret_ev rfl _ (w.heap.size + 2) rfl _ rfl _ _ _ _ (blkPut3 HR2.out _ _ _)) rfl ⟨⟨3, v, [], 0, rfl, ⟨by rw [HV.out]; exact fine_truth _, fun _ h1 h2 => ⟨rfl, by rw [HV.out]; exact zero_truth (HRR.out h1 h2), rfl⟩⟩⟩, frPut3 HF2.out (.inr (by omega)) _ _ _⟩
    · go_wp2_with fail
      refine (truth_v _ _).mono ?_
      rintro e w2 ⟨⟨v, rfl, HV⟩, hf2⟩
      have hfz := ((Fr.refl [] w1).alloc _).trans hf2
      have HR2 := Lib.hid (HR1.out.keep hfz (by simp))
      have HF2 := Lib.hid (HF1.out.trans hfz)
      clear v0 v1 v2 f0 f1 f2 hf2 hfz
      obtain ⟨v0, v1, v2, f0, f1, f2⟩ := c3_of HR2.out
      have hl3 := HR2.out.lt
      go_wp2_with fail
      exact bodyPost_ret (ret_ev rfl _ (w.heap.size + 2) rfl _ rfl _ _ _ _ (blkPut3 HR2.out _ _ _)) rfl ⟨⟨3, v, [], 0, rfl, ⟨by rw [HV.out]; exact fine_truth _, fun h => absurd h (by decide)⟩⟩, frPut3 HF2.out (.inr (by omega)) _ _ _⟩
    · go_wp2_with fail
      refine (truth_v _ _).mono ?_
      rintro e w2 ⟨⟨v, rfl, HV⟩, hf2⟩
      have hfz := ((Fr.refl [] w1).alloc _).trans hf2
      have HR2 := Lib.hid (HR1.out.keep hfz (by simp))
      have HF2 := Lib.hid (HF1.out.trans hfz)
      clear v0 v1 v2 f0 f1 f2 hf2 hfz
      obtain ⟨v0, v1, v2, f0, f1, f2⟩ := c3_of HR2.out
      have hl3 := HR2.out.lt
      go_wp2_with fail
      exact bodyPost_ret (ret_ev rfl _ (w.heap.size + 2) rfl _ rfl _ _ _ _ (blkPut3 HR2.out _ _ _)) rfl ⟨⟨3, v, [], 0, rfl, ⟨by rw [HV.out]; exact fine_truth _, fun h => absurd h (by decide)⟩⟩, frPut3 HF2.out (.inr (by omega)) _ _ _⟩
    · go_wp2_with fail
      refine (truth_v _ _).mono ?_
      rintro e w2 ⟨⟨v, rfl, HV⟩, hf2⟩
      have hfz := ((Fr.refl [] w1).alloc _).trans hf2
      have HR2 := Lib.hid (HR1.out.keep hfz (by simp))
      have HF2 := Lib.hid (HF1.out.trans hfz)
      clear v0 v1 v2 f0 f1 f2 hf2 hfz
      obtain ⟨v0, v1, v2, f0, f1, f2⟩ := c3_of HR2.out
      have hl3 := HR2.out.lt
      go_wp2_with fail
      exact bodyPost_ret (ret_ev rfl _ (w.heap.size + 2) rfl _ rfl _ _ _ _ (blkPut3 HR2.out _ _ _)) rfl ⟨⟨3, v, [], 0, rfl, ⟨by rw [HV.out]; exact fine_truth _, fun h => absurd h (by decide)⟩⟩, frPut3 HF2.out (.inr (by omega)) _ _ _⟩
    · go_wp2_with fail
      refine (truth_v _ _).mono ?_
      rintro e w2 ⟨⟨v, rfl, HV⟩, hf2⟩
      have hfz := ((Fr.refl [] w1).alloc _).trans hf2
      have HR2 := Lib.hid (HR1.out.keep hfz (by simp))
      have HF2 := Lib.hid (HF1.out.trans hfz)
      clear v0 v1 v2 f0 f1 f2 hf2 hfz
      obtain ⟨v0, v1, v2, f0, f1, f2⟩ := c3_of HR2.out
      have hl3 := HR2.out.lt
      go_wp2_with fail
      exact bodyPost_ret (ret_ev rfl _ (w.heap.size + 2) rfl _ rfl _ _ _ _ (blkPut3 HR2.out _ _ _)) rfl ⟨⟨3, v, [], 0, rfl, ⟨by rw [HV.out]; exact fine_truth _, fun h => absurd h (by decide)⟩⟩, frPut3 HF2.out (.inr (by omega)) _ _ _⟩
    · go_wp2_with fail
      refine (truth_v _ _).mono ?_
      rintro e w2 ⟨⟨v, rfl, HV⟩, hf2⟩
      have hfz := ((Fr.refl [] w1).alloc _).trans hf2
      have HR2 := Lib.hid (HR1.out.keep hfz (by simp))
      have HF2 := Lib.hid (HF1.out.trans hfz)
      clear v0 v1 v2 f0 f1 f2 hf2 hfz
      obtain ⟨v0, v1, v2, f0, f1, f2⟩ := c3_of HR2.out
      have hl3 := HR2.out.lt
      go_wp2_with fail
      exact bodyPost_ret (ret_ev rfl _ (w.heap.size + 2) rfl _ rfl _ _ _ _ (blkPut3 HR2.out _ _ _)) rfl ⟨⟨3, v, [], 0, rfl, ⟨by rw [HV.out]; exact fine_truth _, fun h => absurd h (by decide)⟩⟩, frPut3 HF2.out (.inr (by omega)) _ _ _⟩
  by_cases h5 : op = 5
  · subst h5
    go_wp2_with fail
    refine (radd_any ai bi _ HFA.out.1 HFB.out.1).mono ?_
    rintro e w1 ⟨rfl, rfl⟩
    have hin := res_in (ai + bi)
    have HIN := Lib.hid hin
    clear hin
    generalize res (ai + bi) = rv at HIN ⊢
    generalize err (ai + bi) = xv
    by_cases hx : xv = 0
    · subst hx
      go_wp2_with fail
      exact bodyPost_ret (ret_ev rfl _ (w.heap.size + 2) rfl _ rfl _ _ _ _ (blkPut3 HR0.out _ _ _)) rfl ⟨⟨1, rv, [], 0, rfl, ⟨⟨HIN.out, Nat.zero_le _⟩, fun h => absurd h (by decide)⟩⟩, frPut3 HF0.out (.inr (by omega)) _ _ _⟩
    · go_wp2_with fail
      exact bodyPost_ret (ret_ev rfl _ (w.heap.size + 2) rfl _ rfl _ _ _ _ (blkPut3 HR0.out _ _ _)) rfl ⟨⟨0, 0, [], xv, rfl, ⟨⟨by decide, Nat.zero_le _⟩, fun h => absurd h (by decide)⟩⟩, frPut3 HF0.out (.inr (by omega)) _ _ _⟩
  by_cases h6 : op = 6
  · subst h6
    go_wp2_with fail
    refine (radd_any ai bi _ HFA.out.1 HFB.out.1).mono ?_
    rintro e w1 ⟨rfl, rfl⟩
    go_wp2_with fail
    refine (rsub_any ai bi _ HFA.out.1 HFB.out.1).mono ?_
    rintro e w1 ⟨rfl, rfl⟩
    have hin := res_in (ai - bi)
    have HIN := Lib.hid hin
    clear hin
    generalize res (ai - bi) = rv at HIN ⊢
    generalize err (ai - bi) = xv
    by_cases hx : xv = 0
    · subst hx
      go_wp2_with fail
      exact bodyPost_ret (ret_ev rfl _ (w.heap.size + 2) rfl _ rfl _ _ _ _ (blkPut3 HR0.out _ _ _)) rfl ⟨⟨1, rv, [], 0, rfl, ⟨⟨HIN.out, Nat.zero_le _⟩, fun h => absurd h (by decide)⟩⟩, frPut3 HF0.out (.inr (by omega)) _ _ _⟩
    · go_wp2_with fail
      exact bodyPost_ret (ret_ev rfl _ (w.heap.size + 2) rfl _ rfl _ _ _ _ (blkPut3 HR0.out _ _ _)) rfl ⟨⟨0, 0, [], xv, rfl, ⟨⟨by decide, Nat.zero_le _⟩, fun h => absurd h (by decide)⟩⟩, frPut3 HF0.out (.inr (by omega)) _ _ _⟩
  obtain rfl : op = 7 := by omega
  go_wp2_with fail
  refine (radd_any ai bi _ HFA.out.1 HFB.out.1).mono ?_
  rintro e w1 ⟨rfl, rfl⟩
  go_wp2_with fail
  refine (rmul_any ai bi _ HFA.out.1 HFB.out.1).mono ?_
  rintro e w1 ⟨rfl, rfl⟩
  have hin := res_in (ai * bi)
  have HIN := Lib.hid hin
  clear hin
  generalize res (ai * bi) = rv at HIN ⊢
  generalize err (ai * bi) = xv
  by_cases hx : xv = 0
  · subst hx
    go_wp2_with fail
    exact bodyPost_ret (ret_ev rfl _ (w.heap.size + 2) rfl _ rfl _ _ _ _ (blkPut3 HR0.out _ _ _)) rfl ⟨⟨1, rv, [], 0, rfl, ⟨⟨HIN.out, Nat.zero_le _⟩, fun h => absurd h (by decide)⟩⟩, frPut3 HF0.out (.inr (by omega)) _ _ _⟩
  · go_wp2_with fail
    exact bodyPost_ret (ret_ev rfl _ (w.heap.size + 2) rfl _ rfl _ _ _ _ (blkPut3 HR0.out _ _ _)) rfl ⟨⟨0, 0, [], xv, rfl, ⟨⟨by decide, Nat.zero_le _⟩, fun h => absurd h (by decide)⟩⟩, frPut3 HF0.out (.inr (by omega)) _ _ _⟩
end Pn
end Go.Proofs.YtmdnhinpaflamaaDoor
