/- lex: the law LexJoins, walked. -/
import Derived.Test.YtfpkcddnikgabaaDoorLexY
namespace Go.Proofs.YtfpkcddnikgabaaDoor
open Go.RowKit

namespace Lx
open LexM (Tok)

theorem cat_both (S T : List UInt8) : (ByteArray.mk S.toArray ++ ByteArray.mk #[32] ++ ByteArray.mk T.toArray : ByteArray) = ⟨(S ++ 32 :: T).toArray⟩ := by
  apply bytes_ext
  rw [ByteArray.data_append, ByteArray.data_append, Array.toList_append, Array.toList_append]
  simp
theorem tok_errpos {p q : Nat} {e : Int} {s : List UInt8} (h : LexM.tok1 p s = .inl (q, e)) : q ≤ p + s.length := by
  cases s with
  | nil => simp only [LexM.tok1, Sum.inl.injEq, Prod.mk.injEq] at h; omega
  | cons c r =>
    have h2 := LexM.takeWhile_len LexM.dig (c :: r)
    simp only [LexM.tok1] at h
    split at h
    · split at h
      · simp only [reduceCtorEq] at h
      · split at h
        · simp only [Sum.inl.injEq, Prod.mk.injEq] at h; omega
        · simp only [reduceCtorEq] at h
    · split at h
      · split at h
        · simp only [Sum.inl.injEq, Prod.mk.injEq] at h; omega
        · split at h
          · simp only [Sum.inl.injEq, Prod.mk.injEq] at h; omega
          · simp only [reduceCtorEq] at h
      · split at h
        · cases ht : LexM.txt (p + 1) r with
          | inl q' =>
            have := ((LexM.txt_bound r.length r (p + 1) (Nat.le_refl _)).1 q' ht).2
            rw [ht] at h
            simp only [Sum.inl.injEq, Prod.mk.injEq] at h
            rw [List.length_cons]
            omega
          | inr y =>
            obtain ⟨l, q'⟩ := y
            rw [ht] at h
            simp only [] at h
            split at h
            · simp only [Sum.inl.injEq, Prod.mk.injEq] at h; omega
            · simp only [reduceCtorEq] at h
        · split at h
          · split at h <;> simp only [reduceCtorEq] at h
          · simp only [Sum.inl.injEq, Prod.mk.injEq] at h; omega
theorem LS_errpos (S : List UInt8) : ∀ (n p q : Nat) (x : Int), p ≤ S.length → S.length - p = n → LS S p = .inl (q, x) → q ≤ S.length := by
  intro n
  induction n using Nat.strongRecOn with
  | ind n ih =>
    intro p q x hp hn h
    by_cases hlt : p < S.length
    · by_cases hb : at0 S p = 32
      · rw [LS_blank hlt hb] at h
        exact ih (S.length - (p + 1)) (by omega) (p + 1) q x (by omega) rfl h
      · rw [LS_tok hlt hb] at h
        cases ht : LexM.tok1 p (S.drop p) with
        | inl e =>
          rw [ht] at h
          obtain ⟨q', x'⟩ := e
          simp only [Sum.inl.injEq, Prod.mk.injEq] at h
          obtain ⟨rfl, rfl⟩ := h
          have := tok_errpos ht
          rw [List.length_drop] at this
          omega
        | inr y =>
          obtain ⟨t, r⟩ := y
          obtain ⟨h1, h2, _⟩ := tok_range hlt ht
          rw [ht] at h
          simp only [] at h
          cases hr : LS S r with
          | inl e =>
            rw [hr] at h
            simp only [Sum.inl.injEq] at h
            subst h
            exact ih (S.length - r) (by omega) r q x h2 rfl hr
          | inr l => rw [hr] at h; simp only [reduceCtorEq] at h
    · obtain rfl : p = S.length := by omega
      rw [LS_end] at h
      simp only [reduceCtorEq] at h
theorem lex_errpos {S : List UInt8} {q : Nat} {x : Int} (h : LexM.lex S = .inl (q, x)) : q ≤ 400 := by
  unfold LexM.lex at h
  split at h
  · simp only [Sum.inl.injEq, Prod.mk.injEq] at h; omega
  · have := LS_errpos S _ 0 q x (Nat.zero_le _) rfl h
    omega
theorem row_cells' {w : World} {g off cap n : Nat} {l : List Tok} (h : Row w 30 4 (.slice (some ⟨g, off, none⟩) n cap) n (toksC l)) {k : Nat} (hk : k < l.length) (i : Nat) (hi : i < 4) {u : Value} (hu : (tokC l[k])[i]? = some u) : w.cell? ⟨g, off + k * 4 + i, none⟩ = some u := by
  rw [show off + k * 4 + i = off + (4 * k + i) by omega]
  have hj : (toksC l)[4 * k + i]? = some u := (toksC_at hk i hi).trans hu
  rw [h.cells _ (List.getElem?_eq_some_iff.1 hj).1, List.getD_eq_getElem?_getD, hj]
  rfl
theorem int_same (a : Int) : (a == a) = true := beq_self_eq_true a

set_option maxRecDepth 100000 in
set_option maxHeartbeats 8000000 in
theorem joins_law (S T : List UInt8) (w : World) (m : Int) (hm : w.cell? ⟨0, 0, none⟩ = some (.int .i64 m)) (h00 : 0 < w.heap.size) (hS : S.length ≤ 140737488355328) (hT : T.length ≤ 140737488355328) :
    Calls Tryd.prog 4 #[.string ⟨S.toArray⟩, .string ⟨T.toArray⟩] w fun e w' => e = .returned (.bool true) ∧ Fr [] w w' := by
  have HM := Lib.hid hm
  clear hm
  have hSi : (S.length : Int) ≤ 140737488355328 := by omega
  have hTi : (T.length : Int) ≤ 140737488355328 := by omega
  clear hS hT
  go_enter Tryd.func4, Tryd.ntmps4
  go_wp2_with fail
  refine (begun_any w m HM.out h00).mono ?_
  rintro e w1 ⟨rfl, hf1⟩
  have HF1 := Lib.hid hf1
  clear hf1
  by_cases h400 : 400 ≤ S.length + T.length
  · have h4' : (400 : Int) ≤ (S.length : Int) + (T.length : Int) := by omega
    clear h400
    go_wp2_with fail
    go_ret
    exact ⟨rfl, HF1.out⟩
  have h4' : (S.length : Int) + (T.length : Int) < 400 := by omega
  have hlt : S.length + T.length < 400 := by omega
  have HLT := Lib.hid hlt
  have HL1 := Lib.hid (lex_any S w1 m ((HF1.out.cell h00 (by simp)).trans HM.out) (Nat.lt_of_lt_of_le h00 HF1.out.size) (by omega))
  clear h400 hlt
  go_wp2_with fail
  refine HL1.out.mono ?_
  intro e w2 hr1
  rcases hL1 : LexM.lex S with ⟨q, x⟩ | la
  · obtain ⟨rfl, hf2⟩ := lex_bad hL1 hr1
    have HF2 : Hid (Fr [] w w2) := HF1.out.trans hf2
    have hx0 : (x != 0) = true := by simpa using lex_err hL1
    have HL2 := Lib.hid (lex_any T w2 m ((HF2.out.cell h00 (by simp)).trans HM.out) (Nat.lt_of_lt_of_le h00 HF2.out.size) (by have := HLT.out; omega))
    have HQ := Lib.hid (lex_first HLT.out hL1)
    clear hr1 hf2 hL1 HL1
    go_wp2_with fail
    refine HL2.out.mono ?_
    intro e w3 hr2
    have h2 : ∃ v y z, e = .returned (.tuple #[v, .int .i64 y, .int .i64 z]) ∧ Fr [] w2 w3 := by
      rcases hL2 : LexM.lex T with ⟨q2, x2⟩ | lb
      · obtain ⟨rfl, hf⟩ := lex_bad hL2 hr2; exact ⟨_, _, _, rfl, hf⟩
      · obtain ⟨g, off, cap, rfl, -, -, -, -, -, hf⟩ := lex_good hL2 hr2; exact ⟨_, _, _, rfl, hf⟩
    obtain ⟨v2, y2, z2, rfl, hf3⟩ := h2
    have HF3 : Hid (Fr [] w w3) := HF2.out.trans hf3
    have hl3 := lex_any (S ++ 32 :: T) w3 m ((HF3.out.cell h00 (by simp)).trans HM.out) (Nat.lt_of_lt_of_le h00 HF3.out.size) (by have := HLT.out; simp; omega)
    rw [← cat_both] at hl3
    have HL3 := Lib.hid hl3
    clear hr2 hf3 hl3 HL2
    go_wp2_with fail
    refine HL3.out.mono ?_
    intro e w4 hr3
    by_cases hq : q = S.length
    · have hqi : ((q : Int) == (S.length : Int)) = true := by rw [hq]; exact int_same _
      have h3 : ∃ v y z, e = .returned (.tuple #[v, .int .i64 y, .int .i64 z]) ∧ Fr [] w3 w4 := by
        rcases hL3 : LexM.lex (S ++ 32 :: T) with ⟨q2, x2⟩ | lb
        · obtain ⟨rfl, hf⟩ := lex_bad hL3 hr3; exact ⟨_, _, _, rfl, hf⟩
        · obtain ⟨g, off, cap, rfl, -, -, -, -, -, hf⟩ := lex_good hL3 hr3; exact ⟨_, _, _, rfl, hf⟩
      obtain ⟨v3, y3, z3, rfl, hf4⟩ := h3
      have HF4 : Hid (Fr [] w w4) := HF3.out.trans hf4
      clear hr3 hf4 HL3 hq
      go_wp2_with fail
      go_ret
      exact ⟨rfl, HF4.out⟩
    · have hL3 : LexM.lex (S ++ 32 :: T) = .inl (q, x) := by
        rcases HQ.out with h | h
        · exact absurd h hq
        · exact h
      obtain ⟨rfl, hf4⟩ := lex_bad hL3 hr3
      have HF4 : Hid (Fr [] w w4) := HF3.out.trans hf4
      have hqi : ((q : Int) == (S.length : Int)) = false := by rw [beq_eq_false_iff_ne]; omega
      clear hr3 hf4 HL3 hq hL3
      go_wp2_with fail
      go_ret
      exact ⟨rfl, HF4.out⟩
  · obtain ⟨ga, oa, ca, he, hca, -, hga, hrowa, -, hf2⟩ := lex_good hL1 hr1
    obtain ⟨A, hA⟩ : ∃ A, la.length = A + 1 := by
      rcases hq : la.length with _ | A
      · exact absurd (List.eq_nil_of_length_eq_zero hq) (lex_ne hL1).1
      · exact ⟨A, rfl⟩
    have hA4 := (lex_ne hL1).2
    rw [hA] at he hca hrowa hA4
    have HA := Lib.hid hA
    subst he
    clear hA
    have HF2 : Hid (Fr [] w w2) := HF1.out.trans hf2
    have HL2 := Lib.hid (lex_any T w2 m ((HF2.out.cell h00 (by simp)).trans HM.out) (Nat.lt_of_lt_of_le h00 HF2.out.size) (by have := HLT.out; omega))
    have HLA := Lib.hid hL1
    have HROWA := Lib.hid hrowa
    clear hr1 hf2 hL1 HL1 hrowa
    go_wp2_with fail
    refine HL2.out.mono ?_
    intro e w3 hr2
    rcases hL2 : LexM.lex T with ⟨q, x⟩ | lb
    · obtain ⟨rfl, hf3⟩ := lex_bad hL2 hr2
      have HF3 : Hid (Fr [] w w3) := HF2.out.trans hf3
      have hx0 : (x != 0) = true := by simpa using lex_err hL2
      have HU := Lib.hid (lex_second HLT.out HLA.out hL2)
      have hq4 := lex_errpos hL2
      have hqi : (q : Int) ≤ 400 := by omega
      have hl3 := lex_any (S ++ 32 :: T) w3 m ((HF3.out.cell h00 (by simp)).trans HM.out) (Nat.lt_of_lt_of_le h00 HF3.out.size) (by have := HLT.out; simp; omega)
      rw [← cat_both] at hl3
      have HL3 := Lib.hid hl3
      clear hr2 hf3 hl3 HL2 hL2
      go_wp2_with fail
      refine HL3.out.mono ?_
      intro e w4 hr3
      obtain ⟨rfl, hf4⟩ := lex_bad HU.out hr3
      have HF4 : Hid (Fr [] w w4) := HF3.out.trans hf4
      clear hr3 hf4 HL3
      have heq : ((q : Int) + ((S.length : Int) + 1) == (q : Int) + (S.length : Int) + 1) = true := by rw [Int.add_assoc]; exact int_same _
      go_wp2_with fail
      go_ret
      exact ⟨rfl, HF4.out⟩
    · obtain ⟨gb, ob, cb, he, hcb, -, hgb, hrowb, -, hf3⟩ := lex_good hL2 hr2
      have HF3 : Hid (Fr [] w w3) := HF2.out.trans hf3
      have HU := Lib.hid (lex_both HLT.out HLA.out hL2)
      have HLB := Lib.hid hL2
      obtain ⟨hbn, hbl⟩ := lex_ne hL2
      have hb0 : 0 < lb.length := by
        rcases Nat.eq_zero_or_pos lb.length with h | h
        · exact absurd (List.eq_nil_of_length_eq_zero h) hbn
        · exact h
      have HROWB := Lib.hid hrowb
      have HROWA3 := Lib.hid (HROWA.out.keep hf3 (by simp))
      subst he
      have hl3 := lex_any (S ++ 32 :: T) w3 m ((HF3.out.cell h00 (by simp)).trans HM.out) (Nat.lt_of_lt_of_le h00 HF3.out.size) (by have := HLT.out; simp; omega)
      rw [← cat_both] at hl3
      have HL3 := Lib.hid hl3
      clear hr2 hf3 hl3 HL2 hL2 hrowb hbn
      go_wp2_with fail
      refine HL3.out.mono ?_
      intro e w4 hr3
      obtain ⟨gc, oc, cc, he, hcc, -, hgc, hrowc, -, hf4⟩ := lex_good HU.out hr3
      rw [joined_len HA.out] at he hcc hrowc
      have HF4 : Hid (Fr [] w w4) := HF3.out.trans hf4
      have HROWC := Lib.hid hrowc
      have HROWA4 := Lib.hid (HROWA3.out.keep hf4 (by simp))
      have HROWB4 := Lib.hid (HROWB.out.keep hf4 (by simp))
      subst he
      have hbi : 0 < (lb.length : Int) := by omega
      have hbi2 : (lb.length : Int) ≤ 401 := by omega
      have hai : (A : Int) ≤ 400 := by omega
      have f1 : ((A : Int) + 1 == 0) = false := by rw [beq_eq_false_iff_ne]; omega
      have f2 : ((lb.length : Int) == 0) = false := by rw [beq_eq_false_iff_ne]; omega
      have f3 : ((A : Int) + (lb.length : Int) != (A : Int) + 1 + (lb.length : Int) - 1) = false := by rw [bne_eq_false_iff_eq]; omega
      clear hr3 hf4 HL3 hrowc
      go_wp2_with fail
      clear f1 f2 f3
      go_loopw [14] (fun u wr => ∃ k : Nat, u = .int .i64 k ∧ k ≤ lb.length ∧ Hid (Fr [] w4 wr)) (fun u _ => lb.length - (intOf u).toNat)
      case atStart => exact ⟨0, rfl, Nat.zero_le _, Fr.refl _ _⟩
      case round =>
        obtain ⟨k, rfl, hk, HF⟩ := hrel
        by_cases hlt : k < lb.length
        · obtain ⟨t, ht⟩ : ∃ t, lb[k] = t := ⟨_, rfl⟩
          have hki : (k : Int) < (lb.length : Int) := by omega
          have hgc2 : gc < wr.heap.size := Nat.lt_of_lt_of_le hgc HF.out.size
          have hgcn : ¬ gc = wr.heap.size := Nat.ne_of_lt hgc2
          have hgcm : ¬ wr.heap.size = gc := fun h => hgcn h.symm
          have K1 := HROWB4.out.keep HF.out (by simp)
          have b0 := row_cells K1 hlt 0 (by omega) (by rw [ht]; rfl)
          have b1 := row_cells K1 hlt 1 (by omega) (by rw [ht]; rfl)
          have b2 := row_cells K1 hlt 2 (by omega) (by rw [ht]; rfl)
          have b3 := row_cells K1 hlt 3 (by omega) (by rw [ht]; rfl)
          simp only [Nat.add_zero] at b0
          clear K1
          have hpos : (t.pos : Int) ≤ 400 := by
            have := lex_pos HLB.out k hlt
            rw [ht] at this
            omega
          have hcl : A + k < (la.dropLast ++ lb.map (shT (S.length + 1))).length := by rw [joined_len HA.out]; omega
          have hct : (la.dropLast ++ lb.map (shT (S.length + 1)))[A + k]'hcl = ⟨t.kind, t.text, t.int, t.pos + (S.length + 1)⟩ := by
            rw [joined_at HA.out hlt hcl, ht]
            rfl
          have hcp : ((t.pos + (S.length + 1) : Nat) : Int) = (t.pos : Int) + (S.length : Int) + 1 := by omega
          have HCC : Hid (∃ h : A + k < (la.dropLast ++ lb.map (shT (S.length + 1))).length, (la.dropLast ++ lb.map (shT (S.length + 1)))[A + k]'h = ⟨t.kind, t.text, t.int, t.pos + (S.length + 1)⟩) := ⟨hcl, hct⟩
          have HCP := Lib.hid hcp
          clear hct hcp ht
          clear hcl
          go_wp2_with fail
          obtain ⟨wx, hwx⟩ : ∃ wx, wr.alloc (.cells #[.int .i64 t.kind, .string ⟨t.text.toArray⟩, .int .i64 t.int, .int .i64 ((t.pos : Int) + (S.length : Int) + 1)] 30) = wx := ⟨_, rfl⟩
          have hx := Blk.new wr 30 [.int .i64 t.kind, .string ⟨t.text.toArray⟩, .int .i64 t.int, .int .i64 ((t.pos : Int) + (S.length : Int) + 1)]
          rw [hwx]
          have hfx : Fr [] wr wx := by rw [← hwx]; exact (Fr.refl [] wr).alloc _
          have hbx : Blk wx wr.heap.size 30 [.int .i64 t.kind, .string ⟨t.text.toArray⟩, .int .i64 t.int, .int .i64 ((t.pos : Int) + (S.length : Int) + 1)] := by rw [← hwx]; exact hx
          have HFX : Hid (Fr [] w4 wx) := HF.out.trans hfx
          have x0 : wx.cell? ⟨wr.heap.size, 0, none⟩ = some (.int .i64 t.kind) := hbx.cell 0
          have x1 : wx.cell? ⟨wr.heap.size, 1, none⟩ = some (.string ⟨t.text.toArray⟩) := hbx.cell 1
          have x2 : wx.cell? ⟨wr.heap.size, 2, none⟩ = some (.int .i64 t.int) := hbx.cell 2
          have x3 : wx.cell? ⟨wr.heap.size, 3, none⟩ = some (.int .i64 ((t.pos : Int) + (S.length : Int) + 1)) := hbx.cell 3
          obtain ⟨hcl, hct⟩ := HCC.out
          have K3 := HROWC.out.keep HFX.out (by simp)
          have y0 := row_cells' K3 hcl 0 (by omega) (by rw [hct]; rfl)
          have y1 := row_cells' K3 hcl 1 (by omega) (by rw [hct]; rfl)
          have y2 := row_cells' K3 hcl 2 (by omega) (by rw [hct]; rfl)
          have y3 := row_cells' (u := .int .i64 ((t.pos : Int) + (S.length : Int) + 1)) K3 hcl 3 (by omega) (by rw [hct, ← HCP.out]; rfl)
          simp only [Nat.add_zero] at y0
          clear hct
          clear hcl hwx hx hfx hbx K3 b0 b1 b2 b3
          go_quiet (fail)
          go_wp2_with fail
          go_roundw
          case rel => exact ⟨k + 1, by go_num, hlt, HFX.out.drewN _⟩
          case measure => simp [intOf]; omega
        · have hki : (lb.length : Int) ≤ (k : Int) := by omega
          have hdf : decide ((k : Int) < (lb.length : Int)) = false := decide_eq_false (by omega)
          have hlen : (la.take A).length = A := by rw [List.length_take, HA.out]; omega
          have HSM : Hid (∀ n, Calls Tryd.prog 12 #[.slice (some ⟨gc, oc, none⟩) A cc, .slice (some ⟨ga, oa, none⟩) A ca] (wr.drewN n) fun e w' => e = .returned (.bool true) ∧ ∃ n, w' = wr.drewN n) := by
            intro n
            have ra := row_first (k := A) ((HROWA4.out.keep HF.out (by simp)).keep (Fr.drewN (Fr.refl [] wr) n) (by simp)) (Nat.le_succ A) hca HA.out
            have rc := row_first (k := A) ((HROWC.out.keep HF.out (by simp)).keep (Fr.drewN (Fr.refl [] wr) n) (by simp)) (Nat.le_add_right A _) hcc (joined_len HA.out)
            rw [joined_take HA.out] at rc
            have hs := same_q gc oc cc ga oa ca (la.take A) (wr.drewN n) rc ra (by rw [hlen]; omega)
            rw [hlen] at hs
            exact hs.mono fun e w' ⟨h1, n2, h2⟩ => ⟨h1, _, h2.trans (drewN_two _ _ _)⟩
          have hcci : (A : Int) ≤ (cc : Int) := by omega
          have hcai : (A : Int) ≤ (ca : Int) := by omega
          clear hlt hlen
          go_wp2_with fail
          go_quiet (exact HSM.out _)
          go_wp2_with fail
          go_ret
          exact ⟨rfl, (HF4.out.trans HF.out).drewN _⟩
end Lx
end Go.Proofs.YtfpkcddnikgabaaDoor
