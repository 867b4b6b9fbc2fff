/- lex: the law LexTexts. -/
import Derived.Test.YtfpkcddnikgabaaDoorLexJ
namespace Go.Proofs.YtfpkcddnikgabaaDoor
open Go.RowKit

namespace Lx
open LexM (Tok)

/-- each mark twice -/
def quo : List UInt8 → List UInt8
  | [] => []
  | c :: r => if c = 39 then 39 :: 39 :: quo r else c :: quo r
theorem quo_snoc (l : List UInt8) (c : UInt8) : quo (l ++ [c]) = quo l ++ (if c = 39 then [39, 39] else [c]) := by
  induction l with
  | nil => simp only [List.nil_append, quo]
  | cons d r ih => simp only [List.cons_append, quo, ih]; split <;> rfl
theorem quo_len (l : List UInt8) : (quo l).length ≤ 2 * l.length := by
  induction l with
  | nil => simp [quo]
  | cons d r ih => simp only [quo]; split <;> simp only [List.length_cons] <;> omega
def good (c : UInt8) : Bool := decide (32 ≤ c.toNat) && decide (c.toNat ≤ 126)
theorem good_of {c : UInt8} (h : good c = true) : ¬ (c.toNat < 32 ∨ 126 < c.toNat) := by
  simp [good] at h; omega
theorem txt_quo : ∀ (s : List UInt8) (p : Nat), s.all good = true → LexM.txt p (quo s ++ [39]) = .inr (s, p + (quo s).length + 1)
  | [], p, _ => by simp only [quo, List.nil_append, LexM.txt]; rfl
  | c :: r, p, h => by
    simp only [List.all_cons, Bool.and_eq_true] at h
    have hc := good_of h.1
    by_cases h39 : c = 39
    · subst h39
      simp only [quo, if_pos, List.cons_append]
      unfold LexM.txt
      rw [if_neg hc, if_pos rfl]
      simp only [if_pos]
      rw [txt_quo r (p + 2) h.2]
      simp only [List.length_cons]
      congr 2
      omega
    · simp only [quo, if_neg h39, List.cons_append]
      unfold LexM.txt
      rw [if_neg hc, if_neg h39, txt_quo r (p + 1) h.2]
      simp only [List.length_cons]
      congr 2
      omega
theorem txt_quo_bad : ∀ (s : List UInt8) (c : UInt8) (r : List UInt8) (p : Nat), s.all good = true → good c = false → LexM.txt p (quo (s ++ c :: r) ++ [39]) = .inl (p + (quo s).length)
  | [], c, r, p, _, hc => by
    have h2 : c.toNat < 32 ∨ 126 < c.toNat := by simp [good] at hc; omega
    have h39 : ¬ c = 39 := fun h => by subst h; revert hc; decide
    simp only [List.nil_append, quo, if_neg h39, List.cons_append]
    unfold LexM.txt
    rw [if_pos h2]
    rfl
  | d :: s, c, r, p, h, hc => by
    simp only [List.all_cons, Bool.and_eq_true] at h
    have hd := good_of h.1
    by_cases h39 : d = 39
    · subst h39
      simp only [quo, if_pos, List.cons_append]
      unfold LexM.txt
      rw [if_neg hd, if_pos rfl]
      simp only [if_pos]
      rw [txt_quo_bad s c r (p + 2) h.2 hc]
      simp only [List.length_cons]
      congr 1
      omega
    · simp only [quo, if_neg h39, List.cons_append]
      unfold LexM.txt
      rw [if_neg hd, if_neg h39, txt_quo_bad s c r (p + 1) h.2 hc]
      simp only [List.length_cons]
      congr 1
      omega

/-- Lex of a text in its marks -/
theorem lex_quo {s : List UInt8} (hs : s.length ≤ 60) (h : s.all good = true) : LexM.lex (39 :: quo s ++ [39]) =
    (if 30 < s.length then .inl (0, 7) else .inr [⟨4, s, 0, 0⟩, ⟨6, [], 0, (39 :: quo s ++ [39]).length⟩]) := by
  have hl : (39 :: quo s ++ [39]).length ≤ 400 := by have := quo_len s; simp only [List.length_append, List.length_cons, List.length_nil]; omega
  have e0 : LexM.lex (39 :: quo s ++ [39]) = LS (39 :: quo s ++ [39]) 0 := if_neg (by omega)
  have ht : LexM.tok1 0 ((39 :: quo s ++ [39]).drop 0) = (if 30 < s.length then .inl (0, 7) else .inr (⟨4, s, 0, 0⟩, (39 :: quo s ++ [39]).length)) := by
    rw [List.drop_zero]
    show (match LexM.txt (0 + 1) (quo s ++ [39]) with | .inl q => Sum.inl (q, (4 : Int)) | .inr (l, q) => if 30 < l.length then .inl (0, 7) else Sum.inr ((⟨4, l, 0, 0⟩ : Tok), q)) = _
    rw [txt_quo s _ h]
    simp only [List.length_append, List.length_cons, List.length_nil]
    split
    · rfl
    · congr 2
      omega
  rw [e0, LS_tok (by simp) (by simp [at0])]
  rw [ht]
  by_cases h30 : 30 < s.length
  · rw [if_pos h30, if_pos h30]
  · rw [if_neg h30, if_neg h30]
    simp only []
    rw [LS_end]
theorem lex_quo_bad {s : List UInt8} {c : UInt8} {r : List UInt8} (hs : (s ++ c :: r).length ≤ 60) (h : s.all good = true) (hc : good c = false) : LexM.lex (39 :: quo (s ++ c :: r) ++ [39]) = .inl ((39 :: quo s).length, 4) := by
  have hl : (39 :: quo (s ++ c :: r) ++ [39]).length ≤ 400 := by have := quo_len (s ++ c :: r); rw [List.length_append, List.length_cons]; simp only [List.length_cons, List.length_nil]; omega
  have e0 : LexM.lex (39 :: quo (s ++ c :: r) ++ [39]) = LS (39 :: quo (s ++ c :: r) ++ [39]) 0 := if_neg (by omega)
  have ht : LexM.tok1 0 ((39 :: quo (s ++ c :: r) ++ [39]).drop 0) = .inl ((39 :: quo s).length, 4) := by
    rw [List.drop_zero]
    show (match LexM.txt (0 + 1) (quo (s ++ c :: r) ++ [39]) with | .inl q => Sum.inl (q, (4 : Int)) | .inr (l, q) => if 30 < l.length then .inl (0, 7) else Sum.inr ((⟨4, l, 0, 0⟩ : Tok), q)) = _
    rw [txt_quo_bad s c r _ h hc]
    simp only [List.length_cons]
    congr 2
    omega
  rw [e0, LS_tok (by simp) (by simp [at0])]
  rw [ht]

/-- what is told of the first byte that may not stand there -/
def BadAt (s : List UInt8) (k : Nat) (x : Int) : Prop := (x < 0 ∧ (s.take k).all good = true) ∨ ∃ a c r, s = a ++ c :: r ∧ a.all good = true ∧ good c = false ∧ x = ((39 :: quo a).length : Int)
theorem BadAt.ok {s : List UInt8} {k : Nat} {x : Int} (h : BadAt s k x) (hk : k < s.length) (hg : good s[k] = true) : BadAt s (k + 1) x := by
  rcases h with ⟨h1, h2⟩ | h
  · left
    refine ⟨h1, ?_⟩
    rw [List.take_succ_eq_append_getElem hk, List.all_append, h2]
    simp [hg]
  · exact .inr h
theorem BadAt.stays {s : List UInt8} {k j : Nat} {x : Int} (h : BadAt s k x) (hx : 0 ≤ x) : BadAt s j x := by
  rcases h with ⟨h1, h2⟩ | h
  · omega
  · exact .inr h
theorem BadAt.new {s : List UInt8} {k j : Nat} {x y : Int} (h : BadAt s k x) (hx : x < 0) (hk : k < s.length) (hg : good s[k] = false) (hy : y = ((39 :: quo (s.take k)).length : Int)) : BadAt s j y := by
  rcases h with ⟨h1, h2⟩ | ⟨a, c, r, h1, h2, h3, h4⟩
  · exact .inr ⟨s.take k, s[k], s.drop (k + 1), by rw [← List.drop_eq_getElem_cons hk, List.take_append_drop], h2, hg, hy⟩
  · omega

theorem quo_next {s : List UInt8} {k : Nat} {c : UInt8} (hk : k < s.length) (hc : s[k] = c) : 39 :: quo (s.take (k + 1)) = (39 :: quo (s.take k)) ++ (if c = 39 then [39, 39] else [c]) := by
  rw [List.take_succ_eq_append_getElem hk, hc, quo_snoc]; rfl
theorem ext_one {S : List UInt8} {k : Nat} {c : UInt8} (hk : k < S.length) (hc : S[k] = c) : ((ByteArray.mk S.toArray).extract k (k + 1)).data.toList = [c] := by
  rw [extract_eq, show k + 1 - k = 1 by omega, List.drop_eq_getElem_cons hk, hc]
  rfl

theorem app_list {tb X : ByteArray} {A B : List UInt8} (h : tb.data.toList = A) (h2 : X.data.toList = B) : (tb ++ X).data.toList = A ++ B := by
  rw [ByteArray.data_append, Array.toList_append, h, h2]
theorem size_list {tb : ByteArray} {A : List UInt8} (h : tb.data.toList = A) : (tb.size : Int) = (A.length : Int) := by
  rw [← h]; rfl

set_option maxHeartbeats 2000000 in
theorem texts_law (S : List UInt8) (w : World) (m : Int) (hm : w.cell? ⟨0, 0, none⟩ = some (.int .i64 m)) (h00 : 0 < w.heap.size) (hmx : S.length ≤ maxLen) :
    Calls Tryd.prog 5 #[.string ⟨S.toArray⟩] w fun e w' => e = .returned (.bool true) ∧ Fr [] w w' := by
  have HM := Lib.hid hm
  clear hm
  have hmx' : (S.length : Int) ≤ 9223372036854775807 := by unfold maxLen at hmx; omega
  clear hmx
  go_enter Tryd.func5, Tryd.ntmps5
  go_wp2_with fail
  refine (begun_any w m HM.out h00).mono ?_
  rintro e w1 ⟨rfl, hf1⟩
  have HF1 := Lib.hid hf1
  clear hf1
  by_cases h60 : 60 < S.length
  · have h60' : (60 : Int) < (S.length : Int) := by omega
    clear h60
    go_wp2_with fail
    go_ret
    exact ⟨rfl, HF1.out⟩
  have h60' : (S.length : Int) ≤ 60 := by omega
  go_wp2_with fail
  go_loop [3, 4, 5] (fun u3 u4 u5 => ∃ (k : Nat) (tb : ByteArray) (x : Int), k ≤ S.length ∧ u3 = .string tb ∧ u4 = .int .i64 x ∧ u5 = .int .i64 k ∧ Hid (tb.data.toList = 39 :: quo (S.take k)) ∧ Hid (BadAt S k x)) (fun _ _ i => S.length - (intOf i).toNat)
  case atStart => exact ⟨0, _, -1, by omega, rfl, rfl, rfl, by rfl, .inl ⟨by decide, rfl⟩⟩
  case round =>
    obtain ⟨k, tb, x, hk, rfl, rfl, rfl, HT, HB⟩ := hrel
    by_cases hlt : k < S.length
    · obtain ⟨c, hc⟩ : ∃ c, S[k] = c := ⟨_, rfl⟩
      have hix : (ByteArray.mk S.toArray)[k]'(show k < S.toArray.size by simpa using hlt) = c := by rw [← hc]; rfl
      have HC := Lib.hid hc
      have HE := Lib.hid (ext_one hlt hc)
      have HQ := Lib.hid (quo_next hlt hc)
      have hw1 : wrap64 ((k : Int) + 1) = (k : Int) + 1 := by unfold wrap64; omega
      have htb : tb.size ≤ 121 := by
        have h1 := size_list HT.out
        have h2 := quo_len (S.take k)
        rw [List.length_take] at h2
        rw [List.length_cons] at h1
        omega
      clear hc
      by_cases h39 : c = 39
      · have h39i : ((c.toNat : Int) == 39) = true := by rw [h39]; decide
        have hg : good c = true := by rw [h39]; decide
        have h1 : (32 : Int) ≤ c.toNat := by rw [h39]; decide
        have h2 : (c.toNat : Int) ≤ 126 := by rw [h39]; decide
        have HB2 : Hid (BadAt S (k + 1) x) := HB.out.ok hlt (by rw [HC.out]; exact hg)
        have HT2 : Hid ((tb ++ (ByteArray.mk S.toArray).extract k (k + 1) ++ ⟨#[39]⟩).data.toList = 39 :: quo (S.take (k + 1))) := by
          rw [Hid, HQ.out, if_pos h39, app_list (app_list HT.out HE.out) (show (ByteArray.mk #[39]).data.toList = [39] from rfl), h39]
          simp
        clear hg h39
        go_wp2_with fail
        go_round
        case rel => exact ⟨k + 1, _, x, hlt, rfl, rfl, by go_num, HT2, HB2⟩
        case measure => clear h39i; simp [intOf]; omega
      · have h39i : ((c.toNat : Int) == 39) = false := byte_ne (a := 39) h39
        have HT2 : Hid ((tb ++ (ByteArray.mk S.toArray).extract k (k + 1)).data.toList = 39 :: quo (S.take (k + 1))) := by
          rw [Hid, HQ.out, if_neg h39, app_list HT.out HE.out]
        clear h39
        cases hg : good c
        · rcases (by omega : x < 0 ∨ 0 ≤ x) with hx | hx
          · have HB2 : Hid (BadAt S (k + 1) (tb.size : Int)) := HB.out.new hx hlt (by rw [HC.out]; exact hg) (size_list HT.out)
            have hg' : (c.toNat : Int) < 32 ∨ ((32 : Int) ≤ c.toNat ∧ (126 : Int) < c.toNat) := by simp [good] at hg; omega
            clear hg
            rcases hg' with h1 | ⟨h1, h2⟩
            all_goals
              go_wp2_with fail
              go_round
              case rel => exact ⟨k + 1, _, _, hlt, rfl, rfl, by go_num, HT2, HB2⟩
              case measure => clear h39i; simp [intOf]; omega
          · have HB2 : Hid (BadAt S (k + 1) x) := HB.out.stays hx
            have hg' : (c.toNat : Int) < 32 ∨ ((32 : Int) ≤ c.toNat ∧ (126 : Int) < c.toNat) := by simp [good] at hg; omega
            clear hg
            rcases hg' with h1 | ⟨h1, h2⟩
            all_goals
              go_wp2_with fail
              go_round
              case rel => exact ⟨k + 1, _, _, hlt, rfl, rfl, by go_num, HT2, HB2⟩
              case measure => clear h39i; simp [intOf]; omega
        · have hg' := good_of hg
          have h1 : (32 : Int) ≤ c.toNat := by omega
          have h2 : (c.toNat : Int) ≤ 126 := by omega
          have HB2 : Hid (BadAt S (k + 1) x) := HB.out.ok hlt (by rw [HC.out]; exact hg)
          clear hg hg'
          go_wp2_with fail
          go_round
          case rel => exact ⟨k + 1, _, _, hlt, rfl, rfl, by go_num, HT2, HB2⟩
          case measure => clear h39i; simp [intOf]; omega
    · obtain rfl : k = S.length := by omega
      have ht : tb.data.toList = 39 :: quo S := by rw [HT.out, List.take_length]
      have htb : tb.size ≤ 121 := by
        have h1 := size_list ht
        have h2 := quo_len S
        rw [List.length_cons] at h1
        omega
      have hb : tb ++ ⟨#[39]⟩ = ⟨(39 :: quo S ++ [39]).toArray⟩ := bytes_ext (app_list ht rfl)
      have hl : (39 :: quo S ++ [39]).length ≤ 1000000 := by have := quo_len S; simp only [List.length_append, List.length_cons, List.length_nil]; omega
      have hlx := lex_any (39 :: quo S ++ [39]) w1 m ((HF1.out.cell h00 (by simp)).trans HM.out) (Nat.lt_of_lt_of_le h00 HF1.out.size) hl
      rw [← hb] at hlx
      have HLX := Lib.hid hlx
      clear hlx hb hl ht
      have h6 : S.length ≤ 60 := by omega
      go_wp2_with fail
      refine HLX.out.mono ?_
      intro e w2 hr
      rcases (by omega : 0 ≤ x ∨ x < 0) with hx | hx
      · rcases HB.out with ⟨h1, _⟩ | ⟨a, c, r, h1, h2, h3, h4⟩
        · omega
        · rw [h1] at h6
          have hL := lex_quo_bad h6 h2 h3
          rw [← h1] at hL
          obtain ⟨rfl, hf2⟩ := lex_bad hL hr
          have HF2 : Hid (Fr [] w w2) := HF1.out.trans hf2
          have heq : (((quo a).length : Int) + 1 == x) = true := by rw [h4, List.length_cons]; simp
          clear h1 h2 h3 h4 hL hr hf2 h6 HB HT HLX h60
          go_wp2_with fail
          go_ret
          exact ⟨rfl, HF2.out⟩
      · rcases HB.out with ⟨_, h2⟩ | ⟨a, c, r, h1, h2, h3, h4⟩
        · rw [List.take_length] at h2
          have hL := lex_quo h6 h2
          by_cases h30 : 30 < S.length
          · rw [if_pos h30] at hL
            have h30' : (30 : Int) < (S.length : Int) := by omega
            obtain ⟨rfl, hf2⟩ := lex_bad hL hr
            have HF2 : Hid (Fr [] w w2) := HF1.out.trans hf2
            clear h2 hL hr hf2 h6 HB HT HLX h60 h30
            go_wp2_with fail
            go_ret
            exact ⟨rfl, HF2.out⟩
          · rw [if_neg h30] at hL
            have h30' : (S.length : Int) ≤ 30 := by omega
            obtain ⟨g, off, cap, rfl, hcap, -, -, -, hcell, hf2⟩ := lex_good hL hr
            have HF2 : Hid (Fr [] w w2) := HF1.out.trans hf2
            have d0 : w2.cell? ⟨g, off, none⟩ = some (.int .i64 4) := hcell 0 _ rfl
            have d1 : w2.cell? ⟨g, off + 1, none⟩ = some (.string ⟨S.toArray⟩) := hcell 1 _ rfl
            clear h2 hL hr hf2 h6 HB HT HLX h60 h30 hcell
            go_wp2_with fail
            go_ret
            exact ⟨rfl, HF2.out⟩
        · rw [h4] at hx; omega
end Lx
end Go.Proofs.YtfpkcddnikgabaaDoor
