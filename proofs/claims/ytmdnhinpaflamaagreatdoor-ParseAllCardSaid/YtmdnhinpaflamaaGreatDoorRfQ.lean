/- The reader, step by step: how deep, how many words; more behind commas. No program in sight. -/
import Derived.Test.YtmdnhinpaflamaaGreatDoorRfP
namespace Go.Proofs.YtmdnhinpaflamaaGreatDoor
open Go.RowKit
set_option linter.unusedVariables false
set_option linter.unusedSimpArgs false
namespace Rf
open LexM (Tok)
open PM (B Ex Col It PS zeroTok wordy two un colEx opOr opAnd opSum opTerm opComp)
open CM (P)
/-- how deep it may be -/
structure Wd (s : PS) : Prop where
  d0 : 0 ≤ s.deep
  d65 : s.deep ≤ 65
  d64 : s.e = 0 → s.deep ≤ 64
/-- a step: no less deep where it failed, no more words -/
structure Dp (s s' : PS) : Prop where
  wd : Wd s'
  ge : s.deep ≤ s'.deep
  len : s'.l.length ≤ s.l.length
theorem Dp.refl {s : PS} (h : Wd s) : Dp s s := ⟨h, Int.le_refl _, Nat.le_refl _⟩
theorem Dp.trans {a b c : PS} (h : Dp a b) (k : Dp b c) : Dp a c := ⟨k.wd, Int.le_trans h.ge k.ge, Nat.le_trans k.len h.len⟩
theorem Dp.skip {s : PS} (h : Wd s) : Dp s (skip s) := ⟨⟨h.d0, h.d65, h.d64⟩, Int.le_refl _, tail_le _⟩
theorem Dp.failed {s : PS} (h : Wd s) (x : Int) : Dp s (failed x s) := by
  unfold Rf.failed
  split
  · rename_i h0
    exact ⟨⟨h.d0, h.d65, fun _ => h.d64 h0⟩, Int.le_refl _, Nat.le_refl _⟩
  · exact Dp.refl h
theorem Dp.took {s : PS} (h : Wd s) (w : B) : Dp s (took w s) := by
  unfold Rf.took
  split
  · exact Dp.skip h
  · exact Dp.refl h
theorem Dp.musted {s : PS} (h : Wd s) (w : B) : Dp s (musted w s) := by
  unfold Rf.musted
  split
  · exact Dp.skip h
  · exact Dp.failed h _
theorem Dp.worded {s : PS} (h : Wd s) (k : Int) : Dp s (worded k s) := by
  unfold Rf.worded
  split
  · exact Dp.failed h _
  · exact Dp.skip h
/-- what is read is a word fewer -/
theorem skip_lt {s : PS} {w : B} (h : taken w s = true) : (Rf.skip s).l.length < s.l.length := by
  obtain ⟨_, hi⟩ := taken_pos h
  show s.l.tail.length < s.l.length
  cases hl : s.l with
  | nil => rw [hl] at hi; exact absurd hi (by simp [CM.is, CM.now, wordy, zeroTok])
  | cons => simp
section
variable {α : Type}
theorem comma_nil (w : B) : CM.is w [] = false := by simp [CM.is, CM.now, wordy, zeroTok]
theorem more_fuel {one : P α} (h : Ng one) : ∀ (f g : Nat) (acc : List α) (l : List Tok), l.length ≤ f → l.length ≤ g → CM.more one f acc l = CM.more one g acc l
  | 0, 0, _, _, _, _ => rfl
  | 0, g + 1, acc, l, hf, _ => by
    have hl : l = [] := List.eq_nil_of_length_eq_zero (by omega)
    subst hl
    show CM.ret acc [] = (if CM.is [44] [] = true then CM.bnd one (fun x => CM.more one g (acc ++ [x])) [] else CM.ret acc [])
    rw [if_neg (by rw [comma_nil]; decide)]
  | f + 1, 0, acc, l, _, hg => by
    have hl : l = [] := List.eq_nil_of_length_eq_zero (by omega)
    subst hl
    show (if CM.is [44] [] = true then CM.bnd one (fun x => CM.more one f (acc ++ [x])) [] else CM.ret acc []) = CM.ret acc []
    rw [if_neg (by rw [comma_nil]; decide)]
  | f + 1, g + 1, acc, l, hf, hg => by
    show (if CM.is [44] l = true then CM.bnd one _ l.tail else CM.ret acc l) = (if CM.is [44] l = true then CM.bnd one _ l.tail else CM.ret acc l)
    by_cases hi : CM.is [44] l = true
    · rw [if_pos hi, if_pos hi]
      have ht : l.tail.length < l.length := by
        cases l with
        | nil => rw [comma_nil] at hi; cases hi
        | cons => simp
      unfold CM.bnd
      cases hx : one l.tail with
      | error e => rfl
      | ok r =>
        obtain ⟨y, l1⟩ := r
        have := h _ _ _ hx
        exact more_fuel h f g (acc ++ [y]) l1 (by omega) (by omega)
    · rw [if_neg hi, if_neg hi]
/-- as many as there are words -/
def moreL (one : P α) (acc : List α) : P (List α) := fun l => CM.more one l.length acc l
theorem moreL_none {one : P α} {acc : List α} {l : List Tok} (h : CM.is [44] l = false) : moreL one acc l = .ok (acc, l) := by
  unfold moreL
  cases l with
  | nil => rfl
  | cons t r =>
    show (if CM.is [44] (t :: r) = true then _ else CM.ret acc (t :: r)) = _
    rw [if_neg (by rw [h]; decide)]
    rfl
theorem moreL_some {one : P α} (hn : Ng one) {acc : List α} {l : List Tok} (h : CM.is [44] l = true) : moreL one acc l = CM.bnd one (fun x => moreL one (acc ++ [x])) l.tail := by
  cases l with
  | nil => rw [comma_nil] at h; cases h
  | cons t r =>
    show (if CM.is [44] (t :: r) = true then CM.bnd one (fun x => CM.more one r.length (acc ++ [x])) r else CM.ret acc (t :: r)) = CM.bnd one (fun x => moreL one (acc ++ [x])) r
    rw [if_pos h]
    unfold CM.bnd
    cases hx : one r with
    | error e => rfl
    | ok q =>
      obtain ⟨y, l1⟩ := q
      exact more_fuel hn _ _ _ _ (by have := hn _ _ _ hx; omega) (Nat.le_refl _)
theorem St.more_end {one : Int → P α} {acc : List α} {s : PS} (h : taken [44] s = false) : St (fun d => moreL (one d) acc) s acc s := by
  by_cases e0 : s.e = 0
  · refine ⟨fun e => absurd e0 e, fun _ => ?_⟩
    have hi : CM.is [44] s.l = false := by
      unfold taken at h
      rw [e0] at h
      simpa using h
    simp only [moreL_none hi]
    exact ⟨trivial, e0, trivial, trivial⟩
  · exact St.dead e0 acc
theorem St.more_next {one : Int → P α} (hn : ∀ d, Ng (one d)) {acc b : List α} {x : α} {s s2 s3 : PS} (ht : taken [44] s = true) (h1 : St one (Rf.skip s) x s2) (h2 : St (fun d => moreL (one d) (acc ++ [x])) s2 b s3) : St (fun d => moreL (one d) acc) s b s3 := by
  obtain ⟨e0, hi⟩ := taken_pos ht
  have k := (St.bnd (d := fun x d => moreL (one d) (acc ++ [x])) h1 h2).2 e0
  refine ⟨fun e => absurd e0 e, fun _ => ?_⟩
  simp only [moreL_some (hn _) hi]
  exact k
theorem list_L (one : P α) : CM.list one = CM.bnd one (fun x => moreL one [x]) := rfl
end
/-! ### one deeper -/
/-- what down does, where nothing has failed -/
def downed (s : PS) : PS := if s.deep = 64 then failed 6 { s with deep := s.deep + 1 } else { s with deep := s.deep + 1 }
def undeep (s : PS) : PS := { s with deep := s.deep - 1 }
theorem downed_dp {s : PS} (h : Wd s) (h0 : s.e = 0) : Dp s (downed s) := by
  have h1 := h.d0
  have h2 := h.d64 h0
  unfold downed failed
  split
  · exact ⟨⟨by show 0 ≤ s.deep + 1; omega, by show s.deep + 1 ≤ 65; omega, fun e => by cases e⟩, by show s.deep ≤ s.deep + 1; omega, Nat.le_refl _⟩
  · exact ⟨⟨by show 0 ≤ s.deep + 1; omega, by show s.deep + 1 ≤ 65; omega, fun e => by show s.deep + 1 ≤ 64; omega⟩, by show s.deep ≤ s.deep + 1; omega, Nat.le_refl _⟩
theorem nests_eq (sg : B) (inn : Int → P Ex) : CM.nests sg inn = fun d => if d = 64 then CM.err 6 else CM.bnd (CM.need sg) fun _ => inn (d + 1) := rfl
theorem St.deep_fail {sg : B} {inn : Int → P Ex} {s : PS} (h0 : s.e = 0) (hd : s.deep = 64) (a : Ex) : St (CM.nests sg inn) s a (downed s) := by
  rw [nests_eq]
  refine ⟨fun e => absurd h0 e, fun _ => ?_⟩
  unfold downed failed
  rw [if_pos hd, if_pos (show ({ s with deep := s.deep + 1 } : PS).e = 0 from h0)]
  simp only [hd, if_true]
  exact ⟨rfl, rfl, by decide⟩
theorem St.deep_ok {sg : B} {inn : Int → P Ex} {s s2 : PS} {a : Ex} (h0 : s.e = 0) (hd : s.deep ≠ 64) (hi : CM.is sg s.l = true) (h : St inn (Rf.skip (downed s)) a s2) : St (CM.nests sg inn) s a (undeep s2) := by
  rw [nests_eq]
  refine ⟨fun e => absurd h0 e, fun _ => ?_⟩
  have hds : downed s = { s with deep := s.deep + 1 } := by unfold downed; rw [if_neg hd]
  have hn : CM.need sg s.l = .ok ((), s.l.tail) := by
    unfold CM.need CM.opt
    rw [if_pos hi]
    rfl
  have k := h.2 (by rw [hds]; exact h0)
  rw [hds] at k
  have hx0 : inn (Rf.skip ({ s with deep := s.deep + 1 } : PS)).deep (Rf.skip ({ s with deep := s.deep + 1 } : PS)).l = inn (s.deep + 1) s.l.tail := rfl
  rw [hx0] at k
  simp only [if_neg hd]
  have hb : CM.bnd (CM.need sg) (fun _ => inn (s.deep + 1)) s.l = inn (s.deep + 1) s.l.tail := by unfold CM.bnd; rw [hn]
  rw [hb]
  cases hx : inn (s.deep + 1) s.l.tail with
  | error e =>
    obtain ⟨q, x⟩ := e
    rw [hx] at k
    exact k
  | ok r =>
    obtain ⟨a', l'⟩ := r
    rw [hx] at k
    have k4 : s2.deep = s.deep + 1 := k.2.2.2
    exact ⟨k.1, k.2.1, k.2.2.1, by show s2.deep - 1 = s.deep; omega⟩
theorem undeep_dp {s s2 : PS} (h : Wd s) (h0 : s.e = 0) (hd : s.deep ≠ 64) (k : Dp (Rf.skip (downed s)) s2) : Dp s (undeep s2) := by
  have hds : downed s = { s with deep := s.deep + 1 } := by unfold downed; rw [if_neg hd]
  rw [hds] at k
  have h1 := h.d0
  have k1 : s.deep + 1 ≤ s2.deep := k.ge
  have k2 := k.wd.d65
  have k3 : s2.l.length ≤ s.l.tail.length := k.len
  exact ⟨⟨by show 0 ≤ s2.deep - 1; omega, by show s2.deep - 1 ≤ 65; omega, fun e => by have := k.wd.d64 e; show s2.deep - 1 ≤ 64; omega⟩, by show s.deep ≤ s2.deep - 1; omega, Nat.le_trans k3 (tail_le _)⟩
theorem St.map {α β : Type} {c : Int → P α} {s s1 : PS} {a : α} (f : α → β) (h : St c s a s1) : St (fun d => CM.bnd (c d) fun a => CM.ret (f a)) s (f a) s1 := St.bnd (d := fun a _ => CM.ret (f a)) h (St.ret _ _)
theorem St.needs1 (w : B) (s : PS) : St (fun _ => CM.needs [w]) s () (musted w s) := St.bnd (d := fun _ _ => CM.ret ()) (St.must w s) (St.ret () _)
end Rf
end Go.Proofs.YtmdnhinpaflamaaGreatDoor
