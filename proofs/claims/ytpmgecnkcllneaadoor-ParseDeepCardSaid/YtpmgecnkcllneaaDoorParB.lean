/- parse: skips, needs, word, name, sign. -/
import Derived.Test.YtpmgecnkcllneaaDoorParA
namespace Go.Proofs.YtpmgecnkcllneaaDoor
open Go.RowKit

namespace Px
open LexM (Tok)
open PM (PS B)
open Lx (toksC tokC)

theorem is_kind {wd : B} {s : PS} (h : PM.is wd s = true) : s.now.kind ≠ 6 := by
  simp only [PM.is, PM.wordy, Bool.and_eq_true, Bool.or_eq_true, beq_iff_eq] at h
  rcases h.1.2 with h2 | h2 <;> rw [h2] <;> decide
theorem WF.two {s : PS} (h : WF s) (hk : s.now.kind ≠ 6) : 2 ≤ s.l.length := by
  obtain ⟨t, h1, h2⟩ := h
  obtain ⟨l, d, p, e⟩ := s
  cases l with
  | nil => cases h1
  | cons a r =>
    cases r with
    | nil =>
      simp only [List.getLast?_singleton, Option.some.injEq] at h1
      subst h1
      exact absurd h2 hk
    | cons b r => simp only [List.length_cons]; omega
/-- what skips leaves -/
def skipd (wd : B) (s : PS) : PS := if PM.is wd s then PM.skip s else s

set_option maxRecDepth 100000 in
set_option maxHeartbeats 1000000 in
theorem skips_any (P g : Nat) (s : PS) (wd : B) (w : World) (h : PR w P g s) :
    Calls Tryd.prog 30 #[.pointer (some ⟨P, 0, none⟩), .string ⟨wd.toArray⟩] w fun e w' => e = .returned (.bool (PM.is wd s)) ∧ PR w' P g (skipd wd s) ∧ Fr [some P] w w' := by
  obtain ⟨b, hb⟩ : ∃ b, PM.is wd s = b := ⟨_, rfl⟩
  rw [hb]
  have HP := Lib.hid h
  have HI := Lib.hid hb
  clear h hb
  go_enter Tryd.func30, Tryd.ntmps30
  go_wp2_with fail
  refine (is_any P g s wd w HP.out).mono ?_
  rintro e w1 ⟨rfl, h1, hf1⟩
  rw [HI.out]
  obtain ⟨off, cap, hat⟩ := h1.at
  obtain ⟨c0, c1, c2, c3, f0, f1, f2, f3, t0, t1, t2, t3, hcap, hpos, hlim⟩ := hat
  have H1 := Lib.hid h1
  have HF := Lib.hid (hf1.mono (S' := [some P]) (by simp))
  have HC0 := Lib.hid c0
  clear h1 hf1 c1 c2 c3 f1 f2 f3 t0 t1 t2 t3
  cases b
  · go_wp2_with fail
    go_ret
    refine ⟨rfl, ?_, HF.out⟩
    rw [skipd, HI.out]
    exact H1.out
  · have h2 := WF.two H1.out.wf (is_kind HI.out)
    have hpi : (1 : Int) < (s.l.length : Int) := by omega
    have hci : (s.l.length : Int) ≤ (cap : Int) := by omega
    have hc1 : ¬ cap = 1 := by omega
    go_wp2_with fail
    go_ret
    refine ⟨rfl, ?_, HF.out.trans (frSet _)⟩
    rw [skipd, HI.out]
    exact H1.out.setSkip HC0.out (is_kind HI.out)

set_option maxRecDepth 100000 in
set_option maxHeartbeats 1000000 in
theorem sign_any (P g : Nat) (s : PS) (w : World) (h : PR w P g s) :
    Calls Tryd.prog 67 #[.pointer (some ⟨P, 0, none⟩)] w fun e w' => e = .returned (.string ⟨(PM.sign s).toArray⟩) ∧ PR w' P g s ∧ Fr [] w w' := by
  obtain ⟨off, cap, hat⟩ := h.at
  obtain ⟨c0, c1, c2, c3, f0, f1, f2, f3, t0, t1, t2, t3, hcap, hpos, hlim⟩ := hat
  have hPl := h.lt
  have HP := Lib.hid h
  clear h f0 f1 f2 f3 c1 c2
  have hpi : (0 : Int) < (s.l.length : Int) := by omega
  have hne : ¬ P = w.heap.size := by omega
  have hne' : ¬ w.heap.size = P := by omega
  obtain ⟨e, he⟩ : ∃ e, s.e = e := ⟨_, rfl⟩
  obtain ⟨k, hk⟩ : ∃ k, s.now.kind = k := ⟨_, rfl⟩
  obtain ⟨t, ht⟩ : ∃ t, s.now.text = t := ⟨_, rfl⟩
  rw [he] at c3
  rw [hk] at t0
  rw [ht] at t1
  have hv : PM.sign s = if e == 0 && (k == 2 || k == 5) then t else [] := by rw [PM.sign, PM.wordy, he, hk, ht]
  rw [hv]
  clear hv hk he ht
  cases he0 : (e == 0)
  · go_enter Tryd.func67, Tryd.ntmps67
    go_wp2_with fail
    go_ret
    exact ⟨rfl, HP.out.alloc _, (Fr.refl [] w).alloc _⟩
  · cases hk2 : (k == 2)
    · cases hk5 : (k == 5)
      · go_enter Tryd.func67, Tryd.ntmps67
        go_wp2_with fail
        go_ret
        exact ⟨rfl, HP.out.alloc _, (Fr.refl [] w).alloc _⟩
      · go_enter Tryd.func67, Tryd.ntmps67
        go_wp2_with fail
        go_ret
        exact ⟨rfl, HP.out.alloc _, (Fr.refl [] w).alloc _⟩
    · go_enter Tryd.func67, Tryd.ntmps67
      go_wp2_with fail
      go_ret
      exact ⟨rfl, HP.out.alloc _, (Fr.refl [] w).alloc _⟩

/-- some words in a row -/
def Strs (w : World) (gs os : Nat) (l : List B) : Prop := ∀ j (hj : j < l.length), w.cell? ⟨gs, os + j, none⟩ = some (.string ⟨l[j].toArray⟩)
theorem needs_cons (l : List B) (k : Nat) (hk : k < l.length) (s : PS) : PM.needs (l.drop k) s = PM.needs (l.drop (k + 1)) (PM.need l[k] s) := by
  rw [List.drop_eq_getElem_cons hk, PM.needs]

set_option maxRecDepth 100000 in
set_option maxHeartbeats 1000000 in
theorem needs_any (P g : Nat) (s : PS) (l : List B) (gs os cap : Nat) (w : World) (h : PR w P g s) (hl : l.length ≤ 1000) (hs : Strs w gs os l) (hg : gs ≠ P) (hgl : gs < w.heap.size) :
    Calls Tryd.prog 32 #[.pointer (some ⟨P, 0, none⟩), .slice (some ⟨gs, os, none⟩) l.length cap] w fun e w' => e = .returned (.tuple #[]) ∧ PR w' P g (PM.needs l s) ∧ Fr [some P] w w' := by
  have HP := Lib.hid h
  have HS := Lib.hid hs
  have hli : (l.length : Int) ≤ 1000 := by omega
  clear h hs hl
  go_enter Tryd.func32, Tryd.ntmps32
  go_wp2_with fail
  go_loopw [8] (fun u wr => ∃ (k : Nat) (s' : PS), u = .int .i64 k ∧ k ≤ l.length ∧ Hid (PM.needs (l.drop k) s' = PM.needs l s) ∧ Hid (PR wr P g s') ∧ Hid (Fr [some P] w wr)) (fun u _ => l.length - (intOf u).toNat)
  case atStart => exact ⟨0, s, rfl, Nat.zero_le _, rfl, HP.out, Fr.refl _ _⟩
  case round =>
    obtain ⟨k, s', rfl, hk, HN, HR, HF⟩ := hrel
    by_cases hlt : k < l.length
    · have hki : (k : Int) < (l.length : Int) := by omega
      have hcell : wr.cell? ⟨gs, os + k, none⟩ = some (.string ⟨l[k].toArray⟩) := (HF.out.cell hgl (by simp; exact hg)).trans (HS.out k hlt)
      obtain ⟨wd, hwd⟩ : ∃ wd, l[k] = wd := ⟨_, rfl⟩
      rw [hwd] at hcell
      have HN2 : Hid (PM.needs (l.drop (k + 1)) (PM.need wd s') = PM.needs l s) := by
        have := HN.out
        rw [needs_cons l k hlt, hwd] at this
        exact this
      clear hwd
      go_wp2_with fail
      refine (skips_any P g s' wd wr HR.out).mono ?_
      rintro e w1 ⟨rfl, h1, hf1⟩
      cases hi : PM.is wd s'
      · have e1 : skipd wd s' = s' := by rw [skipd, hi]; rfl
        have e2 : PM.need wd s' = PM.fails 5 s' := by rw [PM.need, hi]; rfl
        rw [e1] at h1
        rw [e2] at HN2
        have HF1 : Hid (Fr [some P] w w1) := HF.out.trans hf1
        clear hi e1 e2 hf1
        go_wp2_with fail
        refine (fails_any P g s' 5 w1 h1).mono ?_
        rintro e w2 ⟨rfl, h2, hf2⟩
        have HF2 : Hid (Fr [some P] w w2) := HF1.out.trans hf2
        have H2 := Lib.hid h2
        clear hf2 h1 h2
        go_wp2_with fail
        go_roundw
        case rel => exact ⟨k + 1, _, by go_num, hlt, HN2, H2, HF2⟩
        case measure => simp [intOf]; omega
      · have e1 : skipd wd s' = PM.skip s' := by rw [skipd, hi]; rfl
        have e2 : PM.need wd s' = PM.skip s' := by rw [PM.need, hi]; rfl
        rw [e1] at h1
        rw [e2] at HN2
        have HF1 : Hid (Fr [some P] w w1) := HF.out.trans hf1
        have H1 := Lib.hid h1
        clear hi e1 e2 hf1 h1
        go_wp2_with fail
        go_roundw
        case rel => exact ⟨k + 1, _, by go_num, hlt, HN2, H1, HF1⟩
        case measure => simp [intOf]; omega
    · have hki : (l.length : Int) ≤ (k : Int) := by omega
      go_wp2_with fail
      go_end0
      have e : PM.needs l s = s' := by rw [← HN.out, List.drop_eq_nil_of_le (by omega)]; rfl
      rw [e]
      exact ⟨rfl, HR.out, HF.out⟩
end Px
end Go.Proofs.YtpmgecnkcllneaaDoor
