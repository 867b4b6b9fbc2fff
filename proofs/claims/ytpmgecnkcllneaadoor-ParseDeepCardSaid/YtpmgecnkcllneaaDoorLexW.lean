/- lex: while. -/
import Derived.Test.YtpmgecnkcllneaaDoorLexA
namespace Go.Proofs.YtpmgecnkcllneaaDoor
open Go.RowKit

namespace Lx
theorem bytes_ext {a b : ByteArray} (h : a.data.toList = b.data.toList) : a = b := by
  cases a; cases b; simp at h; subst h; rfl
theorem extract_eq (S : List UInt8) (p q : Nat) : (ByteArray.mk S.toArray).extract p q = ⟨((S.drop p).take (q - p)).toArray⟩ := by
  apply bytes_ext
  simp [ByteArray.data_extract, List.extract_eq_take_drop]

def StopAt (f : UInt8 → Bool) (S : List UInt8) (p q : Nat) : Prop := (S.drop p).takeWhile f = (S.drop p).take (q - p) ++ (S.drop q).takeWhile f
theorem StopAt.zero (f : UInt8 → Bool) (S : List UInt8) (p : Nat) : StopAt f S p p := by simp [StopAt]
theorem StopAt.next {f : UInt8 → Bool} {S : List UInt8} {p q : Nat} (h : StopAt f S p q) (h1 : p ≤ q) (h2 : q < S.length) (hf : f S[q] = true) : StopAt f S p (q + 1) := by
  unfold StopAt at *
  rw [h, List.drop_eq_getElem_cons h2, List.takeWhile_cons, if_pos hf, show q + 1 - p = q - p + 1 by omega, List.take_add_one]
  simp
  rw [show p + (q - p) = q by omega, List.getElem?_eq_getElem h2]
  simp
theorem StopAt.done {f : UInt8 → Bool} {S : List UInt8} {p q : Nat} (h : StopAt f S p q) (h1 : p ≤ q) (hl : q ≤ S.length) (h2 : q < S.length → f (at0 S q) = false) : (S.drop p).takeWhile f = (S.drop p).take (q - p) ∧ q = p + ((S.drop p).takeWhile f).length := by
  have he : (S.drop q).takeWhile f = [] := by
    by_cases hlt : q < S.length
    · rw [List.drop_eq_getElem_cons hlt, List.takeWhile_cons, if_neg]
      have := h2 hlt
      rw [at0_lt hlt] at this
      simp [this]
    · rw [List.drop_eq_nil_of_le (by omega)]; rfl
  unfold StopAt at h
  rw [he, List.append_nil] at h
  rw [h]
  exact ⟨rfl, by simp; omega⟩

theorem Rd.set {w : World} {R : Nat} {S : List UInt8} {p : Nat} (h : Rd w R S p) (q : Nat) : Rd (w.setCell ⟨R, 1, none⟩ (.int .i64 q)) R S q := by
  have := Blk.set h 1 (.int .i64 q)
  exact this
theorem Rd.keep {w w' : World} {R : Nat} {S : List UInt8} {p : Nat} {X : List (Option Nat)} (h : Rd w R S p) (hf : Fr X w w') (hn : some R ∉ X) : Rd w' R S p := Blk.keep h hf hn
theorem Rd.drewN {w : World} {R : Nat} {S : List UInt8} {p : Nat} (h : Rd w R S p) (n : Nat) : Rd (w.drewN n) R S p := h

set_option maxHeartbeats 1000000 in
theorem while_any (k : Nat) (f : UInt8 → Bool) (hrun : ∀ (v : Value) (w : World), Sem.run Tryd.prog (callFunc k #[v]) w = .ok (.enter k #[v]) w) (hk : ∀ (c : UInt8) (w : World), Calls Tryd.prog k #[.int .u8 (c.toNat : Int)] w fun e w' => e = .returned (.bool (f c)) ∧ w' = w)
    (R : Nat) (S : List UInt8) (p : Nat) (w : World) (hr : Rd w R S p) (hS : S.length ≤ 1000000) (hp : p ≤ S.length) :
    Calls Tryd.prog 27 #[.pointer (some ⟨R, 0, none⟩), .func (.func k) #[] #[]] w fun e w' =>
      e = .returned (.string ⟨((S.drop p).takeWhile f).toArray⟩) ∧ Rd w' R S (p + ((S.drop p).takeWhile f).length) ∧ Fr [some R] w w' := by
  have h0 := hr.c0
  have h1 := hr.c1
  have HR := Lib.hid hr
  have HK := Lib.hid hk
  have HS := Lib.hid hS
  have HRUN := Lib.hid hrun
  clear hr hk hS hrun
  go_enter Tryd.func27, Tryd.ntmps27
  go_wp2_with fail
  clear h0 h1
  go_loopw [] (fun wr => ∃ q : Nat, p ≤ q ∧ q ≤ S.length ∧ Hid (StopAt f S p q) ∧ Rd wr R S q ∧ Fr [some R] w wr) (fun wr => S.length - (intOf ((wr.cell? ⟨R, 1, none⟩).getD undef)).toNat)
  case atStart => exact ⟨p, by omega, hp, StopAt.zero f S p, HR.out, Fr.refl _ _⟩
  case round =>
    obtain ⟨q, hpq, hq, HT, hr, hfr⟩ := hrel
    have h0 := hr.c0
    have h1 := hr.c1
    have HQ := Lib.hid hr
    clear hr
    by_cases hlt : q < S.length
    · obtain ⟨c, hc⟩ : ∃ c, S[q] = c := ⟨_, rfl⟩
      have hc' : (ByteArray.mk S.toArray)[q]'(show q < S.toArray.size by simpa using hlt) = c := hc
      have hp0 : (q : Int) < (S.length : Int) := by omega
      have hd : decide ((q : Int) < (S.length : Int)) = true := by simp; omega
      cases hb : f c
      · have HD : Hid _ := HT.out.done hpq hq (fun h => by rw [at0_lt h, hc]; exact hb)
        have HKC := HK.out c
        rw [hb] at HKC
        replace HKC := Lib.hid HKC
        have HB := Lib.hid hb
        have HC := Lib.hid hc
        clear hb hc
        go_wp2_with fail
        go_quiet (first | (simp only [HRUN.out]; exact ⟨trivial, Calls.quiet_of_same (HKC.out _)⟩))
        go_wp2_with fail
        go_quiet (fail)
        go_wp2_with fail
        go_ret
        refine ⟨?_, ?_, (hfr.drewN _).drewN _⟩
        · obtain ⟨e1, e2⟩ := HD.out
          rw [e1, ← extract_eq]
          rfl
        · rw [← HD.out.2]; exact (HQ.out.drewN _).drewN _
      · have HN : Hid _ := HT.out.next hpq hlt (by rw [hc]; exact hb)
        have hfz := HQ.out.free 1
        have hw : wrap64 ((q : Int) + 1) = ((q + 1 : Nat) : Int) := by have := HS.out; unfold wrap64; omega
        have HKC := HK.out c
        rw [hb] at HKC
        replace HKC := Lib.hid HKC
        have HB := Lib.hid hb
        have HC := Lib.hid hc
        clear hb hc
        go_wp2_with fail
        go_quiet (first | (simp only [HRUN.out]; exact ⟨trivial, Calls.quiet_of_same (HKC.out _)⟩))
        go_wp2_with fail
        go_roundw
        case rel =>
          refine ⟨q + 1, by omega, by omega, HN.out, ?_, ?_⟩
          · have := (HQ.out.drewN nq).set (q + 1)
            exact this
          · exact (hfr.drewN _).setCell (.inl (by simp)) _
        case measure =>
          have : ((wr.drewN nq).setCell ⟨R, 1, none⟩ (.int .i64 ((q : Int) + 1))).cell? ⟨R, 1, none⟩ = some (.int .i64 ((q : Int) + 1)) := ((HQ.out.drewN nq).set (q + 1)).c1
          rw [h1, this]
          simp [intOf]
          omega
    · have HD : Hid _ := HT.out.done hpq hq (fun h => absurd h hlt)
      have hp0 : (S.length : Int) ≤ (q : Int) := by omega
      have hd : decide ((q : Int) < (S.length : Int)) = false := by simp; omega
      go_wp2_with fail
      go_quiet (fail)
      go_wp2_with fail
      go_quiet (fail)
      go_wp2_with fail
      go_ret
      refine ⟨?_, ?_, (hfr.drewN _).drewN _⟩
      · obtain ⟨e1, e2⟩ := HD.out
        rw [e1, ← extract_eq]
        rfl
      · rw [← HD.out.2]; exact (HQ.out.drewN _).drewN _
end Lx
end Go.Proofs.YtpmgecnkcllneaaDoor
