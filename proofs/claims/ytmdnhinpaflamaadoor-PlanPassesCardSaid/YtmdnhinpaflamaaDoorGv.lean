/- Small things of a statement that is made: a door's name, tags, a where. -/
import Derived.Test.YtmdnhinpaflamaaDoorGaD
import Derived.Test.YtmdnhinpaflamaaDoorPlD
namespace Go.Proofs.YtmdnhinpaflamaaDoor
open Go.RowKit
set_option linter.unusedVariables false
namespace Gn
open PM (Ex B)
open Px (ItS itC kIt kTag)
open CM (Pr)
def OkN (n : B) : Prop := Pc.okName n = true ∧ n.length ≤ 2
def viewT (r : Nat) : B := match r with | 0 => [100] | 1 => [101] | 2 => [102] | _ => [103]
theorem view_get {r : Nat} (h : r < 4) : ([.string ⟨#[100]⟩, .string ⟨#[101]⟩, .string ⟨#[102]⟩, .string ⟨#[103]⟩] : List Value)[r]? = some (.string ⟨(viewT r).toArray⟩) := by
  rcases (by omega : r = 0 ∨ r = 1 ∨ r = 2 ∨ r = 3) with rfl | rfl | rfl | rfl <;> rfl
theorem view_ok (r : Nat) : OkN (viewT r) := by unfold viewT; split <;> exact ⟨by decide, by decide⟩
set_option maxRecDepth 100000 in
set_option maxHeartbeats 2000000 in
/-- view -/
theorem view_any {B M : Nat} (P : Nat) (w : World) (h : PK B M w P) :
    Calls Tryd.prog 46 #[.pointer (some ⟨P, 0, none⟩)] w fun e w' => ∃ nm : PM.B, e = .returned (.string ⟨nm.toArray⟩) ∧ OkN nm ∧ PK B M w' P ∧ Fr [some P] w w' := by
  have HK := Lib.hid h
  have hl := h.lt'
  have hle := h.le
  clear h
  go_enter Tryd.func46, Tryd.ntmps46
  go_wp2_with fail
  refine (num_any P 4 (by decide) (by decide) _ (HK.out.alloc _)).mono ?_
  rintro e w1 ⟨r, rfl, hr, hk1, hf1⟩
  have h5 := (Blk.new w 9 [.string ⟨#[100]⟩, .string ⟨#[101]⟩, .string ⟨#[102]⟩, .string ⟨#[103]⟩]).keep hf1 (by simp; omega)
  have hc5 := h5.cell r
  rw [view_get (by omega)] at hc5
  have HK1 := Lib.hid hk1
  have HF := Lib.hid (((Fr.refl [some P] w).alloc (.cells #[.string ⟨#[100]⟩, .string ⟨#[101]⟩, .string ⟨#[102]⟩, .string ⟨#[103]⟩] 9)).trans hf1)
  clear h5 hk1 hf1
  go_wp2_with fail
  go_ret
  exact ⟨viewT r, rfl, view_ok r, HK1.out, HF.out⟩
theorem info_u16 : (Tryd.prog.info? 103).map (fun i => (i.zero, i.size, i.bytes)) = some (some (.int .u16 0), 1, 2) := by kernel_rfl
set_option maxRecDepth 100000 in
set_option maxHeartbeats 2000000 in
/-- Tags -/
theorem tags_gen {B M : Nat} (P : Nat) (w : World) (h : PK B M w P) :
    Calls Tryd.prog 47 #[.pointer (some ⟨P, 0, none⟩)] w fun e w' => ∃ (l : List Nat) (v : Value), e = .returned v ∧ l.length ≤ 2 ∧ (∀ t ∈ l, t ≤ 3) ∧ Gr kTag 103 w.heap.size w' v (l.map CM.tagI) ∧ PK B M w' P ∧ Fr [some P] w w' := by
  have HK := Lib.hid h
  have hl := h.lt'
  have hle := h.le
  obtain ⟨i0, hi, hz0, hz1, hz2⟩ := info_parts info_u16
  clear h
  go_enter Tryd.func47, Tryd.ntmps47
  go_wp2_with fail
  refine (num_any P 3 (by decide) (by decide) _ HK.out).mono ?_
  rintro e w1 ⟨n, rfl, hn, hk1, hf1⟩
  have HK1 := Lib.hid hk1
  have HF1 := Lib.hid hf1
  clear hk1 hf1
  go_wp2_with fail
  go_loopw [3, 4] (fun v i wr => ∃ (k : Nat) (acc : List Nat), i = .int .i64 k ∧ k ≤ n ∧ acc.length + k ≤ 2 ∧ Hid (∀ t ∈ acc, t ≤ 3) ∧ Hid (Gr kTag 103 w.heap.size wr v (acc.map CM.tagI)) ∧ Hid (PK B M wr P) ∧ Hid (Fr [some P] w wr)) (fun _ i _ => (intOf i).toNat)
  case atStart => exact ⟨n, [], rfl, Nat.le_refl _, by simp; omega, Lib.hid (by simp), Lib.hid Gr.nil, HK1, HF1⟩
  case round =>
    obtain ⟨k, acc, rfl, hk, hacc, HT, HG, HK2, HF2⟩ := hrel
    by_cases hk0 : k = 0
    · subst hk0
      go_wp2_with fail
      go_ret
      exact ⟨acc, _, rfl, by omega, HT.out, HG.out, HK2.out, HF2.out⟩
    · have hk1 : (0 : Int) < k := by omega
      have hk3 : (k : Int) ≤ 2 := by omega
      go_wp2_with fail
      refine (num_any P 3 (by decide) (by decide) wr HK2.out).mono ?_
      rintro e w3 ⟨r, rfl, hr, hk3', hf3⟩
      have HK3 := Lib.hid hk3'
      have HF3 := Lib.hid (HF2.out.trans hf3)
      have HG3 := Lib.hid (HG.out.keep hf3 (fun g hg => by simp; omega))
      clear hk3' hf3
      have hsz := HF3.out.size
      obtain ⟨⟨cs, hRL, hROW⟩, hOWN⟩ := HG3.out
      have HRL := Lib.hid hRL
      have HROW := Lib.hid hROW
      have HOWN := Lib.hid hOWN
      rw [List.length_map] at hROW
      have HROW3 := Lib.hid (hROW.keep ((Fr.refl [] w3).alloc (.cells #[.int .u16 (1 + (r : Int))] 103)) (by simp))
      obtain ⟨hmx, hby⟩ := Px.lim96 (n := acc.length) (b := 2) (by omega) (by omega)
      clear hRL hROW hOWN HG3
      go_wp2_with (at_builtin; refine wpList_append_row rfl _ _ 61 rfl 103 i0 (.int .u16 0) 1 2 Tryd.underlying61 hi hz0 hz1 hz2 rfl (by decide) u3 acc.length cs rfl HROW3.out ⟨w3.heap.size, 0, none⟩ 1 1 [.int .u16 (1 + (r : Int))] rfl rfl ?c1 ?c2 hmx hby ?_)
      case c1 => exact Lx.four_new w3 103 [.int .u16 (1 + (r : Int))]
      case c2 => simp [Value.oneCell']
      intro v' w4 hr' hf' hb'
      have hx : kTag.E (fun b => w.heap.size ≤ b ∧ u3.ownBlock ≠ some b) w3 (CM.tagI (1 + r)) [.int .u16 (1 + (r : Int))] := by
        show [Value.int .u16 (1 + (r : Int))] = Px.u16C (CM.tagI (1 + r))
        simp [Px.u16C, CM.tagI]
      have hf0 := hf'
      obtain ⟨st1, st2⟩ := Gr.push (x := CM.tagI (1 + r)) HRL.out HROW.out HOWN.out (by omega) hx (by rw [List.length_map]; exact hr') hf' hb'
      have HG4 : Hid (Gr kTag 103 w.heap.size w4 v' ((acc ++ [1 + r]).map CM.tagI)) := Lib.hid (by simpa using st1)
      have HF4 : Hid (Fr [some P] w w4) := Lib.hid (st2 (Nat.le_refl _) HF3.out)
      have HK4 : Hid (PK B M w4 P) := Lib.hid ((HK3.out.alloc _).keep hf0 (fun g hg => by simp at hg; have := HOWN.out g hg.symm; omega))
      clear hr' hf' hb' st1 st2 HROW3 HRL HROW HOWN hx hf0
      go_wp2_with fail
      go_roundw
      case rel => exact ⟨k - 1, acc ++ [1 + r], by go_num, by omega, by simp; omega, Lib.hid (fun t ht => by simp at ht; rcases ht with h | h; exact HT.out t h; omega), HG4, HK4, HF4⟩
      case measure => simp only [intOf]; omega
set_option maxRecDepth 100000 in
set_option maxHeartbeats 2000000 in
/-- where -/
theorem where_gen {B C M : Nat} (P : Nat) (vc vk : Value) (l : List PM.It) (ks : List Int) (w : World) (h : PK B M w P) (hc : Cols C P w vc vk l ks) :
    Calls Tryd.prog 83 #[.pointer (some ⟨P, 0, none⟩), vc, vk] w fun e w' => ∃ (o : Option Pr) (v : Value), e = .returned v ∧ (∀ p, o = some p → Sz 6 p) ∧ Rep.Es 41 (fun g => w.heap.size ≤ g) w' (CM.whE o) v ∧ PK B M w' P ∧ Fr [some P] w w' := by
  have HK := Lib.hid h
  have HC := Lib.hid hc
  have hl := h.lt'
  have hle := h.le
  clear h hc
  go_enter Tryd.func83, Tryd.ntmps83
  go_wp2_with fail
  refine (num_any P 3 (by decide) (by decide) _ HK.out).mono ?_
  rintro e w1 ⟨n, rfl, hn, hk1, hf1⟩
  have HK1 := Lib.hid hk1
  have HF1 := Lib.hid hf1
  have HC1 := Lib.hid (HC.out.keep hf1 (by simp))
  have hs1 := hf1.size
  clear hk1 hf1
  by_cases h0 : (n : Int) = 0
  · go_wp2_with fail
    go_ret
    exact ⟨none, _, rfl, by simp, Rep.Es.nil, HK1.out, HF1.out⟩
  · go_wp2_with fail
    refine (expr_gen P vc vk l ks 6 3 0 (by decide) (by decide) (by decide) (.inr ⟨rfl, by decide⟩) w1 HK1.out HC1.out).mono ?_
    rintro e w2 ⟨⟨p, hsz, hx⟩, hk, hf⟩
    obtain ⟨po, pk, pi, pz, pt, pn, pa, pe, pc, rfl, hrep⟩ := Px.ex_cells hx
    have HREP := Lib.hid hrep
    have HSZ := Lib.hid hsz
    have HK2 := Lib.hid hk
    have HF2 := Lib.hid (HF1.out.trans hf)
    have hs2 := hf.size
    clear hk hf hx hrep hsz
    go_wp2_with fail
    go_ret
    refine ⟨some p, _, rfl, fun q hq => by cases hq; exact HSZ.out, ?_, HK2.out.alloc _, HF2.out.alloc _⟩
    have hL : Rep.L 41 (fun g => w.heap.size ≤ g) w2 [p.ex] ([.int .i64 po, .int .i64 pk, .int .i64 pi, .string ⟨pz.toArray⟩, .string ⟨pt.toArray⟩, .string ⟨pn.toArray⟩, .slice pa pe pc] ++ []) := .cons _ _ _ _ (Rep.E.mono (fun g hg => by omega) HREP.out) .nil
    rw [List.append_nil] at hL
    exact es_new hL (by omega) (by show 1 ≤ maxLen; simp [maxLen])
end Gn
end Go.Proofs.YtmdnhinpaflamaaDoor
