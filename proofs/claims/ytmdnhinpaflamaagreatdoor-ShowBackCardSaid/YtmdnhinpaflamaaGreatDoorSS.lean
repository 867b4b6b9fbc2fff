/- SameStmt: whether two statements are the same. -/
import Derived.Test.YtmdnhinpaflamaaGreatDoorShA
import Derived.Test.YtmdnhinpaflamaaGreatDoorPcF
import Derived.Test.YtmdnhinpaflamaaGreatDoorSeq3
import Derived.BigQuiet
import Derived.BigRegion
namespace Go.Proofs.YtmdnhinpaflamaaGreatDoor
open Go.RowKit
set_option linter.unusedVariables false
set_option linter.unusedSimpArgs false
namespace Sx
open PM (Ex B)
open Px (SR SS SL ItS TagS ColS)
def St0 : PM.St -> Int | .mk x _ _ _ _ _ _ _ _ _ _ _ _ => x
def St1 : PM.St -> B | .mk _ x _ _ _ _ _ _ _ _ _ _ _ => x
def St2 : PM.St -> B | .mk _ _ x _ _ _ _ _ _ _ _ _ _ => x
def St3 : PM.St -> List PM.Col | .mk _ _ _ x _ _ _ _ _ _ _ _ _ => x
def St4 : PM.St -> List Int | .mk _ _ _ _ x _ _ _ _ _ _ _ _ => x
def St5 : PM.St -> List Ex | .mk _ _ _ _ _ x _ _ _ _ _ _ _ => x
def St6 : PM.St -> List PM.It | .mk _ _ _ _ _ _ x _ _ _ _ _ _ => x
def St7 : PM.St -> B | .mk _ _ _ _ _ _ _ x _ _ _ _ _ => x
def St8 : PM.St -> List Ex | .mk _ _ _ _ _ _ _ _ x _ _ _ _ => x
def St9 : PM.St -> List Ex | .mk _ _ _ _ _ _ _ _ _ x _ _ _ => x
def St10 : PM.St -> List Ex | .mk _ _ _ _ _ _ _ _ _ _ x _ _ => x
def St11 : PM.St -> Bool | .mk _ _ _ _ _ _ _ _ _ _ _ x _ => x
def St12 : PM.St -> List PM.St | .mk _ _ _ _ _ _ _ _ _ _ _ _ x => x
def SameS (x : PM.St) : Prop := ∀ (y : PM.St) (A A' : Nat -> Prop) (w : World) (ca cb : List Value), SR A w x ca -> SR A' w y cb ->
 Calls Tryz.prog 11 #[.agg ca.toArray, .agg cb.toArray] w fun e w' => (∃ b, e = .returned (.bool b) /\ (b = true ↔ x = y)) /\ Fr [] w w'
theorem take_all {α : Type} {l m : List α} (h : l.take l.length = m.take l.length) (hm : l.length = m.length) : l = m := by
 rw [List.take_length, hm, List.take_length] at h
 exact h
theorem take_next {α : Type} {l m : List α} {k : Nat} (h : l.take k = m.take k) (hl : k < l.length) (hm : k < m.length) (hx : l[k] = m[k]) : l.take (k + 1) = m.take (k + 1) := by
 rw [List.take_succ_eq_append_getElem hl, List.take_succ_eq_append_getElem hm, h, hx]
theorem get_ne {α : Type} {l m : List α} {k : Nat} (hl : k < l.length) (hm : k < m.length) (hx : l[k] ≠ m[k]) : l ≠ m := by
 rintro rfl
 exact hx rfl
theorem str_ne {a b : B} (h : a ≠ b) : ((⟨a.toArray⟩ : ByteArray).toList == (⟨b.toArray⟩ : ByteArray).toList) = false := by
 rw [Lib.bytes_beq_false_iff]
 intro e
 apply h
 have e := congrArg ByteArray.data e
 simpa using e
set_option maxRecDepth 4000000 in
set_option maxHeartbeats 16000000 in
theorem same_sbody (kind : Int) (table name : B) (cols : List PM.Col) (tags : List Int) (values : List Ex) (items : List PM.It) (join : B) (on wher order : List Ex) (desc : Bool) (inner : List PM.St) (ih : ∀ x ∈ inner, SameS x) : SameS (.mk kind table name cols tags values items join on wher order desc inner) := by
  intro y A A' w ca cb ha hb
  obtain ⟨kind', table', name', cols', tags', values', items', join', on', wher', order', desc', inner'⟩ := y
  obtain ⟨a3, a4, a5, a6, a8, a9, a10, a12, l3, l4, l5, l6, l8, l9, l10, l12, c3, c4, c5, c6, c8, c9, c10, c12, rfl, p3, p4, p5, p6, p8, p9, p10, p12⟩ := Sh.sr_all ha
  obtain ⟨b3, b4, b5, b6, b8, b9, b10, b12, m3, m4, m5, m6, m8, m9, m10, m12, d3, d4, d5, d6, d8, d9, d10, d12, rfl, q3, q4, q5, q6, q8, q9, q10, q12⟩ := Sh.sr_all hb
  obtain ⟨x3, y3, z3⟩ := Sh.flat_form (cells := Px.colC) (size := 3) (fun _ => rfl) p3
  obtain ⟨x3', y3', z3'⟩ := Sh.flat_form (cells := Px.colC) (size := 3) (fun _ => rfl) q3
  have HZ3 := Hd (And.intro z3 z3')
  obtain ⟨x4, y4, z4⟩ := Sh.flat_form (cells := Px.u16C) (size := 1) (fun _ => rfl) p4
  obtain ⟨x4', y4', z4'⟩ := Sh.flat_form (cells := Px.u16C) (size := 1) (fun _ => rfl) q4
  have HZ4 := Hd (And.intro z4 z4')
  obtain ⟨x6, y6, z6⟩ := Sh.flat_form (cells := Px.itC) (size := 3) (fun _ => rfl) p6
  obtain ⟨x6', y6', z6'⟩ := Sh.flat_form (cells := Px.itC) (size := 3) (fun _ => rfl) q6
  have HZ6 := Hd (And.intro z6 z6')
  obtain ⟨x12, y12, z12⟩ := Sh.ss_at p12
  obtain ⟨x12', y12', z12'⟩ := Sh.ss_at q12
  have HZ12 := Hd (And.intro z12 z12')
  have IH := Hd ih
  have HE5 := Hd (And.intro p5 q5)
  have HE8 := Hd (And.intro p8 q8)
  have HE9 := Hd (And.intro p9 q9)
  have HE10 := Hd (And.intro p10 q10)
  subst x3 x4 x6 x12
  have HX3 := Hd x3'
  have HX4 := Hd x4'
  have HX6 := Hd x6'
  have HX12 := Hd x12'
  have hb3 : (cols.length : Int) <= 9223372036854775807 := by unfold maxLen at y3; omega
  have hb4 : (tags.length : Int) <= 9223372036854775807 := by unfold maxLen at y4; omega
  have hb6 : (items.length : Int) <= 9223372036854775807 := by unfold maxLen at y6; omega
  have hb12 : (inner.length : Int) <= 9223372036854775807 := by unfold maxLen at y12; omega
  have HB1 := Hd ((Blk.new w 29 [.int .i64 kind, .string ⟨table.toArray⟩, .string ⟨name.toArray⟩, .slice a3 cols.length c3, .slice a4 tags.length c4, .slice a5 l5 c5, .slice a6 items.length c6, .string ⟨join.toArray⟩, .slice a8 l8 c8, .slice a9 l9 c9, .slice a10 l10 c10, .bool desc, .slice a12 inner.length c12]).alloc (.cells #[.int .i64 kind', .string ⟨table'.toArray⟩, .string ⟨name'.toArray⟩, .slice b3 m3 d3, .slice b4 m4 d4, .slice b5 m5 d5, .slice b6 m6 d6, .string ⟨join'.toArray⟩, .slice b8 m8 d8, .slice b9 m9 d9, .slice b10 m10 d10, .bool desc', .slice b12 m12 d12] 29))
  have HB2 : Hid (Blk ((w.alloc (.cells #[.int .i64 kind, .string ⟨table.toArray⟩, .string ⟨name.toArray⟩, .slice a3 cols.length c3, .slice a4 tags.length c4, .slice a5 l5 c5, .slice a6 items.length c6, .string ⟨join.toArray⟩, .slice a8 l8 c8, .slice a9 l9 c9, .slice a10 l10 c10, .bool desc, .slice a12 inner.length c12] 29)).alloc (.cells #[.int .i64 kind', .string ⟨table'.toArray⟩, .string ⟨name'.toArray⟩, .slice b3 m3 d3, .slice b4 m4 d4, .slice b5 m5 d5, .slice b6 m6 d6, .string ⟨join'.toArray⟩, .slice b8 m8 d8, .slice b9 m9 d9, .slice b10 m10 d10, .bool desc', .slice b12 m12 d12] 29)) (w.heap.size + 1) 29 [.int .i64 kind', .string ⟨table'.toArray⟩, .string ⟨name'.toArray⟩, .slice b3 m3 d3, .slice b4 m4 d4, .slice b5 m5 d5, .slice b6 m6 d6, .string ⟨join'.toArray⟩, .slice b8 m8 d8, .slice b9 m9 d9, .slice b10 m10 d10, .bool desc', .slice b12 m12 d12]) := Hd (by have := Blk.new (w.alloc (.cells #[.int .i64 kind, .string ⟨table.toArray⟩, .string ⟨name.toArray⟩, .slice a3 cols.length c3, .slice a4 tags.length c4, .slice a5 l5 c5, .slice a6 items.length c6, .string ⟨join.toArray⟩, .slice a8 l8 c8, .slice a9 l9 c9, .slice a10 l10 c10, .bool desc, .slice a12 inner.length c12] 29)) 29 [.int .i64 kind', .string ⟨table'.toArray⟩, .string ⟨name'.toArray⟩, .slice b3 m3 d3, .slice b4 m4 d4, .slice b5 m5 d5, .slice b6 m6 d6, .string ⟨join'.toArray⟩, .slice b8 m8 d8, .slice b9 m9 d9, .slice b10 m10 d10, .bool desc', .slice b12 m12 d12]; rwa [World.size_alloc] at this)
  have HF0 : Hid (Fr [] w ((w.alloc (.cells #[.int .i64 kind, .string ⟨table.toArray⟩, .string ⟨name.toArray⟩, .slice a3 cols.length c3, .slice a4 tags.length c4, .slice a5 l5 c5, .slice a6 items.length c6, .string ⟨join.toArray⟩, .slice a8 l8 c8, .slice a9 l9 c9, .slice a10 l10 c10, .bool desc, .slice a12 inner.length c12] 29)).alloc (.cells #[.int .i64 kind', .string ⟨table'.toArray⟩, .string ⟨name'.toArray⟩, .slice b3 m3 d3, .slice b4 m4 d4, .slice b5 m5 d5, .slice b6 m6 d6, .string ⟨join'.toArray⟩, .slice b8 m8 d8, .slice b9 m9 d9, .slice b10 m10 d10, .bool desc', .slice b12 m12 d12] 29))) := Hd (((Fr.refl [] w).alloc _).alloc _)
  clear ha hb ih p3 p4 p5 p6 p8 p9 p10 p12 q3 q4 q5 q6 q8 q9 q10 q12 y3 y4 y6 y12 x3' x4' x6' x12' y3' y4' y6' y12' z3 z4 z6 z12 z3' z4' z6' z12'
  go_enter Tryz.func11, Tryz.ntmps11
  go_upto_region 1 with fail
  generalize (w.alloc (.cells #[.int .i64 kind, .string ⟨table.toArray⟩, .string ⟨name.toArray⟩, .slice a3 cols.length c3, .slice a4 tags.length c4, .slice a5 l5 c5, .slice a6 items.length c6, .string ⟨join.toArray⟩, .slice a8 l8 c8, .slice a9 l9 c9, .slice a10 l10 c10, .bool desc, .slice a12 inner.length c12] 29)).alloc (.cells #[.int .i64 kind', .string ⟨table'.toArray⟩, .string ⟨name'.toArray⟩, .slice b3 m3 d3, .slice b4 m4 d4, .slice b5 m5 d5, .slice b6 m6 d6, .string ⟨join'.toArray⟩, .slice b8 m8 d8, .slice b9 m9 d9, .slice b10 m10 d10, .bool desc', .slice b12 m12 d12] 29) = w0 at HB1 HB2 HF0 ⊢
  have e0 := HB1.out.cell 0
  have f0 := HB2.out.cell 0
  have e1 := HB1.out.cell 1
  have f1 := HB2.out.cell 1
  have e2 := HB1.out.cell 2
  have f2 := HB2.out.cell 2
  have e3 := HB1.out.cell 3
  have f3 := HB2.out.cell 3
  have e4 := HB1.out.cell 4
  have f4 := HB2.out.cell 4
  have e5 := HB1.out.cell 5
  have f5 := HB2.out.cell 5
  have e6 := HB1.out.cell 6
  have f6 := HB2.out.cell 6
  have e7 := HB1.out.cell 7
  have f7 := HB2.out.cell 7
  have e8 := HB1.out.cell 8
  have f8 := HB2.out.cell 8
  have e9 := HB1.out.cell 9
  have f9 := HB2.out.cell 9
  have e10 := HB1.out.cell 10
  have f10 := HB2.out.cell 10
  have e11 := HB1.out.cell 11
  have f11 := HB2.out.cell 11
  have e12 := HB1.out.cell 12
  have f12 := HB2.out.cell 12
  simp only [List.getElem?_cons_zero, List.getElem?_cons_succ] at e0 f0 e1 f1 e2 f2 e3 f3 e4 f4 e5 f5 e6 f6 e7 f7 e8 f8 e9 f9 e10 f10 e11 f11 e12 f12
  by_cases hne : kind = kind'
  case neg =>
    have hbq : (kind == kind') = false := beq_eq_false_iff_ne.2 hne
    clear IH HZ3 HZ4 HZ6 HZ12 HE5 HE8 HE9 HE10
    go_wp2_with fail
    all_goals first
      | (exfalso; omega)
      | (go_ret
         exact ⟨⟨false, rfl, ⟨fun h => (Bool.false_ne_true h).elim, fun h => (hne (congrArg St0 h)).elim⟩⟩, HF0.out⟩)
  subst hne
  by_cases hne : table = table'
  case neg =>
    have hbq : ((⟨table.toArray⟩ : ByteArray).toList == (⟨table'.toArray⟩ : ByteArray).toList) = false := str_ne hne
    clear IH HZ3 HZ4 HZ6 HZ12 HE5 HE8 HE9 HE10
    go_wp2_with fail
    all_goals first
      | (exfalso; omega)
      | (go_ret
         exact ⟨⟨false, rfl, ⟨fun h => (Bool.false_ne_true h).elim, fun h => (hne (congrArg St1 h)).elim⟩⟩, HF0.out⟩)
  subst hne
  by_cases hne : name = name'
  case neg =>
    have hbq : ((⟨name.toArray⟩ : ByteArray).toList == (⟨name'.toArray⟩ : ByteArray).toList) = false := str_ne hne
    clear IH HZ3 HZ4 HZ6 HZ12 HE5 HE8 HE9 HE10
    go_wp2_with fail
    all_goals first
      | (exfalso; omega)
      | (go_ret
         exact ⟨⟨false, rfl, ⟨fun h => (Bool.false_ne_true h).elim, fun h => (hne (congrArg St2 h)).elim⟩⟩, HF0.out⟩)
  subst hne
  by_cases hne : join = join'
  case neg =>
    have hbq : ((⟨join.toArray⟩ : ByteArray).toList == (⟨join'.toArray⟩ : ByteArray).toList) = false := str_ne hne
    clear IH HZ3 HZ4 HZ6 HZ12 HE5 HE8 HE9 HE10
    go_wp2_with fail
    all_goals first
      | (exfalso; omega)
      | (go_ret
         exact ⟨⟨false, rfl, ⟨fun h => (Bool.false_ne_true h).elim, fun h => (hne (congrArg St7 h)).elim⟩⟩, HF0.out⟩)
  subst hne
  by_cases hne : desc = desc'
  case neg =>
    have hbq : (desc == desc') = false := beq_eq_false_iff_ne.2 hne
    clear IH HZ3 HZ4 HZ6 HZ12 HE5 HE8 HE9 HE10
    go_wp2_with fail
    all_goals first
      | (exfalso; omega)
      | (go_ret
         exact ⟨⟨false, rfl, ⟨fun h => (Bool.false_ne_true h).elim, fun h => (hne (congrArg St11 h)).elim⟩⟩, HF0.out⟩)
  subst hne
  by_cases hne : cols.length = m3
  case neg =>
    have hbq : ((cols.length : Int) == (m3 : Int)) = false := beq_eq_false_iff_ne.2 (by omega)
    clear IH HZ3 HZ4 HZ6 HZ12 HE5 HE8 HE9 HE10
    go_wp2_with fail
    all_goals first
      | (exfalso; omega)
      | (go_ret
         exact ⟨⟨false, rfl, ⟨fun h => (Bool.false_ne_true h).elim, fun h => (hne (by rw [show cols = cols' from congrArg St3 h]; exact HX3.out.symm)).elim⟩⟩, HF0.out⟩)
  subst hne
  by_cases hne : tags.length = m4
  case neg =>
    have hbq : ((tags.length : Int) == (m4 : Int)) = false := beq_eq_false_iff_ne.2 (by omega)
    clear IH HZ3 HZ4 HZ6 HZ12 HE5 HE8 HE9 HE10
    go_wp2_with fail
    all_goals first
      | (exfalso; omega)
      | (go_ret
         exact ⟨⟨false, rfl, ⟨fun h => (Bool.false_ne_true h).elim, fun h => (hne (by rw [show tags = tags' from congrArg St4 h]; exact HX4.out.symm)).elim⟩⟩, HF0.out⟩)
  subst hne
  by_cases hne : items.length = m6
  case neg =>
    have hbq : ((items.length : Int) == (m6 : Int)) = false := beq_eq_false_iff_ne.2 (by omega)
    clear IH HZ3 HZ4 HZ6 HZ12 HE5 HE8 HE9 HE10
    go_wp2_with fail
    all_goals first
      | (exfalso; omega)
      | (go_ret
         exact ⟨⟨false, rfl, ⟨fun h => (Bool.false_ne_true h).elim, fun h => (hne (by rw [show items = items' from congrArg St6 h]; exact HX6.out.symm)).elim⟩⟩, HF0.out⟩)
  subst hne
  by_cases hne : inner.length = m12
  case neg =>
    have hbq : ((inner.length : Int) == (m12 : Int)) = false := beq_eq_false_iff_ne.2 (by omega)
    clear IH HZ3 HZ4 HZ6 HZ12 HE5 HE8 HE9 HE10
    go_wp2_with fail
    all_goals first
      | (exfalso; omega)
      | (go_ret
         exact ⟨⟨false, rfl, ⟨fun h => (Bool.false_ne_true h).elim, fun h => (hne (by rw [show inner = inner' from congrArg St12 h]; exact HX12.out.symm)).elim⟩⟩, HF0.out⟩)
  subst hne
  go_wp2_with fail
  clear e0 f0 e1 f1 e2 f2 e3 f3 e4 f4 e5 f5 e6 f6 e7 f7 e8 f8 e9 f9 e10 f10 e11 f11 e12 f12
  go_loopw [5] (fun u w3 => ∃ k : Nat, u = .int .i64 k /\ k <= cols.length /\ Hid (cols.take k = cols'.take k) /\ Hid (Fr [] w0 w3)) (fun u _ => cols.length - (intOf u).toNat)
  case atStart => exact ⟨0, rfl, Nat.zero_le _, Hd rfl, Hd (Fr.refl [] w0)⟩
  case round =>
    obtain ⟨k, rfl, hk, HT3, HF3⟩ := hrel
    have e3 := (HB1.out.keep HF3.out (by simp)).cell 3
    have f3 := (HB2.out.keep HF3.out (by simp)).cell 3
    simp only [List.getElem?_cons_zero, List.getElem?_cons_succ] at e3 f3
    have hl1 := (HB1.out.keep HF3.out (by simp)).lt
    have hl2 := (HB2.out.keep HF3.out (by simp)).lt
    by_cases hlt : k < cols.length
    · have hki : (k : Int) < (cols.length : Int) := by omega
      have hlt' : k < cols'.length := by have := HX3.out; omega
      have H1 := Hd (HZ3.out.1 k hlt)
      have H2 := Hd (HZ3.out.2 k hlt')
      obtain ⟨t, ht⟩ : ∃ t, cols[k] = t := ⟨_, rfl⟩
      obtain ⟨t', ht'⟩ : ∃ t, cols'[k] = t := ⟨_, rfl⟩
      rw [ht] at H1
      rw [ht'] at H2
      have HNE : Hid (t ≠ t' -> cols ≠ cols') := Hd (fun h => get_ne hlt hlt' (by rw [ht, ht']; exact h))
      have HEQ : Hid (t = t' -> cols.take (k + 1) = cols'.take (k + 1)) := Hd (fun h => take_next HT3.out hlt hlt' (by rw [ht, ht']; exact h))
      obtain ⟨g, off, rfl, -, hg, hc, hz⟩ := H1.out
      obtain ⟨g', off', rfl, -, hg', hc', hz'⟩ := H2.out
      have z0 := ((HF0.out.trans HF3.out).cell (p := ⟨g, off + k * 3, none⟩) hg (by simp)).trans (hz 0 _ rfl)
      have z0' := ((HF0.out.trans HF3.out).cell (p := ⟨g', off' + k * 3, none⟩) hg' (by simp)).trans (hz' 0 _ rfl)
      have z1 := ((HF0.out.trans HF3.out).cell (p := ⟨g, off + k * 3 + 1, none⟩) hg (by simp)).trans (hz 1 _ rfl)
      have z1' := ((HF0.out.trans HF3.out).cell (p := ⟨g', off' + k * 3 + 1, none⟩) hg' (by simp)).trans (hz' 1 _ rfl)
      have z2 := ((HF0.out.trans HF3.out).cell (p := ⟨g, off + k * 3 + 2, none⟩) hg (by simp)).trans (hz 2 _ rfl)
      have z2' := ((HF0.out.trans HF3.out).cell (p := ⟨g', off' + k * 3 + 2, none⟩) hg' (by simp)).trans (hz' 2 _ rfl)
      have hgw := Nat.lt_of_lt_of_le hg (HF0.out.trans HF3.out).size
      have hgw' := Nat.lt_of_lt_of_le hg' (HF0.out.trans HF3.out).size
      have hci : (cols.length : Int) <= c3 := by omega
      have hdi : (cols.length : Int) <= d3 := by have := HX3.out; omega
      clear hz hz' H1 H2 ht ht' hc hc'
      obtain ⟨n, q, r⟩ := t
      obtain ⟨n', q', r'⟩ := t'
      by_cases hne : n = n'
      case neg =>
        have hbq : ((⟨n.toArray⟩ : ByteArray).toList == (⟨n'.toArray⟩ : ByteArray).toList) = false := str_ne hne
        go_wp2_with fail
        go_quiet (fail)
        go_wp2_with fail
        all_goals first
          | (exfalso; omega)
          | (go_ret
             refine ⟨⟨false, rfl, ⟨fun h => (Bool.false_ne_true h).elim, fun h => (HNE.out (fun h => ?_) (congrArg St3 h)).elim⟩⟩, HF0.out.trans (HF3.out.drewN _)⟩
             injection h; contradiction)
      subst hne
      by_cases hne : q = q'
      case neg =>
        have hbq : (q == q') = false := beq_eq_false_iff_ne.2 hne
        go_wp2_with fail
        go_quiet (fail)
        go_wp2_with fail
        all_goals first
          | (exfalso; omega)
          | (go_ret
             refine ⟨⟨false, rfl, ⟨fun h => (Bool.false_ne_true h).elim, fun h => (HNE.out (fun h => ?_) (congrArg St3 h)).elim⟩⟩, HF0.out.trans (HF3.out.drewN _)⟩
             injection h; contradiction)
      subst hne
      by_cases hne : r = r'
      case neg =>
        have hbq : ((⟨r.toArray⟩ : ByteArray).toList == (⟨r'.toArray⟩ : ByteArray).toList) = false := str_ne hne
        go_wp2_with fail
        go_quiet (fail)
        go_wp2_with fail
        all_goals first
          | (exfalso; omega)
          | (go_ret
             refine ⟨⟨false, rfl, ⟨fun h => (Bool.false_ne_true h).elim, fun h => (HNE.out (fun h => ?_) (congrArg St3 h)).elim⟩⟩, HF0.out.trans (HF3.out.drewN _)⟩
             injection h; contradiction)
      subst hne
      go_wp2_with fail
      go_quiet (fail)
      go_wp2_with fail
      go_roundw
      case rel => exact ⟨k + 1, by go_num, hlt, Hd (HEQ.out (by first | rfl | trivial)), Hd (HF3.out.drewN _)⟩
      case measure => simp [intOf]; omega
    · have hki : (cols.length : Int) <= (k : Int) := by omega
      obtain rfl : k = cols.length := by omega
      have HQ3 : Hid (cols = cols') := Hd (take_all HT3.out HX3.out)
      go_wp2_with fail
      clear hl1 hl2 e3 f3
      clear hki hlt hk HT3
      go_loopw [6] (fun u w4 => ∃ k : Nat, u = .int .i64 k /\ k <= tags.length /\ Hid (tags.take k = tags'.take k) /\ Hid (Fr [] w0 w4)) (fun u _ => tags.length - (intOf u).toNat)
      case atStart => exact ⟨0, rfl, Nat.zero_le _, Hd rfl, Hd (HF3.out)⟩
      case round =>
        obtain ⟨k, rfl, hk, HT4, HF4⟩ := hrel
        have e4 := (HB1.out.keep HF4.out (by simp)).cell 4
        have f4 := (HB2.out.keep HF4.out (by simp)).cell 4
        simp only [List.getElem?_cons_zero, List.getElem?_cons_succ] at e4 f4
        have hl1 := (HB1.out.keep HF4.out (by simp)).lt
        have hl2 := (HB2.out.keep HF4.out (by simp)).lt
        by_cases hlt : k < tags.length
        · have hki : (k : Int) < (tags.length : Int) := by omega
          have hlt' : k < tags'.length := by have := HX4.out; omega
          have H1 := Hd (HZ4.out.1 k hlt)
          have H2 := Hd (HZ4.out.2 k hlt')
          obtain ⟨t, ht⟩ : ∃ t, tags[k] = t := ⟨_, rfl⟩
          obtain ⟨t', ht'⟩ : ∃ t, tags'[k] = t := ⟨_, rfl⟩
          rw [ht] at H1
          rw [ht'] at H2
          have HNE : Hid (t ≠ t' -> tags ≠ tags') := Hd (fun h => get_ne hlt hlt' (by rw [ht, ht']; exact h))
          have HEQ : Hid (t = t' -> tags.take (k + 1) = tags'.take (k + 1)) := Hd (fun h => take_next HT4.out hlt hlt' (by rw [ht, ht']; exact h))
          obtain ⟨g, off, rfl, -, hg, hc, hz⟩ := H1.out
          obtain ⟨g', off', rfl, -, hg', hc', hz'⟩ := H2.out
          have z0 := ((HF0.out.trans HF4.out).cell (p := ⟨g, off + k * 1, none⟩) hg (by simp)).trans (hz 0 _ rfl)
          have z0' := ((HF0.out.trans HF4.out).cell (p := ⟨g', off' + k * 1, none⟩) hg' (by simp)).trans (hz' 0 _ rfl)
          simp only [Nat.mul_one] at z0 z0'
          have hgw := Nat.lt_of_lt_of_le hg (HF0.out.trans HF4.out).size
          have hgw' := Nat.lt_of_lt_of_le hg' (HF0.out.trans HF4.out).size
          have hci : (tags.length : Int) <= c4 := by omega
          have hdi : (tags.length : Int) <= d4 := by have := HX4.out; omega
          clear hz hz' H1 H2 ht ht' hc hc'
          by_cases hne : t = t'
          case neg =>
            have hbq : (t == t') = false := beq_eq_false_iff_ne.2 hne
            go_wp2_with fail
            go_quiet (fail)
            go_wp2_with fail
            all_goals first
              | (exfalso; omega)
              | (go_ret
                 refine ⟨⟨false, rfl, ⟨fun h => (Bool.false_ne_true h).elim, fun h => (HNE.out (fun h => ?_) (congrArg St4 h)).elim⟩⟩, HF0.out.trans (HF4.out.drewN _)⟩
                 exact hne h)
          subst hne
          go_wp2_with fail
          go_quiet (fail)
          go_wp2_with fail
          go_roundw
          case rel => exact ⟨k + 1, by go_num, hlt, Hd (HEQ.out (by first | rfl | trivial)), Hd (HF4.out.drewN _)⟩
          case measure => simp [intOf]; omega
        · have hki : (tags.length : Int) <= (k : Int) := by omega
          obtain rfl : k = tags.length := by omega
          have HQ4 : Hid (tags = tags') := Hd (take_all HT4.out HX4.out)
          go_wp2_with fail
          clear hl1 hl2 e4 f4
          clear hki hlt hk HT4
          go_loopw [7] (fun u w6 => ∃ k : Nat, u = .int .i64 k /\ k <= items.length /\ Hid (items.take k = items'.take k) /\ Hid (Fr [] w0 w6)) (fun u _ => items.length - (intOf u).toNat)
          case atStart => exact ⟨0, rfl, Nat.zero_le _, Hd rfl, Hd (HF4.out)⟩
          case round =>
            obtain ⟨k, rfl, hk, HT6, HF6⟩ := hrel
            have e6 := (HB1.out.keep HF6.out (by simp)).cell 6
            have f6 := (HB2.out.keep HF6.out (by simp)).cell 6
            simp only [List.getElem?_cons_zero, List.getElem?_cons_succ] at e6 f6
            have hl1 := (HB1.out.keep HF6.out (by simp)).lt
            have hl2 := (HB2.out.keep HF6.out (by simp)).lt
            by_cases hlt : k < items.length
            · have hki : (k : Int) < (items.length : Int) := by omega
              have hlt' : k < items'.length := by have := HX6.out; omega
              have H1 := Hd (HZ6.out.1 k hlt)
              have H2 := Hd (HZ6.out.2 k hlt')
              obtain ⟨t, ht⟩ : ∃ t, items[k] = t := ⟨_, rfl⟩
              obtain ⟨t', ht'⟩ : ∃ t, items'[k] = t := ⟨_, rfl⟩
              rw [ht] at H1
              rw [ht'] at H2
              have HNE : Hid (t ≠ t' -> items ≠ items') := Hd (fun h => get_ne hlt hlt' (by rw [ht, ht']; exact h))
              have HEQ : Hid (t = t' -> items.take (k + 1) = items'.take (k + 1)) := Hd (fun h => take_next HT6.out hlt hlt' (by rw [ht, ht']; exact h))
              obtain ⟨g, off, rfl, -, hg, hc, hz⟩ := H1.out
              obtain ⟨g', off', rfl, -, hg', hc', hz'⟩ := H2.out
              have z0 := ((HF0.out.trans HF6.out).cell (p := ⟨g, off + k * 3, none⟩) hg (by simp)).trans (hz 0 _ rfl)
              have z0' := ((HF0.out.trans HF6.out).cell (p := ⟨g', off' + k * 3, none⟩) hg' (by simp)).trans (hz' 0 _ rfl)
              have z1 := ((HF0.out.trans HF6.out).cell (p := ⟨g, off + k * 3 + 1, none⟩) hg (by simp)).trans (hz 1 _ rfl)
              have z1' := ((HF0.out.trans HF6.out).cell (p := ⟨g', off' + k * 3 + 1, none⟩) hg' (by simp)).trans (hz' 1 _ rfl)
              have z2 := ((HF0.out.trans HF6.out).cell (p := ⟨g, off + k * 3 + 2, none⟩) hg (by simp)).trans (hz 2 _ rfl)
              have z2' := ((HF0.out.trans HF6.out).cell (p := ⟨g', off' + k * 3 + 2, none⟩) hg' (by simp)).trans (hz' 2 _ rfl)
              have hgw := Nat.lt_of_lt_of_le hg (HF0.out.trans HF6.out).size
              have hgw' := Nat.lt_of_lt_of_le hg' (HF0.out.trans HF6.out).size
              have hci : (items.length : Int) <= c6 := by omega
              have hdi : (items.length : Int) <= d6 := by have := HX6.out; omega
              clear hz hz' H1 H2 ht ht' hc hc'
              obtain ⟨n, q, r⟩ := t
              obtain ⟨n', q', r'⟩ := t'
              by_cases hne : n = n'
              case neg =>
                have hbq : (n == n') = false := beq_eq_false_iff_ne.2 hne
                go_wp2_with fail
                go_quiet (fail)
                go_wp2_with fail
                all_goals first
                  | (exfalso; omega)
                  | (go_ret
                     refine ⟨⟨false, rfl, ⟨fun h => (Bool.false_ne_true h).elim, fun h => (HNE.out (fun h => ?_) (congrArg St6 h)).elim⟩⟩, HF0.out.trans (HF6.out.drewN _)⟩
                     injection h; contradiction)
              subst hne
              by_cases hne : q = q'
              case neg =>
                have hbq : ((⟨q.toArray⟩ : ByteArray).toList == (⟨q'.toArray⟩ : ByteArray).toList) = false := str_ne hne
                go_wp2_with fail
                go_quiet (fail)
                go_wp2_with fail
                all_goals first
                  | (exfalso; omega)
                  | (go_ret
                     refine ⟨⟨false, rfl, ⟨fun h => (Bool.false_ne_true h).elim, fun h => (HNE.out (fun h => ?_) (congrArg St6 h)).elim⟩⟩, HF0.out.trans (HF6.out.drewN _)⟩
                     injection h; contradiction)
              subst hne
              by_cases hne : r = r'
              case neg =>
                have hbq : ((⟨r.toArray⟩ : ByteArray).toList == (⟨r'.toArray⟩ : ByteArray).toList) = false := str_ne hne
                go_wp2_with fail
                go_quiet (fail)
                go_wp2_with fail
                all_goals first
                  | (exfalso; omega)
                  | (go_ret
                     refine ⟨⟨false, rfl, ⟨fun h => (Bool.false_ne_true h).elim, fun h => (HNE.out (fun h => ?_) (congrArg St6 h)).elim⟩⟩, HF0.out.trans (HF6.out.drewN _)⟩
                     injection h; contradiction)
              subst hne
              go_wp2_with fail
              go_quiet (fail)
              go_wp2_with fail
              go_roundw
              case rel => exact ⟨k + 1, by go_num, hlt, Hd (HEQ.out (by first | rfl | trivial)), Hd (HF6.out.drewN _)⟩
              case measure => simp [intOf]; omega
            · have hki : (items.length : Int) <= (k : Int) := by omega
              obtain rfl : k = items.length := by omega
              have HQ6 : Hid (items = items') := Hd (take_all HT6.out HX6.out)
              go_wp2_with fail
              clear hl1 hl2 e6 f6
              clear hki hlt hk HT6
              go_loopw [8] (fun u w12 => ∃ k : Nat, u = .int .i64 k /\ k <= inner.length /\ Hid (inner.take k = inner'.take k) /\ Hid (Fr [] w0 w12)) (fun u _ => inner.length - (intOf u).toNat)
              case atStart => exact ⟨0, rfl, Nat.zero_le _, Hd rfl, Hd HF6.out⟩
              case round =>
                obtain ⟨k, rfl, hk, HT12, HF12⟩ := hrel
                by_cases hlt : k < inner.length
                · have hki : (k : Int) < (inner.length : Int) := by omega
                  have hlt' : k < inner'.length := by have := HX12.out; omega
                  obtain ⟨g, offy, ysy, rfl, hcy, -, hgy, hSy, hzy⟩ := HZ12.out.1 k hlt
                  obtain ⟨qy, hqy⟩ := Px.sr_cells hSy
                  obtain ⟨yk, yt, yn, yj, ya3, ya4, ya5, ya6, ya8, ya9, ya10, ya12, yl3, yl4, yl5, yl6, yl8, yl9, yl10, yl12, yc3, yc4, yc5, yc6, yc8, yc9, yc10, yc12, yd⟩ := qy
                  simp only [Px.Cells13.list] at hqy
                  subst hqy
                  have HSy := Hd hSy
                  obtain ⟨u, offx, ysx, rfl, hcx, -, hgx, hSx, hzx⟩ := HZ12.out.2 k hlt'
                  obtain ⟨qx, hqx⟩ := Px.sr_cells hSx
                  obtain ⟨xk, xt, xn, xj, xa3, xa4, xa5, xa6, xa8, xa9, xa10, xa12, xl3, xl4, xl5, xl6, xl8, xl9, xl10, xl12, xc3, xc4, xc5, xc6, xc8, xc9, xc10, xc12, xd⟩ := qx
                  simp only [Px.Cells13.list] at hqx
                  subst hqx
                  have HSx := Hd hSx
                  have hcy : (inner.length : Int) <= c12 := by omega
                  have hcx : (inner.length : Int) <= d12 := by have := HX12.out; omega
                  have HNE : Hid (inner[k] ≠ inner'[k] -> inner ≠ inner') := Hd (fun h => get_ne hlt hlt' h)
                  have HEQ : Hid (inner[k] = inner'[k] -> inner.take (k + 1) = inner'.take (k + 1)) := Hd (fun h => take_next HT12.out hlt hlt' h)
                  have HY1 : Hid (∀ W, Fr [] w0 W -> W.cell? ⟨g, offy + k * 13, none⟩ = some (.int .i64 yk) /\ W.cell? ⟨g, offy + k * 13 + 1, none⟩ = some (.string ⟨yt.toArray⟩) /\ W.cell? ⟨g, offy + k * 13 + 2, none⟩ = some (.string ⟨yn.toArray⟩) /\ W.cell? ⟨g, offy + k * 13 + 3, none⟩ = some (.slice ya3 yl3 yc3) /\ W.cell? ⟨g, offy + k * 13 + 4, none⟩ = some (.slice ya4 yl4 yc4) /\ W.cell? ⟨g, offy + k * 13 + 5, none⟩ = some (.slice ya5 yl5 yc5) /\ W.cell? ⟨g, offy + k * 13 + 6, none⟩ = some (.slice ya6 yl6 yc6) /\ W.cell? ⟨g, offy + k * 13 + 7, none⟩ = some (.string ⟨yj.toArray⟩) /\ W.cell? ⟨g, offy + k * 13 + 8, none⟩ = some (.slice ya8 yl8 yc8) /\ W.cell? ⟨g, offy + k * 13 + 9, none⟩ = some (.slice ya9 yl9 yc9) /\ W.cell? ⟨g, offy + k * 13 + 10, none⟩ = some (.slice ya10 yl10 yc10) /\ W.cell? ⟨g, offy + k * 13 + 11, none⟩ = some (.bool yd) /\ W.cell? ⟨g, offy + k * 13 + 12, none⟩ = some (.slice ya12 yl12 yc12)) := Hd (fun W hW => ⟨((HF0.out.trans hW).cell (p := ⟨g, offy + k * 13, none⟩) hgy (by simp)).trans (hzy 0 _ rfl), ((HF0.out.trans hW).cell (p := ⟨g, offy + k * 13 + 1, none⟩) hgy (by simp)).trans (hzy 1 _ rfl), ((HF0.out.trans hW).cell (p := ⟨g, offy + k * 13 + 2, none⟩) hgy (by simp)).trans (hzy 2 _ rfl), ((HF0.out.trans hW).cell (p := ⟨g, offy + k * 13 + 3, none⟩) hgy (by simp)).trans (hzy 3 _ rfl), ((HF0.out.trans hW).cell (p := ⟨g, offy + k * 13 + 4, none⟩) hgy (by simp)).trans (hzy 4 _ rfl), ((HF0.out.trans hW).cell (p := ⟨g, offy + k * 13 + 5, none⟩) hgy (by simp)).trans (hzy 5 _ rfl), ((HF0.out.trans hW).cell (p := ⟨g, offy + k * 13 + 6, none⟩) hgy (by simp)).trans (hzy 6 _ rfl), ((HF0.out.trans hW).cell (p := ⟨g, offy + k * 13 + 7, none⟩) hgy (by simp)).trans (hzy 7 _ rfl), ((HF0.out.trans hW).cell (p := ⟨g, offy + k * 13 + 8, none⟩) hgy (by simp)).trans (hzy 8 _ rfl), ((HF0.out.trans hW).cell (p := ⟨g, offy + k * 13 + 9, none⟩) hgy (by simp)).trans (hzy 9 _ rfl), ((HF0.out.trans hW).cell (p := ⟨g, offy + k * 13 + 10, none⟩) hgy (by simp)).trans (hzy 10 _ rfl), ((HF0.out.trans hW).cell (p := ⟨g, offy + k * 13 + 11, none⟩) hgy (by simp)).trans (hzy 11 _ rfl), ((HF0.out.trans hW).cell (p := ⟨g, offy + k * 13 + 12, none⟩) hgy (by simp)).trans (hzy 12 _ rfl)⟩)
                  have HX1 : Hid (∀ W, Fr [] w0 W -> W.cell? ⟨u, offx + k * 13, none⟩ = some (.int .i64 xk) /\ W.cell? ⟨u, offx + k * 13 + 1, none⟩ = some (.string ⟨xt.toArray⟩) /\ W.cell? ⟨u, offx + k * 13 + 2, none⟩ = some (.string ⟨xn.toArray⟩) /\ W.cell? ⟨u, offx + k * 13 + 3, none⟩ = some (.slice xa3 xl3 xc3) /\ W.cell? ⟨u, offx + k * 13 + 4, none⟩ = some (.slice xa4 xl4 xc4) /\ W.cell? ⟨u, offx + k * 13 + 5, none⟩ = some (.slice xa5 xl5 xc5) /\ W.cell? ⟨u, offx + k * 13 + 6, none⟩ = some (.slice xa6 xl6 xc6) /\ W.cell? ⟨u, offx + k * 13 + 7, none⟩ = some (.string ⟨xj.toArray⟩) /\ W.cell? ⟨u, offx + k * 13 + 8, none⟩ = some (.slice xa8 xl8 xc8) /\ W.cell? ⟨u, offx + k * 13 + 9, none⟩ = some (.slice xa9 xl9 xc9) /\ W.cell? ⟨u, offx + k * 13 + 10, none⟩ = some (.slice xa10 xl10 xc10) /\ W.cell? ⟨u, offx + k * 13 + 11, none⟩ = some (.bool xd) /\ W.cell? ⟨u, offx + k * 13 + 12, none⟩ = some (.slice xa12 xl12 xc12)) := Hd (fun W hW => ⟨((HF0.out.trans hW).cell (p := ⟨u, offx + k * 13, none⟩) hgx (by simp)).trans (hzx 0 _ rfl), ((HF0.out.trans hW).cell (p := ⟨u, offx + k * 13 + 1, none⟩) hgx (by simp)).trans (hzx 1 _ rfl), ((HF0.out.trans hW).cell (p := ⟨u, offx + k * 13 + 2, none⟩) hgx (by simp)).trans (hzx 2 _ rfl), ((HF0.out.trans hW).cell (p := ⟨u, offx + k * 13 + 3, none⟩) hgx (by simp)).trans (hzx 3 _ rfl), ((HF0.out.trans hW).cell (p := ⟨u, offx + k * 13 + 4, none⟩) hgx (by simp)).trans (hzx 4 _ rfl), ((HF0.out.trans hW).cell (p := ⟨u, offx + k * 13 + 5, none⟩) hgx (by simp)).trans (hzx 5 _ rfl), ((HF0.out.trans hW).cell (p := ⟨u, offx + k * 13 + 6, none⟩) hgx (by simp)).trans (hzx 6 _ rfl), ((HF0.out.trans hW).cell (p := ⟨u, offx + k * 13 + 7, none⟩) hgx (by simp)).trans (hzx 7 _ rfl), ((HF0.out.trans hW).cell (p := ⟨u, offx + k * 13 + 8, none⟩) hgx (by simp)).trans (hzx 8 _ rfl), ((HF0.out.trans hW).cell (p := ⟨u, offx + k * 13 + 9, none⟩) hgx (by simp)).trans (hzx 9 _ rfl), ((HF0.out.trans hW).cell (p := ⟨u, offx + k * 13 + 10, none⟩) hgx (by simp)).trans (hzx 10 _ rfl), ((HF0.out.trans hW).cell (p := ⟨u, offx + k * 13 + 11, none⟩) hgx (by simp)).trans (hzx 11 _ rfl), ((HF0.out.trans hW).cell (p := ⟨u, offx + k * 13 + 12, none⟩) hgx (by simp)).trans (hzx 12 _ rfl)⟩)
                  have HT1 : Hid (∀ W, Fr [] w0 W -> W.cell? ⟨w.heap.size, 12, none⟩ = some (.slice (some ⟨g, offy, none⟩) inner.length c12)) := Hd (fun W hW => (HB1.out.keep hW (by simp)).cell 12)
                  have HT2 : Hid (∀ W, Fr [] w0 W -> W.cell? ⟨w.heap.size + 1, 12, none⟩ = some (.slice (some ⟨u, offx, none⟩) inner.length d12)) := Hd (fun W hW => (HB2.out.keep hW (by simp)).cell 12)
                  clear hzy hzx hSy hSx
                  have e12 := HT1.out _ HF12.out
                  have f12 := HT2.out _ HF12.out
                  go_upto_region 21 with fail
                  clear e12 f12
                  have hI0 : Fr [] w0 wr.drew := HF12.out.drew
                  refine Seq3.wp_region_text (fun i => i != 10) (fun _ => none) (fun _ => false) (fun W => Fr [] w0 W) (by kernel_rfl) (by kernel_rfl) hI0 ?_
                  (refine Seq3.wpL_quiet rfl rfl rfl (fun K hK => ?_); go_big_quiet_op; (first | refine hK _ ?_ | refine ⟨_, by intros; rfl, hK _ ?_⟩); clear hK K)
                  refine Seq3.wpL_held (v := .slice (some ⟨g, offy, none⟩) inner.length c12) rfl rfl (fun w' hI => ?_) ?_
                  · have hI' := HT1.out w' hI
                    simp [go_sem, execOp, hI']
                  simp only [Act.put, List.setIfInBounds_toArray, List.set_cons_succ, List.set_cons_zero]
                  iterate 2 (refine Seq3.wpL_quiet rfl rfl rfl (fun K hK => ?_); go_big_quiet_op; (first | refine hK _ ?_ | refine ⟨_, by intros; rfl, hK _ ?_⟩); clear hK K)
                  refine Seq3.wpL_held (v := .agg #[.int .i64 yk, .string ⟨yt.toArray⟩, .string ⟨yn.toArray⟩, .slice ya3 yl3 yc3, .slice ya4 yl4 yc4, .slice ya5 yl5 yc5, .slice ya6 yl6 yc6, .string ⟨yj.toArray⟩, .slice ya8 yl8 yc8, .slice ya9 yl9 yc9, .slice ya10 yl10 yc10, .bool yd, .slice ya12 yl12 yc12]) rfl rfl (fun w' hI => ?_) ?_
                  · obtain ⟨i0, i1, i2, i3, i4, i5, i6, i7, i8, i9, i10, i11, i12⟩ := HY1.out w' hI
                    simp [go_sem, execOp, i0, i1, i2, i3, i4, i5, i6, i7, i8, i9, i10, i11, i12]
                  simp only [Act.put, List.setIfInBounds_toArray, List.set_cons_succ, List.set_cons_zero]
                  (refine Seq3.wpL_quiet rfl rfl rfl (fun K hK => ?_); go_big_quiet_op; (first | refine hK _ ?_ | refine ⟨_, by intros; rfl, hK _ ?_⟩); clear hK K)
                  refine Seq3.wpL_held (v := .slice (some ⟨u, offx, none⟩) inner.length d12) rfl rfl (fun w' hI => ?_) ?_
                  · have hI' := HT2.out w' hI
                    simp [go_sem, execOp, hI']
                  simp only [Act.put, List.setIfInBounds_toArray, List.set_cons_succ, List.set_cons_zero]
                  iterate 2 (refine Seq3.wpL_quiet rfl rfl rfl (fun K hK => ?_); go_big_quiet_op; (first | refine hK _ ?_ | refine ⟨_, by intros; rfl, hK _ ?_⟩); clear hK K)
                  refine Seq3.wpL_held (v := .agg #[.int .i64 xk, .string ⟨xt.toArray⟩, .string ⟨xn.toArray⟩, .slice xa3 xl3 xc3, .slice xa4 xl4 xc4, .slice xa5 xl5 xc5, .slice xa6 xl6 xc6, .string ⟨xj.toArray⟩, .slice xa8 xl8 xc8, .slice xa9 xl9 xc9, .slice xa10 xl10 xc10, .bool xd, .slice xa12 xl12 xc12]) rfl rfl (fun w' hI => ?_) ?_
                  · obtain ⟨i0, i1, i2, i3, i4, i5, i6, i7, i8, i9, i10, i11, i12⟩ := HX1.out w' hI
                    simp [go_sem, execOp, i0, i1, i2, i3, i4, i5, i6, i7, i8, i9, i10, i11, i12]
                  simp only [Act.put, List.setIfInBounds_toArray, List.set_cons_succ, List.set_cons_zero]
                  refine Seq3.wpL_call rfl rfl (by kernel_rfl) (IH.out _ (List.getElem_mem hlt) _ A A' wr.drew _ _ (SR.keep (HF0.out.trans hI0) (by simp) HSy.out) (SR.keep (HF0.out.trans hI0) (by simp) HSx.out)) ?_
                  rintro e wx ⟨⟨b, rfl, hbb⟩, hf⟩
                  have HFx := Hd (hI0.trans hf)
                  have HBB := Hd hbb
                  refine ⟨_, rfl, HFx.out, ?_⟩
                  simp only [Act.put, List.setIfInBounds_toArray, List.set_cons_succ, List.set_cons_zero]
                  (refine Seq3.wpL_quiet rfl rfl rfl (fun K hK => ?_); go_big_quiet_op; (first | refine hK _ ?_ | refine ⟨_, by intros; rfl, hK _ ?_⟩); clear hK K)
                  refine Seq3.wpL_nil ?_
                  clear hI0 hf hbb
                  cases b
                  · go_wp2_with fail
                    go_ret
                    exact ⟨⟨false, rfl, ⟨fun h => (Bool.false_ne_true h).elim, fun h => (HNE.out (fun h => Bool.false_ne_true (HBB.out.2 h)) (congrArg St12 h)).elim⟩⟩, HF0.out.trans HFx.out⟩
                  · go_wp2_with fail
                    go_roundw
                    case rel => exact ⟨k + 1, by go_num, hlt, Hd (HEQ.out (HBB.out.1 (by first | rfl | trivial))), HFx⟩
                    case measure => simp [intOf]; omega
                · have hki : (inner.length : Int) <= (k : Int) := by omega
                  obtain rfl : k = inner.length := by omega
                  have HQ12 : Hid (inner = inner') := Hd (take_all HT12.out HX12.out)
                  have e12 := (HB1.out.keep HF12.out (by simp)).cell 12
                  have f12 := (HB2.out.keep HF12.out (by simp)).cell 12
                  have e5 := (HB1.out.keep HF12.out (by simp)).cell 5
                  have f5 := (HB2.out.keep HF12.out (by simp)).cell 5
                  simp only [List.getElem?_cons_zero, List.getElem?_cons_succ] at e12 f12 e5 f5
                  have hl1 := (HB1.out.keep HF12.out (by simp)).lt
                  have hl2 := (HB2.out.keep HF12.out (by simp)).lt
                  go_wp2_with fail
                  refine (same_es values values' (fun x _ => same_e x) A A' wr _ _ (Rep.Es.keep (HF0.out.trans HF12.out) (by simp) HE5.out.1) (Rep.Es.keep (HF0.out.trans HF12.out) (by simp) HE5.out.2)).mono ?_
                  rintro e v1 ⟨⟨b, rfl, hb⟩, hf⟩
                  have HG1 := Hd (HF12.out.trans hf)
                  have HP1 := Hd hb
                  clear hb hf
                  clear hl1 hl2 e12 f12 e5 f5
                  cases b
                  case false =>
                    go_wp2_with fail
                    go_ret
                    exact ⟨⟨false, rfl, ⟨fun h => (Bool.false_ne_true h).elim, fun h => (Bool.false_ne_true (HP1.out.2 (congrArg St5 h))).elim⟩⟩, HF0.out.trans HG1.out⟩
                  have e8 := (HB1.out.keep HG1.out (by simp)).cell 8
                  have f8 := (HB2.out.keep HG1.out (by simp)).cell 8
                  simp only [List.getElem?_cons_zero, List.getElem?_cons_succ] at e8 f8
                  have hl1 := (HB1.out.keep HG1.out (by simp)).lt
                  have hl2 := (HB2.out.keep HG1.out (by simp)).lt
                  go_wp2_with fail
                  refine (same_es on on' (fun x _ => same_e x) A A' v1 _ _ (Rep.Es.keep (HF0.out.trans HG1.out) (by simp) HE8.out.1) (Rep.Es.keep (HF0.out.trans HG1.out) (by simp) HE8.out.2)).mono ?_
                  rintro e v2 ⟨⟨b, rfl, hb⟩, hf⟩
                  have HG2 := Hd (HG1.out.trans hf)
                  have HP2 := Hd hb
                  clear hb hf
                  clear hl1 hl2 e8 f8
                  cases b
                  case false =>
                    go_wp2_with fail
                    go_ret
                    exact ⟨⟨false, rfl, ⟨fun h => (Bool.false_ne_true h).elim, fun h => (Bool.false_ne_true (HP2.out.2 (congrArg St8 h))).elim⟩⟩, HF0.out.trans HG2.out⟩
                  have e9 := (HB1.out.keep HG2.out (by simp)).cell 9
                  have f9 := (HB2.out.keep HG2.out (by simp)).cell 9
                  simp only [List.getElem?_cons_zero, List.getElem?_cons_succ] at e9 f9
                  have hl1 := (HB1.out.keep HG2.out (by simp)).lt
                  have hl2 := (HB2.out.keep HG2.out (by simp)).lt
                  go_wp2_with fail
                  refine (same_es wher wher' (fun x _ => same_e x) A A' v2 _ _ (Rep.Es.keep (HF0.out.trans HG2.out) (by simp) HE9.out.1) (Rep.Es.keep (HF0.out.trans HG2.out) (by simp) HE9.out.2)).mono ?_
                  rintro e v3 ⟨⟨b, rfl, hb⟩, hf⟩
                  have HG3 := Hd (HG2.out.trans hf)
                  have HP3 := Hd hb
                  clear hb hf
                  clear hl1 hl2 e9 f9
                  cases b
                  case false =>
                    go_wp2_with fail
                    go_ret
                    exact ⟨⟨false, rfl, ⟨fun h => (Bool.false_ne_true h).elim, fun h => (Bool.false_ne_true (HP3.out.2 (congrArg St9 h))).elim⟩⟩, HF0.out.trans HG3.out⟩
                  have e10 := (HB1.out.keep HG3.out (by simp)).cell 10
                  have f10 := (HB2.out.keep HG3.out (by simp)).cell 10
                  simp only [List.getElem?_cons_zero, List.getElem?_cons_succ] at e10 f10
                  have hl1 := (HB1.out.keep HG3.out (by simp)).lt
                  have hl2 := (HB2.out.keep HG3.out (by simp)).lt
                  go_wp2_with fail
                  refine (same_es order order' (fun x _ => same_e x) A A' v3 _ _ (Rep.Es.keep (HF0.out.trans HG3.out) (by simp) HE10.out.1) (Rep.Es.keep (HF0.out.trans HG3.out) (by simp) HE10.out.2)).mono ?_
                  rintro e v4 ⟨⟨b, rfl, hb⟩, hf⟩
                  have HG4 := Hd (HG3.out.trans hf)
                  have HP4 := Hd hb
                  clear hb hf
                  clear hl1 hl2 e10 f10
                  cases b
                  case false =>
                    go_wp2_with fail
                    go_ret
                    exact ⟨⟨false, rfl, ⟨fun h => (Bool.false_ne_true h).elim, fun h => (Bool.false_ne_true (HP4.out.2 (congrArg St10 h))).elim⟩⟩, HF0.out.trans HG4.out⟩
                  go_wp2_with fail
                  go_ret
                  refine ⟨⟨true, rfl, ⟨fun _ => ?_, fun _ => rfl⟩⟩, HF0.out.trans HG4.out⟩
                  rw [HQ3.out, HQ4.out, HQ6.out, HQ12.out, HP1.out.1 (by first | rfl | trivial), HP2.out.1 (by first | rfl | trivial), HP3.out.1 (by first | rfl | trivial), HP4.out.1 (by first | rfl | trivial)]
theorem same_s : ∀ x : PM.St, SameS x
 |.mk kind table name cols tags values items join on wher order desc inner => same_sbody kind table name cols tags values items join on wher order desc inner fun y _ => same_s y
end Sx
end Go.Proofs.YtmdnhinpaflamaaGreatDoor
