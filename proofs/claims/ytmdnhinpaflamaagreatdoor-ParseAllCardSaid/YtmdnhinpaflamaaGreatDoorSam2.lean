/- SameExpr, SameExprs: whether two are the same. -/
import Derived.Test.YtmdnhinpaflamaaGreatDoorPaA
import Derived.BigQuiet
import Derived.Deep.RegionWith
namespace Go.Proofs.YtmdnhinpaflamaaGreatDoor
open Go.RowKit
set_option linter.unusedVariables false
namespace Sx
open PM (Ex B)
theorem e_cells {A : Nat → Prop} {w : World} {x : Ex} {cs : List Value} (h : Rep.E 82 A w x cs) : ∃ (op kind int : Int) (text table name : B) (args : List Ex) (a : Option Addr) (n c : Nat),
    x = .mk op kind int text table name args ∧ cs = [.int .i64 op, .int .i64 kind, .int .i64 int, .string ⟨text.toArray⟩, .string ⟨table.toArray⟩, .string ⟨name.toArray⟩, .slice a n c] ∧ Rep.Es 82 A w args (.slice a n c) ∧ n = args.length := by
  cases h with
  | mk op kind int text table name args v h =>
    cases h with
    | mk _ _ xs hl hr hb =>
      rcases hr.form with ⟨rfl, h1, h2⟩ | ⟨g, off, cap, rfl, h1⟩
      · exact ⟨op, kind, int, text, table, name, args, none, 0, 0, rfl, rfl, .mk _ _ xs hl hr hb, h1.symm⟩
      · exact ⟨op, kind, int, text, table, name, args, _, _, _, rfl, rfl, .mk _ _ xs hl hr hb, rfl⟩
/-- SameExpr tells whether another is the same -/
def SameI (x : Ex) : Prop := ∀ (y : Ex) (A A' : Nat → Prop) (w : World) (ca cb : List Value), Rep.E 82 A w x ca → Rep.E 82 A' w y cb →
  Calls Tryz.prog 67 #[.agg ca.toArray, .agg cb.toArray] w fun e w' => (∃ b, e = .returned (.bool b) ∧ (b = true ↔ x = y)) ∧ Fr [] w w'
theorem es_form {A : Nat → Prop} {w : World} {l : List Ex} {v : Value} (h : Rep.Es 82 A w l v) : ∃ a c, v = .slice a l.length c ∧ l.length ≤ maxLen := by
  cases h with
  | mk _ _ xs hl hr hb =>
    rcases hr.form with ⟨rfl, h1, h2⟩ | ⟨g, off, cap, rfl, h1, h2⟩
    · exact ⟨none, 0, by rw [h1], by omega⟩
    · exact ⟨_, _, rfl, by omega⟩
set_option maxRecDepth 100000 in
set_option maxHeartbeats 2000000 in
theorem same_es (l m : List Ex) (ih : ∀ x ∈ l, SameI x) (A A' : Nat → Prop) (w : World) (va vb : Value) (ha : Rep.Es 82 A w l va) (hb : Rep.Es 82 A' w m vb) :
    Calls Tryz.prog 24 #[va, vb] w fun e w' => (∃ b, e = .returned (.bool b) ∧ (b = true ↔ l = m)) ∧ Fr [] w w' := by
  have HA := Lib.hid ha
  have HB := Lib.hid hb
  have IH := Lib.hid ih
  obtain ⟨a1, c1, rfl, hx1⟩ := es_form ha
  obtain ⟨a2, c2, rfl, hx2⟩ := es_form hb
  clear ha hb ih
  by_cases hlm : l.length = m.length
  case neg =>
    have hlb : ((l.length : Int) == (m.length : Int)) = false := beq_eq_false_iff_ne.2 (by omega)
    go_enter Tryz.func24, Tryz.ntmps24
    go_wp2_with fail
    all_goals first
      | (exfalso; omega)
      | (go_ret; exact ⟨⟨false, rfl, by simp; rintro rfl; exact hlm rfl⟩, Fr.refl _ _⟩)
  have hli : (l.length : Int) ≤ 9223372036854775807 := by unfold maxLen at hx1; omega
  rw [← hlm] at HB ⊢
  have HLM := Lib.hid hlm
  clear hx1 hx2 hlm
  go_enter Tryz.func24, Tryz.ntmps24
  go_wp2_with fail
  go_loopw [5] (fun u wr => ∃ k : Nat, u = .int .i64 k ∧ k ≤ l.length ∧ Hid (l.take k = m.take k) ∧ Hid (Fr [] w wr)) (fun u _ => l.length - (intOf u).toNat)
  case atStart => exact ⟨0, rfl, Nat.zero_le _, Lib.hid (by simp), Lib.hid (Fr.refl _ _)⟩
  case round =>
    obtain ⟨k, rfl, hk, HT, HF⟩ := hrel
    by_cases hlt : k < l.length
    · have hki : (k : Int) < (l.length : Int) := by omega
      have hltm : k < m.length := by have := HLM.out; omega
      have KA := Rep.Es.keep HF.out (by simp) HA.out
      have KB := Rep.Es.keep HF.out (by simp) HB.out
      obtain ⟨g1, o1, p1, ys, e1, hc1, -, hy, hcy⟩ := KA.at k hlt
      obtain ⟨g2, o2, p2, zs, e2, hc2, -, hz, hcz⟩ := KB.at k hltm
      simp only [Value.slice.injEq, true_and] at e1 e2
      obtain ⟨rfl, rfl⟩ := e1
      obtain ⟨rfl, -, rfl⟩ := e2
      have S1 := Lib.hid (IH.out _ (List.getElem_mem hlt))
      have HY := Lib.hid hy
      have HZ := Lib.hid hz
      obtain ⟨op, kind, int, text, table, name, args, b1, m1, d1, hx, rfl, hes1, -⟩ := e_cells hy
      obtain ⟨op', kind', int', text', table', name', args', b2, m2, d2, hx', rfl, hes2, -⟩ := e_cells hz
      have a0 := hcy 0 _ rfl
      have a1 := hcy 1 _ rfl
      have a2 := hcy 2 _ rfl
      have a3 := hcy 3 _ rfl
      have a4 := hcy 4 _ rfl
      have a5 := hcy 5 _ rfl
      have a6 := hcy 6 _ rfl
      have z0 := hcz 0 _ rfl
      have z1 := hcz 1 _ rfl
      have z2 := hcz 2 _ rfl
      have z3 := hcz 3 _ rfl
      have z4 := hcz 4 _ rfl
      have z5 := hcz 5 _ rfl
      have z6 := hcz 6 _ rfl
      simp only [Nat.add_zero] at a0 z0
      have hc2' : (l.length : Int) ≤ c2 := by have := HLM.out; omega
      clear hcy hcz KA KB hy hz hx hx' hes1 hes2
      have HYD := Lib.hid (Rep.E.keep ((Fr.refl [] wr).drew) (by simp) HY.out)
      have HZD := Lib.hid (Rep.E.keep ((Fr.refl [] wr).drew) (by simp) HZ.out)
      have HFD := Lib.hid (HF.out.drew)
      have hns : ∀ b : Bool, (b = true ↔ l[k] = m[k]) → b = true → l.take (k + 1) = m.take (k + 1) := fun b h1 h2 => by
        rw [List.take_succ_eq_append_getElem hlt, List.take_succ_eq_append_getElem hltm, HT.out, h1.1 h2]
      have hnf : ∀ b : Bool, (b = true ↔ l[k] = m[k]) → b = false → l ≠ m := fun b h1 h2 h3 => by
        subst h3
        rw [h1.2 rfl] at h2
        cases h2
      have HNS := Lib.hid hns
      have HNF := Lib.hid hnf
      clear hns hnf
      go_wp2_with fail
      go_region_with (
        go_at_call 67
        refine (S1.out _ A A' _ _ _ HYD.out HZD.out).mono ?_
        rintro e w2 ⟨⟨b, rfl, hb⟩, hf2⟩
        have HBB := Lib.hid hb
        have HF2 := Lib.hid (HFD.out.trans hf2)
        clear hf2 hb)
      all_goals
        cases b
      all_goals
        go_wp2_with fail
        first
        | (go_ret
           exact ⟨⟨false, rfl, ⟨fun h => (Bool.false_ne_true h).elim, fun h => (HNF.out _ HBB.out rfl h).elim⟩⟩, HF2.out⟩)
        | (go_roundw
           case rel => exact ⟨k + 1, by go_num, hlt, Lib.hid (HNS.out _ HBB.out rfl), HF2⟩
           case measure => simp [intOf]; omega)
    · have hki : (l.length : Int) ≤ (k : Int) := by omega
      obtain rfl : k = l.length := by omega
      go_wp2_with fail
      go_ret
      refine ⟨⟨true, rfl, ⟨fun _ => ?_, fun _ => rfl⟩⟩, HF.out⟩
      have := HT.out
      rw [List.take_length] at this
      rw [HLM.out, List.take_length] at this
      exact this
set_option maxRecDepth 100000 in
set_option maxHeartbeats 2000000 in
theorem same_body (op kind int : Int) (text table name : B) (args : List Ex) (ih : ∀ x ∈ args, SameI x) : SameI (.mk op kind int text table name args) := by
  intro y A A' w ca cb ha hb
  obtain ⟨_, _, _, _, _, _, _, b1, m1, d1, e1, rfl, s1, hm1⟩ := e_cells ha
  simp only [PM.Ex.mk.injEq] at e1
  obtain ⟨rfl, rfl, rfl, rfl, rfl, rfl, rfl⟩ := e1
  obtain ⟨op', kind', int', text', table', name', args', b2, m2, d2, rfl, rfl, s2, hm2⟩ := e_cells hb
  have S1 := Lib.hid s1
  have S2 := Lib.hid s2
  have IH := Lib.hid ih
  have HM := Lib.hid (And.intro hm1 hm2)
  clear ha hb s1 s2 ih hm1 hm2
  go_enter Tryz.func67, Tryz.ntmps67
  go_wp2_with fail
  all_goals first
    | (go_ret
       refine ⟨⟨false, rfl, ⟨fun h => (Bool.false_ne_true h).elim, fun h => ?_⟩⟩, ((Fr.refl [] w).alloc _).alloc _⟩
       exfalso
       simp only [PM.Ex.mk.injEq] at h
       obtain ⟨h1, h2, h3, h4, h5, h6, h7⟩ := h
       have hm := HM.out
       subst h1 h2 h3 h4 h5 h6 h7
       obtain ⟨rfl, rfl⟩ := hm
       simp_all)
    | (refine (same_es args args' IH.out A A' _ _ _ (Rep.Es.keep (((Fr.refl [] w).alloc _).alloc _) (by simp) S1.out) (Rep.Es.keep (((Fr.refl [] w).alloc _).alloc _) (by simp) S2.out)).mono ?_
       rintro e w2 ⟨⟨b, rfl, hb⟩, hf2⟩
       have HF2 : Hid (Fr [] w w2) := Lib.hid ((((Fr.refl [] w).alloc _).alloc _).trans hf2)
       have HBB := Lib.hid hb
       clear hf2 hb
       go_wp2_with fail
       go_ret
       refine ⟨⟨b, rfl, HBB.out.trans ?_⟩, HF2.out⟩
       simp_all)
/-- SameExpr -/
theorem same_e : ∀ x : Ex, SameI x
  | .mk op kind int text table name args => same_body op kind int text table name args fun y _ => same_e y
end Sx
end Go.Proofs.YtmdnhinpaflamaaGreatDoor
