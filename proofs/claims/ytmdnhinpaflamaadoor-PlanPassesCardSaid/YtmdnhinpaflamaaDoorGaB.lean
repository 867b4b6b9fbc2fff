/- What is made of numbers: values, literals, two of them. -/
import Derived.Test.YtmdnhinpaflamaaDoorGaA
import Derived.Test.YtmdnhinpaflamaaDoorPaF
import Derived.Test.YtmdnhinpaflamaaDoorPlC
namespace Go.Proofs.YtmdnhinpaflamaaDoor
open Go.RowKit
set_option linter.unusedVariables false
namespace Gn
open PM (Ex B)
open Px (z7 put7 frPut7 blkPut7 ret_cell7 c7_of ExR)

theorem ret_cellV {fn : Func} {n : Nat} (h : fn.results = #[.cell n 38]) (tmps : Array Value) (T : Nat) (h2 : tmps.getD n undef = .pointer (some ⟨T, 0, none⟩)) (w : World) (a0 a1 a2 : Value) (hb : Blk w T 38 [a0, a1, a2]) :
    (results fn tmps).run Tryd.prog w = .ok (.agg #[a0, a1, a2]) w := by
  have c0 := hb.cell 0
  have c1 := hb.cell 1
  have c2 := hb.cell 2
  simp only [List.getElem?_cons_zero, List.getElem?_cons_succ] at c0 c1 c2
  have h2' : tmps[n]?.getD undef = .pointer (some ⟨T, 0, none⟩) := by simpa using h2
  simp [results, h, h2', go_sem, c0, c1, c2]
def put3 (w : World) (T : Nat) (a0 a1 a2 : Value) : World := (((w.setCell ⟨T, 0, none⟩ a0).setCell ⟨T, 1, none⟩ a1).setCell ⟨T, 2, none⟩ a2)
theorem frPut3 {X : List (Option Nat)} {z w : World} {T : Nat} (h : Fr X z w) (hT : some T ∈ X ∨ z.heap.size ≤ T) (a0 a1 a2 : Value) : Fr X z (put3 w T a0 a1 a2) := (((h.setCell (p := ⟨T, 0, none⟩) hT a0).setCell (p := ⟨T, 1, none⟩) hT a1).setCell (p := ⟨T, 2, none⟩) hT a2)
theorem blkPut3 {w : World} {T : Nat} {E : TypeId} {x0 x1 x2 : Value} (h : Blk w T E [x0, x1, x2]) (a0 a1 a2 : Value) : Blk (put3 w T a0 a1 a2) T E [a0, a1, a2] := (((h.set 0 a0).set 1 a1).set 2 a2)
structure C3 (w : World) (T : Nat) (a0 a1 a2 : Value) : Prop where
  c0 : w.cell? ⟨T, 0, none⟩ = some a0
  c1 : w.cell? ⟨T, 1, none⟩ = some a1
  c2 : w.cell? ⟨T, 2, none⟩ = some a2
  f0 : w.frozen? ⟨T, 0, none⟩ = false
  f1 : w.frozen? ⟨T, 1, none⟩ = false
  f2 : w.frozen? ⟨T, 2, none⟩ = false
theorem c3_of {w : World} {T : Nat} {E : TypeId} {a0 a1 a2 : Value} (h : Blk w T E [a0, a1, a2]) : C3 w T a0 a1 a2 :=
  ⟨h.cell 0, h.cell 1, h.cell 2, h.free 0, h.free 1, h.free 2⟩

/-- a value: its kind, number, text -/
def valC (k i : Int) (t : B) : List Value := [.int .i64 k, .int .i64 i, .string ⟨t.toArray⟩]
/-- a value of a kind, as it is made -/
inductive Lit : Int → Int → Int → B → Prop
  | int (kind : Int) (n : Nat) (hk : kind ≠ 2) (h : n ≤ 9223372036854775807) : Lit kind 1 n []
  | text (r : Nat) (t : B) (h : Pc.okText t = true) (hl : t.length ≤ 4) : Lit 2 2 0 t
def fiveT (r : Nat) : B := match r with | 0 => [97] | 1 => [98] | 2 => [] | 3 => [105, 116, 39, 115] | _ => [122, 122]
theorem five_get {r : Nat} (h : r < 5) : ([.string ⟨#[97]⟩, .string ⟨#[98]⟩, .string ⟨#[]⟩, .string ⟨#[105, 116, 39, 115]⟩, .string ⟨#[122, 122]⟩] : List Value)[r]? = some (.string ⟨(fiveT r).toArray⟩) := by
  rcases (by omega : r = 0 ∨ r = 1 ∨ r = 2 ∨ r = 3 ∨ r = 4) with rfl | rfl | rfl | rfl | rfl <;> rfl
theorem five_ok (r : Nat) : Pc.okText (fiveT r) = true ∧ (fiveT r).length ≤ 4 := by unfold fiveT; split <;> decide
set_option maxRecDepth 100000 in
set_option maxHeartbeats 2000000 in
/-- Value -/
theorem value_any {B M : Nat} (P : Nat) (kind : Int) (w : World) (h : PK B M w P) :
    Calls Tryd.prog 16 #[.pointer (some ⟨P, 0, none⟩), .int .i64 kind] w fun e w' => ∃ k i t, e = .returned (.agg (valC k i t).toArray) ∧ Lit kind k i t ∧ PK B M w' P ∧ Fr [some P] w w' := by
  have HK := Lib.hid h
  have hl := h.lt'
  have hle := h.le
  clear h
  go_enter Tryd.func16, Tryd.ntmps16
  by_cases hk : kind = 2
  · subst hk
    go_wp2_with fail
    refine (num_any P 5 (by decide) (by decide) _ ((HK.out.alloc _).alloc _)).mono ?_
    rintro e w1 ⟨r, rfl, hr, hk1, hf1⟩
    have HB := Lib.hid (((Blk.new w 38 [.int .i64 0, .int .i64 0, .string ⟨#[]⟩]).alloc (.cells #[.string ⟨#[97]⟩, .string ⟨#[98]⟩, .string ⟨#[]⟩, .string ⟨#[105, 116, 39, 115]⟩, .string ⟨#[122, 122]⟩] 9)).keep hf1 (by simp; omega))
    have h5 := Blk.new (w.alloc (.cells #[.int .i64 0, .int .i64 0, .string ⟨#[]⟩] 38)) 9 [.string ⟨#[97]⟩, .string ⟨#[98]⟩, .string ⟨#[]⟩, .string ⟨#[105, 116, 39, 115]⟩, .string ⟨#[122, 122]⟩]
    rw [World.size_alloc] at h5
    have h5 := h5.keep hf1 (by simp; omega)
    have hc5 := h5.cell r
    rw [five_get (by omega)] at hc5
    have HK1 := Lib.hid hk1
    have HF := Lib.hid ((((Fr.refl [some P] w).alloc (.cells #[.int .i64 0, .int .i64 0, .string ⟨#[]⟩] 38)).alloc (.cells #[.string ⟨#[97]⟩, .string ⟨#[98]⟩, .string ⟨#[]⟩, .string ⟨#[105, 116, 39, 115]⟩, .string ⟨#[122, 122]⟩] 9)).trans hf1)
    have hbl := HB.out.lt
    obtain ⟨k0, k1, k2, f0, f1, f2⟩ := c3_of HB.out
    clear h5 hk1 hf1
    go_wp2_with fail
    refine bodyPost_ret (ret_cellV rfl _ w.heap.size rfl _ _ _ _ (blkPut3 HB.out _ _ _)) rfl ⟨2, 0, fiveT r, rfl, .text r _ (five_ok r).1 (five_ok r).2, ?_, ?_⟩
    · exact HK1.out.keep (frPut3 (Fr.refl [some w.heap.size] w1) (.inl (by simp)) _ _ _) (by simp; omega)
    · exact frPut3 HF.out (.inr (Nat.le_refl _)) _ _ _
  · go_wp2_with fail
    refine (num_any P 12 (by decide) (by decide) _ (HK.out.alloc _)).mono ?_
    rintro e w1 ⟨r, rfl, hr, hk1, hf1⟩
    have HB := Lib.hid ((Blk.new w 38 [.int .i64 0, .int .i64 0, .string ⟨#[]⟩]).keep hf1 (by simp; omega))
    have HK1 := Lib.hid hk1
    have HF := Lib.hid (((Fr.refl [some P] w).alloc (.cells #[.int .i64 0, .int .i64 0, .string ⟨#[]⟩] 38)).trans hf1)
    have hbl := HB.out.lt
    obtain ⟨k0, k1, k2, f0, f1, f2⟩ := c3_of HB.out
    clear hk1 hf1
    by_cases h11 : (r : Int) = 11
    · go_wp2_with fail
      refine bodyPost_ret (ret_cellV rfl _ w.heap.size rfl _ _ _ _ (blkPut3 HB.out _ _ _)) rfl ⟨1, 9223372036854775807, [], rfl, .int _ 9223372036854775807 hk (Nat.le_refl _), ?_, ?_⟩
      · exact HK1.out.keep (frPut3 (Fr.refl [some w.heap.size] w1) (.inl (by simp)) _ _ _) (by simp; omega)
      · exact frPut3 HF.out (.inr (Nat.le_refl _)) _ _ _
    · go_wp2_with fail
      refine bodyPost_ret (ret_cellV rfl _ w.heap.size rfl _ _ _ _ (blkPut3 HB.out _ _ _)) rfl ⟨1, r, [], rfl, .int _ r hk (by omega), ?_, ?_⟩
      · exact HK1.out.keep (frPut3 (Fr.refl [some w.heap.size] w1) (.inl (by simp)) _ _ _) (by simp; omega)
      · exact frPut3 HF.out (.inr (Nat.le_refl _)) _ _ _
set_option maxRecDepth 100000 in
set_option maxHeartbeats 1000000 in
/-- lit -/
theorem lit_any (k i : Int) (t : PM.B) (w : World) :
    Calls Tryd.prog 31 #[.agg (valC k i t).toArray] w fun e w' => e = .returned (.agg #[.int .i64 1, .int .i64 k, .int .i64 i, .string ⟨t.toArray⟩, .string ⟨#[]⟩, .string ⟨#[]⟩, .slice none 0 0]) ∧ Fr [] w w' := by
  go_enter Tryd.func31, Tryd.ntmps31
  unfold valC
  go_wp2_with fail
  have hb := Blk.new (w.alloc (.cells #[.int .i64 k, .int .i64 i, .string ⟨t.toArray⟩] 38)) 41 [.int .i64 1, .int .i64 k, .int .i64 i, .string ⟨t.toArray⟩, .string ⟨#[]⟩, .string ⟨#[]⟩, .slice none 0 0]
  rw [World.size_alloc] at hb
  exact bodyPost_ret (ret_cell7 rfl _ (w.heap.size + 1) rfl _ _ _ _ _ _ _ _ hb) rfl ⟨rfl, ((Fr.refl [] w).alloc _).alloc _⟩
theorem es_new {A : Nat → Prop} {w : World} {l : List Ex} {cs : List Value} (hL : Rep.L 41 A w l cs) (hn : A w.heap.size) (hm : l.length ≤ maxLen) :
    Rep.Es 41 A (w.alloc (.cells cs.toArray 41)) l (.slice (some ⟨w.heap.size, 0, none⟩) l.length l.length) := by
  have hlen := hL.length
  refine .mk l _ cs (Rep.L.keep ((Fr.refl [] w).alloc _) (fun g h => by simp) hL) ⟨hlen, .inr ⟨w.heap.size, 0, l.length, cs, rfl, Blk.new w _ cs, Nat.le_refl _, hm, by omega, ?_⟩⟩ (fun g hg => ?_)
  · rw [List.drop_zero, List.take_of_length_le (by omega)]
  · simp only [Value.ownBlock, Option.some.injEq] at hg
    subst hg
    exact hn
set_option maxRecDepth 100000 in
set_option maxHeartbeats 2000000 in
/-- two -/
theorem two_any (op : Int) (a b : Ex) (ca cb : List Value) (w : World) (A : Nat → Prop) (ha : Rep.E 41 A w a ca) (hb : Rep.E 41 A w b cb) :
    Calls Tryd.prog 29 #[.int .i64 op, .agg ca.toArray, .agg cb.toArray] w fun e w' => ∃ cs : List Value, e = .returned (.agg cs.toArray) ∧ Rep.E 41 (fun g => A g ∨ w.heap.size ≤ g) w' (PM.two op a b) cs ∧ Fr [] w w' := by
  have HA := Lib.hid ha
  have HBB := Lib.hid hb
  obtain ⟨op1, kind1, int1, t1, tb1, n1, l1, a1, m1, c1, rfl, rfl, h1⟩ := Sm.e_cells ha
  obtain ⟨op2, kind2, int2, t2, tb2, n2, l2, a2, m2, c2, rfl, rfl, h2⟩ := Sm.e_cells hb
  clear ha hb h1 h2
  go_enter Tryd.func29, Tryd.ntmps29
  go_wp2_with fail
  have HW : Hid (Fr [] w (((w.alloc (.cells #[.int .i64 op1, .int .i64 kind1, .int .i64 int1, .string ⟨t1.toArray⟩, .string ⟨tb1.toArray⟩, .string ⟨n1.toArray⟩, .slice a1 m1 c1] 41)).alloc (.cells #[.int .i64 op2, .int .i64 kind2, .int .i64 int2, .string ⟨t2.toArray⟩, .string ⟨tb2.toArray⟩, .string ⟨n2.toArray⟩, .slice a2 m2 c2] 41)).alloc (.cells #[.int .i64 op, .int .i64 0, .int .i64 0, .string ⟨#[]⟩, .string ⟨#[]⟩, .string ⟨#[]⟩, .slice (some ⟨w.heap.size + 1 + 1 + 1, 0, none⟩) 2 2] 41))) := Lib.hid ((((Fr.refl [] w).alloc _).alloc _).alloc _)
  have hb := Blk.new ((w.alloc (.cells #[.int .i64 op1, .int .i64 kind1, .int .i64 int1, .string ⟨t1.toArray⟩, .string ⟨tb1.toArray⟩, .string ⟨n1.toArray⟩, .slice a1 m1 c1] 41)).alloc (.cells #[.int .i64 op2, .int .i64 kind2, .int .i64 int2, .string ⟨t2.toArray⟩, .string ⟨tb2.toArray⟩, .string ⟨n2.toArray⟩, .slice a2 m2 c2] 41)) 41 [.int .i64 op, .int .i64 0, .int .i64 0, .string ⟨#[]⟩, .string ⟨#[]⟩, .string ⟨#[]⟩, .slice (some ⟨w.heap.size + 1 + 1 + 1, 0, none⟩) 2 2]
  rw [World.size_alloc, World.size_alloc] at hb
  refine bodyPost_ret (ret_cell7 rfl _ (w.heap.size + 1 + 1) rfl _ _ _ _ _ _ _ _ (hb.alloc _)) rfl ⟨_, rfl, ?_, HW.out.alloc _⟩
  have hL : Rep.L 41 (fun g => A g ∨ w.heap.size ≤ g) _ [_, _] _ := .cons _ _ _ _ (Rep.E.mono (fun g h => .inl h) (Rep.E.keep HW.out (by simp) HA.out)) (.cons _ _ _ _ (Rep.E.mono (fun g h => .inl h) (Rep.E.keep HW.out (by simp) HBB.out)) .nil)
  have hes := es_new hL (.inr (by simp; omega)) (by simp [maxLen])
  exact .mk op 0 0 [] [] [] _ _ (by simpa using hes)
end Gn
end Go.Proofs.YtmdnhinpaflamaaDoor
