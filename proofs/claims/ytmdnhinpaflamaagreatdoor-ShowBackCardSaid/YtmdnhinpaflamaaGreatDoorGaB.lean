/- What is made of numbers: values, literals, two of them. -/
import Derived.Test.YtmdnhinpaflamaaGreatDoorLex
import Derived.Test.YtmdnhinpaflamaaGreatDoorPlA
import Derived.Test.YtmdnhinpaflamaaGreatDoorBas
import Derived.Deep.RegionHeldLaw
import Derived.RegionTactic
import Derived.Test.YtmdnhinpaflamaaGreatDoorShelf
import Derived.Lib.AppendIntMem
import Derived.Lib.ItoaLen
namespace Go.Proofs.YtmdnhinpaflamaaGreatDoor
open Go.RowKit
set_option linter.unusedVariables false
namespace Gn
open PM (Ex B)
open Px (z7 put7 frPut7 blkPut7 ret_cell7 c7_of ExR)
theorem ret_cellV {fn : Func} {n : Nat} (h : fn.results = #[.cell n 80]) (tmps : Array Value) (T : Nat) (h2 : tmps.getD n undef = .pointer (some ⟨T, 0, none⟩)) (w : World) (a0 a1 a2 : Value) (hb : Blk w T 80 [a0, a1, a2]) :
  (results fn tmps).run Tryz.prog w = .ok (.agg #[a0, a1, a2]) w := by
 have c0 := hb.cell 0
 have c1 := hb.cell 1
 have c2 := hb.cell 2
 simp only [List.getElem?_cons_zero, List.getElem?_cons_succ] at c0 c1 c2
 have h2' : tmps[n]?.getD undef = .pointer (some ⟨T, 0, none⟩) := by simpa using h2
 simp [results, h, h2', go_sem, c0, c1, c2]
def put3 (w : World) (T : Nat) (a0 a1 a2 : Value) : World := (((w.setCell ⟨T, 0, none⟩ a0).setCell ⟨T, 1, none⟩ a1).setCell ⟨T, 2, none⟩ a2)
theorem frPut3 {X : List (Option Nat)} {z w : World} {T : Nat} (h : Fr X z w) (hT : some T ∈ X \/ z.heap.size <= T) (a0 a1 a2 : Value) : Fr X z (put3 w T a0 a1 a2) := (((h.setCell (p := ⟨T, 0, none⟩) hT a0).setCell (p := ⟨T, 1, none⟩) hT a1).setCell (p := ⟨T, 2, none⟩) hT a2)
theorem blkPut3 {w : World} {T : Nat} {E : TypeId} {x0 x1 x2 : Value} (h : Blk w T E [x0, x1, x2]) (a0 a1 a2 : Value) : Blk (put3 w T a0 a1 a2) T E [a0, a1, a2] := (((h.set 0 a0).set 1 a1).set 2 a2)
structure C3 (w : World) (T : Nat) (a0 a1 a2 : Value) : Prop where
 c0 : w.cell? ⟨T, 0, none⟩ = some a0
 c1 : w.cell? ⟨T, 1, none⟩ = some a1
 c2 : w.cell? ⟨T, 2, none⟩ = some a2
 f0 : w.frozen? ⟨T, 0, none⟩ = false
 f1 : w.frozen? ⟨T, 1, none⟩ = false
 f2 : w.frozen? ⟨T, 2, none⟩ = false
theorem c3_of {w : World} {T : Nat} {E : TypeId} {a0 a1 a2 : Value} (h : Blk w T E [a0, a1, a2]) : C3 w T a0 a1 a2 :=
 ⟨h.cell 0, h.cell 1, h.cell 2, h.free 0, h.free 1, h.free 2⟩
def valC (k i : Int) (t : B) : List Value := [.int .i64 k, .int .i64 i, .string ⟨t.toArray⟩]
inductive Lit : Int -> Int -> Int -> B -> Prop
 |int (kind : Int) (n : Nat) (hk : kind ≠ 2) (h : n <= 9223372036854775807) : Lit kind 1 n []
 |text (r : Nat) (t : B) (h : Pc.okText t = true) (hl : t.length <= 4) : Lit 2 2 0 t
def fiveT (r : Nat) : B := match r with | 0 => [97] | 1 => [98] | 2 => [] | 3 => [105, 116, 39, 115] | _ => [122, 122]
theorem five_get {r : Nat} (h : r < 5) : ([.string ⟨#[97]⟩, .string ⟨#[98]⟩, .string ⟨#[]⟩, .string ⟨#[105, 116, 39, 115]⟩, .string ⟨#[122, 122]⟩] : List Value)[r]? = some (.string ⟨(fiveT r).toArray⟩) := by
 rcases (by omega : r = 0 \/ r = 1 \/ r = 2 \/ r = 3 \/ r = 4) with rfl | rfl | rfl | rfl | rfl <;> rfl
theorem five_ok (r : Nat) : Pc.okText (fiveT r) = true /\ (fiveT r).length <= 4 := by unfold fiveT; split <;> decide
set_option maxRecDepth 100000 in
set_option maxHeartbeats 2000000 in
theorem value_any {B M : Nat} (P : Nat) (kind : Int) (w : World) (h : PK B M w P) :
  Calls Tryz.prog 72 #[.pointer (some ⟨P, 0, none⟩), .int .i64 kind] w fun e w' => ∃ k i t, e = .returned (.agg (valC k i t).toArray) /\ Lit kind k i t /\ PK B M w' P /\ Fr [some P] w w' := by
 have HK := Hd h
 have hl := h.lt'
 have hle := h.le
 clear h
 go_enter Tryz.func72, Tryz.ntmps72
 by_cases hk : kind = 2
 ·subst hk
  go_wp2_with fail
  refine (num_any P 5 (by decide) (by decide) _ ((HK.out.alloc _).alloc _)).mono ?_
  rintro e w1 ⟨r, rfl, hr, hk1, hf1⟩
  have HB := Hd (((Blk.new w 80 [.int .i64 0, .int .i64 0, .string ⟨#[]⟩]).alloc (.cells #[.string ⟨#[97]⟩, .string ⟨#[98]⟩, .string ⟨#[]⟩, .string ⟨#[105, 116, 39, 115]⟩, .string ⟨#[122, 122]⟩] 9)).keep hf1 (by simp; omega))
  have h5 := Blk.new (w.alloc (.cells #[.int .i64 0, .int .i64 0, .string ⟨#[]⟩] 80)) 9 [.string ⟨#[97]⟩, .string ⟨#[98]⟩, .string ⟨#[]⟩, .string ⟨#[105, 116, 39, 115]⟩, .string ⟨#[122, 122]⟩]
  rw [World.size_alloc] at h5
  have h5 := h5.keep hf1 (by simp; omega)
  have hc5 := h5.cell r
  rw [five_get (by omega)] at hc5
  have HK1 := Hd hk1
  have HF := Hd ((((Fr.refl [some P] w).alloc (.cells #[.int .i64 0, .int .i64 0, .string ⟨#[]⟩] 80)).alloc (.cells #[.string ⟨#[97]⟩, .string ⟨#[98]⟩, .string ⟨#[]⟩, .string ⟨#[105, 116, 39, 115]⟩, .string ⟨#[122, 122]⟩] 9)).trans hf1)
  have hbl := HB.out.lt
  obtain ⟨k0, k1, k2, f0, f1, f2⟩ := c3_of HB.out
  clear h5 hk1 hf1
  go_wp2_with fail
  refine bodyPost_ret (ret_cellV rfl _ w.heap.size rfl _ _ _ _ (blkPut3 HB.out _ _ _)) rfl ⟨2, 0, fiveT r, rfl, .text r _ (five_ok r).1 (five_ok r).2, ?_, ?_⟩
  ·exact HK1.out.keep (frPut3 (Fr.refl [some w.heap.size] w1) (.inl (by simp)) _ _ _) (by simp; omega)
  ·exact frPut3 HF.out (.inr (Nat.le_refl _)) _ _ _
 ·go_wp2_with fail
  refine (num_any P 12 (by decide) (by decide) _ (HK.out.alloc _)).mono ?_
  rintro e w1 ⟨r, rfl, hr, hk1, hf1⟩
  have HB := Hd ((Blk.new w 80 [.int .i64 0, .int .i64 0, .string ⟨#[]⟩]).keep hf1 (by simp; omega))
  have HK1 := Hd hk1
  have HF := Hd (((Fr.refl [some P] w).alloc (.cells #[.int .i64 0, .int .i64 0, .string ⟨#[]⟩] 80)).trans hf1)
  have hbl := HB.out.lt
  obtain ⟨k0, k1, k2, f0, f1, f2⟩ := c3_of HB.out
  clear hk1 hf1
  by_cases h11 : (r : Int) = 11
  ·go_wp2_with fail
   refine bodyPost_ret (ret_cellV rfl _ w.heap.size rfl _ _ _ _ (blkPut3 HB.out _ _ _)) rfl ⟨1, 9223372036854775807, [], rfl, .int _ 9223372036854775807 hk (Nat.le_refl _), ?_, ?_⟩
   ·exact HK1.out.keep (frPut3 (Fr.refl [some w.heap.size] w1) (.inl (by simp)) _ _ _) (by simp; omega)
   ·exact frPut3 HF.out (.inr (Nat.le_refl _)) _ _ _
  ·go_wp2_with fail
   refine bodyPost_ret (ret_cellV rfl _ w.heap.size rfl _ _ _ _ (blkPut3 HB.out _ _ _)) rfl ⟨1, r, [], rfl, .int _ r hk (by omega), ?_, ?_⟩
   ·exact HK1.out.keep (frPut3 (Fr.refl [some w.heap.size] w1) (.inl (by simp)) _ _ _) (by simp; omega)
   ·exact frPut3 HF.out (.inr (Nat.le_refl _)) _ _ _
set_option maxRecDepth 100000 in
set_option maxHeartbeats 1000000 in
theorem lit_any (k i : Int) (t : PM.B) (w : World) :
  Calls Tryz.prog 71 #[.agg (valC k i t).toArray] w fun e w' => e = .returned (.agg #[.int .i64 1, .int .i64 k, .int .i64 i, .string ⟨t.toArray⟩, .string ⟨#[]⟩, .string ⟨#[]⟩, .slice none 0 0]) /\ Fr [] w w' := by
 go_enter Tryz.func71, Tryz.ntmps71
 unfold valC
 go_wp2_with fail
 have hb := Blk.new (w.alloc (.cells #[.int .i64 k, .int .i64 i, .string ⟨t.toArray⟩] 80)) 82 [.int .i64 1, .int .i64 k, .int .i64 i, .string ⟨t.toArray⟩, .string ⟨#[]⟩, .string ⟨#[]⟩, .slice none 0 0]
 rw [World.size_alloc] at hb
 exact bodyPost_ret (ret_cell7 rfl _ (w.heap.size + 1) rfl _ _ _ _ _ _ _ _ hb) rfl ⟨rfl, ((Fr.refl [] w).alloc _).alloc _⟩
theorem es_new {A : Nat -> Prop} {w : World} {l : List Ex} {cs : List Value} (hL : Rep.L 82 A w l cs) (hn : A w.heap.size) (hm : l.length <= maxLen) :
  Rep.Es 82 A (w.alloc (.cells cs.toArray 82)) l (.slice (some ⟨w.heap.size, 0, none⟩) l.length l.length) := by
 have hlen := hL.length
 refine .mk l _ cs (Rep.L.keep ((Fr.refl [] w).alloc _) (fun g h => by simp) hL) ⟨hlen, .inr ⟨w.heap.size, 0, l.length, cs, rfl, Blk.new w _ cs, Nat.le_refl _, hm, by omega, ?_⟩⟩ (fun g hg => ?_)
 ·rw [List.drop_zero, List.take_of_length_le (by omega)]
 ·simp only [Value.ownBlock, Option.some.injEq] at hg
  subst hg
  exact hn
set_option maxRecDepth 100000 in
set_option maxHeartbeats 2000000 in
theorem two_any (op : Int) (a b : Ex) (ca cb : List Value) (w : World) (A : Nat -> Prop) (ha : Rep.E 82 A w a ca) (hb : Rep.E 82 A w b cb) :
  Calls Tryz.prog 118 #[.int .i64 op, .agg ca.toArray, .agg cb.toArray] w fun e w' => ∃ cs : List Value, e = .returned (.agg cs.toArray) /\ Rep.E 82 (fun g => A g \/ w.heap.size <= g) w' (PM.two op a b) cs /\ Fr [] w w' := by
 have HA := Hd ha
 have HBB := Hd hb
 obtain ⟨op1, kind1, int1, t1, tb1, n1, l1, a1, m1, c1, rfl, rfl, h1⟩ := Sm.e_cells ha
 obtain ⟨op2, kind2, int2, t2, tb2, n2, l2, a2, m2, c2, rfl, rfl, h2⟩ := Sm.e_cells hb
 clear ha hb h1 h2
 go_enter Tryz.func118, Tryz.ntmps118
 go_wp2_with fail
 have HW : Hid (Fr [] w (((w.alloc (.cells #[.int .i64 op1, .int .i64 kind1, .int .i64 int1, .string ⟨t1.toArray⟩, .string ⟨tb1.toArray⟩, .string ⟨n1.toArray⟩, .slice a1 m1 c1] 82)).alloc (.cells #[.int .i64 op2, .int .i64 kind2, .int .i64 int2, .string ⟨t2.toArray⟩, .string ⟨tb2.toArray⟩, .string ⟨n2.toArray⟩, .slice a2 m2 c2] 82)).alloc (.cells #[.int .i64 op, .int .i64 0, .int .i64 0, .string ⟨#[]⟩, .string ⟨#[]⟩, .string ⟨#[]⟩, .slice (some ⟨w.heap.size + 1 + 1 + 1, 0, none⟩) 2 2] 82))) := Hd ((((Fr.refl [] w).alloc _).alloc _).alloc _)
 have hb := Blk.new ((w.alloc (.cells #[.int .i64 op1, .int .i64 kind1, .int .i64 int1, .string ⟨t1.toArray⟩, .string ⟨tb1.toArray⟩, .string ⟨n1.toArray⟩, .slice a1 m1 c1] 82)).alloc (.cells #[.int .i64 op2, .int .i64 kind2, .int .i64 int2, .string ⟨t2.toArray⟩, .string ⟨tb2.toArray⟩, .string ⟨n2.toArray⟩, .slice a2 m2 c2] 82)) 82 [.int .i64 op, .int .i64 0, .int .i64 0, .string ⟨#[]⟩, .string ⟨#[]⟩, .string ⟨#[]⟩, .slice (some ⟨w.heap.size + 1 + 1 + 1, 0, none⟩) 2 2]
 rw [World.size_alloc, World.size_alloc] at hb
 refine bodyPost_ret (ret_cell7 rfl _ (w.heap.size + 1 + 1) rfl _ _ _ _ _ _ _ _ (hb.alloc _)) rfl ⟨_, rfl, ?_, HW.out.alloc _⟩
 have hL : Rep.L 82 (fun g => A g \/ w.heap.size <= g) _ [_, _] _ := .cons _ _ _ _ (Rep.E.mono (fun g h => .inl h) (Rep.E.keep HW.out (by simp) HA.out)) (.cons _ _ _ _ (Rep.E.mono (fun g h => .inl h) (Rep.E.keep HW.out (by simp) HBB.out)) .nil)
 have hes := es_new hL (.inr (by simp; omega)) (by simp [maxLen])
 exact .mk op 0 0 [] [] [] _ _ (by simpa using hes)
end Gn
end Go.Proofs.YtmdnhinpaflamaaGreatDoor
namespace Go.Proofs.YtmdnhinpaflamaaGreatDoor
open Go.RowKit
set_option linter.unusedVariables false
namespace Gn
open PM (Ex B)
open Px (Kd RL LsR kEx kIt kTag)
variable {α : Type} {K : Kd α} {T : TypeId} {w0 w w' w4 : World} {v v' : Value} {l : List α}
structure Gr (K : Kd α) (T : TypeId) (b0 : Nat) (w : World) (v : Value) (l : List α) : Prop where
 ex : ∃ cs, RL K (fun b => b0 <= b /\ v.ownBlock ≠ some b) w l cs /\ Row w T K.size v l.length cs
 own : ∀ b, v.ownBlock = some b -> b0 <= b
variable {b0 : Nat}
theorem Gr.nil : Gr K T b0 w (.slice none 0 0) [] := ⟨⟨[], .nil, Row.nil _ _ _⟩, fun b h => by simp [Value.ownBlock] at h⟩
theorem Gr.keep {X : List (Option Nat)} (h : Gr K T b0 w v l) (hf : Fr X w w') (hX : ∀ g, b0 <= g -> some g ∉ X) : Gr K T b0 w' v l := by
 obtain ⟨⟨cs, h1, h2⟩, h3⟩ := h
 exact ⟨⟨cs, RL.keep hf (fun g hg => hX g hg.1) h1, h2.keep hf (fun g hg => hX g (h3 g hg))⟩, h3⟩
theorem Gr.row (h : Gr K T b0 w v l) : ∃ cs, Row w T K.size v l.length cs := by obtain ⟨⟨cs, _, h⟩, _⟩ := h; exact ⟨cs, h⟩
theorem Gr.form (h : Gr K T b0 w v l) : ∃ a cap, v = .slice a l.length cap := by
 obtain ⟨cs, h⟩ := h.row
 rcases h.form with ⟨rfl, h0, _⟩ | ⟨g, off, cap, rfl, _, _⟩
 ·exact ⟨none, 0, by rw [h0]⟩
 ·exact ⟨_, _, rfl⟩
theorem Gr.done (h : Gr K T b0 w v l) : LsR K T b0 w v l := by
 obtain ⟨⟨cs, h1, h2⟩, h3⟩ := h
 exact ⟨cs, RL.mono (fun _ h => h.1) h1, h2, h3⟩
theorem Gr.live (h : Gr K T b0 w v l) : ∀ b, v.ownBlock = some b -> b < w.heap.size := by
 obtain ⟨⟨cs, h1, h2⟩, h3⟩ := h
 exact fun b hb => h2.block_lt hb
theorem Gr.push {x : α} {cs ys : List Value} (hR : RL K (fun b => b0 <= b /\ v.ownBlock ≠ some b) w l cs) (hrow : Row w T K.size v l.length cs) (hown : ∀ b, v.ownBlock = some b -> b0 <= b)
  (hb : b0 <= w.heap.size) (hx : K.E (fun b => b0 <= b /\ v.ownBlock ≠ some b) w x ys)
  (hrow' : Row w4 T K.size v' (l.length + 1) (cs ++ ys)) (hf4 : Fr [v.ownBlock] (w.alloc (.cells ys.toArray T)) w4) (hown' : v'.ownBlock = v.ownBlock \/ ∃ k, w.heap.size + 1 <= k /\ v'.ownBlock = some k) :
  Gr K T b0 w4 v' (l ++ [x]) /\ (∀ {X : List (Option Nat)} {wz : World}, wz.heap.size <= b0 -> Fr X wz w -> Fr X wz w4) := by
 have hvl : ∀ b, v.ownBlock = some b -> b < w.heap.size := fun b hb => hrow.block_lt hb
 have hv' : ∀ b, v'.ownBlock = some b -> v.ownBlock = some b \/ w.heap.size < b := by
  intro b hb
  rcases hown' with h | ⟨k, hk, h⟩
  ·exact .inl (h ▸ hb)
  ·rw [h] at hb
   simp at hb hk
   omega
 have hL : RL K (fun b => b0 <= b /\ v.ownBlock ≠ some b) w (l ++ [x]) (cs ++ ys) := .snoc _ _ _ _ hR hx
 have h2 : RL K (fun b => b0 <= b /\ v'.ownBlock ≠ some b) w4 (l ++ [x]) (cs ++ ys) := by
  refine RL.mono (fun b hb => ⟨hb.1.1, fun h => ?_⟩) (RL.keep (A := fun b => (b0 <= b /\ v.ownBlock ≠ some b) /\ b < w.heap.size) hf4 (fun b hb => by simp; exact fun h => hb.1.2 h.symm) (RL.keep ((Fr.refl [] w).alloc _) (fun b hb => by simp) hL.live))
  rcases hv' b h with h | h
  ·exact hb.1.2 h
  ·have := hb.2
   omega
 refine ⟨⟨⟨cs ++ ys, h2, by rw [List.length_append]; exact hrow'⟩, fun b hb => ?_⟩, fun hz hF => ?_⟩
 ·rcases hv' b hb with h | h
  ·exact hown b h
  ·omega
 ·refine (hF.alloc _).trans' hf4 (fun i hi => .inr ?_)
  simp at hi
  have := hown i hi.symm
  omega
theorem Gr.flat {cells : α -> List Value} {size : Nat} {hl : ∀ x, (cells x).length = size} {h1 : ∀ x, ∀ u ∈ cells x, u.oneCell' = true} (h : Gr (Px.kFlat cells size hl h1) T b0 w v l) : Px.FlatS T cells size (fun g => b0 <= g) w v l := Px.flat_of h.done
end Gn
end Go.Proofs.YtmdnhinpaflamaaGreatDoor
namespace Go.Proofs.YtmdnhinpaflamaaGreatDoor
open Go.RowKit
set_option linter.unusedVariables false
namespace Gn
open PM (Ex B)
open Px (z7 put7 frPut7 blkPut7 ret_cell7 c7_of ExR ItS itC kIt)
theorem flat_get {α : Type} {cells : α -> List Value} {size : Nat} (hs : ∀ x, (cells x).length = size) : ∀ {l : List α} {k i : Nat} (hk : k < l.length) (hi : i < size), (l.flatMap cells).getD (k * size + i) undef = (cells l[k]).getD i undef
 |[], _, _, hk, _ => by simp at hk
 |x :: l, 0, i, _, hi => by
  rw [List.flatMap_cons, Nat.zero_mul, Nat.zero_add, List.getD_eq_getElem?_getD, List.getElem?_append_left (by rw [hs]; exact hi), <- List.getD_eq_getElem?_getD]
  rfl
 |x :: l, k + 1, i, hk, hi => by
  have ih := flat_get hs (l := l) (k := k) (i := i) (by simpa using hk) hi
  have hx := hs x
  have e : (k + 1) * size = k * size + size := Nat.succ_mul ..
  rw [List.flatMap_cons, List.getD_eq_getElem?_getD, List.getElem?_append_right (by omega), hx, show (k + 1) * size + i - size = k * size + i by omega, <- List.getD_eq_getElem?_getD, ih]
  rfl
theorem its_cells {A : Nat -> Prop} {w : World} {v : Value} {l : List PM.It} (h : ItS A w v l) : ∃ a cap, v = .slice a l.length cap /\ ∀ k, (hk : k < l.length) -> ∃ g off, a = some ⟨g, off, none⟩ /\ A g /\ g < w.heap.size /\ l.length <= cap /\
  w.cell? ⟨g, off + k * 3, none⟩ = some (.int .i64 l[k].agg) /\ w.cell? ⟨g, off + k * 3 + 1, none⟩ = some (.string ⟨l[k].table.toArray⟩) /\ w.cell? ⟨g, off + k * 3 + 2, none⟩ = some (.string ⟨l[k].name.toArray⟩) := by
 obtain ⟨h, hA⟩ := h
 rcases h.form with ⟨rfl, h0, _⟩ | ⟨g, off, cap, rfl, hc, _⟩
 ·exact ⟨none, 0, by rw [h0], fun k hk => by omega⟩
 ·refine ⟨_, cap, rfl, fun k hk => ⟨g, off, rfl, hA g rfl, h.block_lt rfl, hc, ?_⟩⟩
  have hlen := h.1
  have key : ∀ i, (hi : i < 3) -> w.cell? ⟨g, off + k * 3 + i, none⟩ = some ((itC l[k]).getD i undef) := fun i hi => by
   rw [Nat.add_assoc, h.cells (k * 3 + i) (by omega)]
   congr 1
   exact flat_get (cells := itC) (size := 3) (fun x => rfl) hk hi
  exact ⟨key 0 (by omega), key 1 (by omega), key 2 (by omega)⟩
set_option maxRecDepth 100000 in
set_option maxHeartbeats 2000000 in
theorem once_any (A : Nat -> Prop) (v : Value) (l : List PM.It) (hl : l.length <= 100) (nm : B) (w : World) (h : ItS A w v l) :
  Calls Tryz.prog 117 #[v, .string ⟨nm.toArray⟩] w fun e w' => ∃ b : Bool, e = .returned (.bool b) /\ Fr [] w w' := by
 obtain ⟨a, cap, rfl, hc⟩ := its_cells h
 have HC := Hd hc
 clear h hc
 go_enter Tryz.func117, Tryz.ntmps117
 go_wp2_with fail
 go_loopw [5, 6] (fun n i wr => ∃ x k : Nat, n = .int .i64 x /\ i = .int .i64 k /\ x <= k /\ k <= l.length /\ Hid (Fr [] w wr)) (fun _ i _ => l.length - (intOf i).toNat)
 case atStart => exact ⟨0, 0, rfl, rfl, Nat.le_refl _, Nat.zero_le _, Hd (Fr.refl [] w)⟩
 case round =>
  obtain ⟨x, k, rfl, rfl, hx, hk, HF⟩ := hrel
  have hli : (l.length : Int) <= 100 := by omega
  by_cases hkl : k < l.length
  ·obtain ⟨g, off, rfl, _, hg, hcap, c0, c1, c2⟩ := HC.out k hkl
   have c2' := (HF.out.cell (p := ⟨g, off + k * 3 + 2, none⟩) hg (by simp)).trans c2
   have hkl' : (k : Int) < l.length := by omega
   clear c0 c1 c2
   go_wp2_with fail
   all_goals
    refine ⟨?_, by simp only [intOf]; omega⟩
    first
    |exact ⟨x + 1, k + 1, by go_num, by go_num, by omega, by omega, HF⟩
    |exact ⟨x, k + 1, rfl, by go_num, by omega, by omega, HF⟩
  ·go_wp2_with fail
   go_ret
   exact ⟨_, rfl, HF.out⟩
def OkIt (x : PM.It) : Prop := Pc.okName x.table = true /\ Pc.okName x.name = true /\ x.table.length <= 2 /\ x.name.length <= 2
def Ints (C P : Nat) (w : World) (v : Value) (ks : List Int) : Prop := ∃ a cap, v = .slice a ks.length cap /\ ∀ k, (hk : k < ks.length) -> ∃ g off, a = some ⟨g, off, none⟩ /\ g < C /\ g ≠ P /\ ks.length <= cap /\ w.cell? ⟨g, off + k, none⟩ = some (.int .i64 ks[k])
structure Cols (C P : Nat) (w : World) (vc vk : Value) (l : List PM.It) (ks : List Int) : Prop where
 le : C <= w.heap.size
 its : ItS (fun g => g < C /\ g ≠ P) w vc l
 ints : Ints C P w vk ks
 ok : ∀ x ∈ l, OkIt x
 len : ks.length = l.length
 short : l.length <= 20
 has : ∀ k : Int, k = 1 \/ k = 2 -> k ∈ ks
theorem Cols.keep {C P : Nat} {w w' : World} {vc vk : Value} {l : List PM.It} {ks : List Int} {S : List (Option Nat)} (h : Cols C P w vc vk l ks) (hf : Fr S w w') (hS : ∀ g, some g ∈ S -> C <= g \/ g = P) : Cols C P w' vc vk l ks := by
 obtain ⟨h0, h1, ⟨a, cap, e, h2⟩, h3, h4, h5, h6⟩ := h
 have key : ∀ g, g < C /\ g ≠ P -> some g ∉ S := fun g hg hm => by
  rcases hS g hm with h | h
  ·omega
  ·exact hg.2 h
 refine ⟨Nat.le_trans h0 hf.size, h1.keep hf key, ⟨a, cap, e, fun k hk => ?_⟩, h3, h4, h5, h6⟩
 obtain ⟨g, off, e, hg, hp, hc, hcell⟩ := h2 k hk
 exact ⟨g, off, e, hg, hp, hc, (hf.cell (p := ⟨g, off + k, none⟩) (Nat.lt_of_lt_of_le hg h0) (key g ⟨hg, hp⟩)).trans hcell⟩
structure ColTN (t n : B) : Prop where
 table : t = [] \/ Pc.okName t = true
 name : Pc.okName n = true
 lt : t.length <= 2
 ln : n.length <= 2
def exC (t n : B) : List Value := [.int .i64 2, .int .i64 0, .int .i64 0, .string ⟨#[]⟩, .string ⟨t.toArray⟩, .string ⟨n.toArray⟩, .slice none 0 0]
theorem info_it : (Tryz.prog.info? 60).map (fun i => (i.zero, i.size, i.bytes)) = some (some (.agg #[.int .i64 0, .string ⟨#[]⟩, .string ⟨#[]⟩]), 3, 40) := by kernel_rfl
set_option maxRecDepth 100000 in
set_option maxHeartbeats 4000000 in
theorem col_any {B C M : Nat} (P : Nat) (vc vk : Value) (l : List PM.It) (ks : List Int) (kind : Int) (hkind : kind = 1 \/ kind = 2) (w : World) (h : PK B M w P) (hc : Cols C P w vc vk l ks) :
  Calls Tryz.prog 69 #[.pointer (some ⟨P, 0, none⟩), vc, vk, .int .i64 kind] w fun e w' => ∃ t n, ColTN t n /\ e = .returned (.tuple #[.agg (exC t n).toArray, .bool true]) /\ PK B M w' P /\ Fr [some P] w w' := by
 have HK := Hd h
 have hPl := h.lt'
 have hBl := h.le
 obtain ⟨hCl, h1, ⟨ak, ck, rfl, hik⟩, hok, hlen, hsh, hhas⟩ := hc
 have HIT := Hd h1
 obtain ⟨ac, cc, rfl, hic⟩ := its_cells h1
 have HIK := Hd hik
 have HIC := Hd hic
 have HOK := Hd hok
 have HHAS := Hd (hhas kind hkind)
 have HLEN := Hd hlen
 have hls : (ks.length : Int) <= 20 := by omega
 obtain ⟨i0, hi, hz0, hz1, hz2⟩ := info_parts info_it
 clear h h1 hik hic hok hhas hlen
 go_enter Tryz.func69, Tryz.ntmps69
 go_wp2_with fail
 go_loopw [10, 11] (fun v i wr => ∃ (k : Nat) (acc : List PM.It), i = .int .i64 k /\ k <= l.length /\ acc.length <= k /\ Hid (Gr kIt 60 (w.heap.size + 1) wr v acc) /\ Hid (∀ x ∈ acc, x ∈ l) /\ Hid (∀ j, j < k -> ks[j]? = some kind -> acc ≠ []) /\ Hid (Fr [] (w.alloc (.cells z7.toArray 82)) wr)) (fun _ i _ => l.length - (intOf i).toNat)
 case atStart => exact ⟨0, [], rfl, Nat.zero_le _, Nat.zero_le _, Hd Gr.nil, Hd (by simp), Hd (fun j hj => by omega), Hd (Fr.refl [] _)⟩
 case round =>
  obtain ⟨k, acc, rfl, hk, hacc, HG, HM, HE, HF⟩ := hrel
  have hli : (l.length : Int) <= 20 := by omega
  have hsz := HF.out.size
  rw [World.size_alloc] at hsz
  by_cases hkl : k < l.length
  ·have hkl' : (k : Int) < l.length := by omega
   have hks : (k : Int) < ks.length := by have := HLEN.out; omega
   obtain ⟨g, off, rfl, hgB, hgP, hcap, ck0⟩ := HIK.out k (by have := HLEN.out; omega)
   obtain ⟨g2, off2, rfl, hg2, hgl2, hcap2, c0, c1, c2⟩ := HIC.out k hkl
   have frw : Fr [] w wr := ((Fr.refl [] w).alloc _).trans HF.out
   have ck0 := (frw.cell (p := ⟨g, off + k, none⟩) (by show g < _; omega) (by simp)).trans ck0
   have c0 := (frw.cell (p := ⟨g2, off2 + k * 3, none⟩) hgl2 (by simp)).trans c0
   have c1 := (frw.cell (p := ⟨g2, off2 + k * 3 + 1, none⟩) hgl2 (by simp)).trans c1
   have c2 := (frw.cell (p := ⟨g2, off2 + k * 3 + 2, none⟩) hgl2 (by simp)).trans c2
   obtain ⟨kk, hkk⟩ : ∃ kk, ks[k] = kk := ⟨_, rfl⟩
   rw [hkk] at ck0
   have HKK := Hd hkk
   obtain ⟨x, hx⟩ : ∃ x, l[k] = x := ⟨_, rfl⟩
   rw [hx] at c0 c1 c2
   have HX := Hd hx
   clear hkk hx frw
   by_cases he : kk = kind
   ·subst he
    obtain ⟨⟨cs, hRL, hROW⟩, hOWN⟩ := HG.out
    have HRL := Hd hRL
    have HROW := Hd hROW
    have HOWN := Hd hOWN
    obtain ⟨hmx, hby⟩ := Px.lim96 (n := acc.length) (b := 40) (by omega) (by omega)
    have HROW3 := Hd (hROW.keep ((Fr.refl [] wr).alloc (.cells (itC x).toArray 60)) (by simp))
    clear hRL hROW hOWN
    unfold itC at HROW3
    go_wp2_with (at_builtin; refine wpList_append_row rfl _ _ 26 rfl 60 i0 (.agg #[.int .i64 0, .string ⟨#[]⟩, .string ⟨#[]⟩]) 3 40 Tryz.underlying26 hi hz0 hz1 hz2 rfl (by decide) u10 acc.length cs rfl HROW3.out ⟨wr.heap.size, 0, none⟩ 1 1 (itC x) rfl rfl ?c1 ?c2 hmx hby ?_)
    case c1 => exact Lx.four_new wr 60 (itC x)
    case c2 => exact kIt.one (A := fun _ => True) (w := wr) (x := x) (rfl : itC x = itC x)
    intro v' w4 hr' hf' hb'
    obtain ⟨st1, st2⟩ := Gr.push (x := x) HRL.out HROW.out HOWN.out (by omega) (rfl : kIt.E _ wr x (itC x)) hr' hf' hb'
    have HG2 := Hd st1
    have HF2 : Hid (Fr [] (w.alloc (.cells z7.toArray 82)) w4) := Hd (st2 (by simp) HF.out)
    have HM2 : Hid (∀ y ∈ acc ++ [x], y ∈ l) := Hd (fun y hy => by
     rcases List.mem_append.1 hy with h | h
     ·exact HM.out y h
     ·rw [List.mem_singleton.1 h, <- HX.out]; exact List.getElem_mem _)
    clear hr' hf' hb' st1 st2 HROW3 HRL HROW HOWN
    go_wp2_with fail
    go_roundw
    case rel => exact ⟨k + 1, acc ++ [x], by go_num, by omega, by simp; omega, HG2, HM2, Hd (fun j _ _ => by simp), HF2⟩
    case measure => simp only [intOf]; omega
   ·go_wp2_with fail
    go_roundw
    case rel =>
     refine ⟨k + 1, acc, by go_num, by omega, by omega, HG, HM, Hd (fun j hj hjk => ?_), HF⟩
     rcases Nat.lt_or_ge j k with h | h
     ·exact HE.out j h hjk
     ·obtain rfl : j = k := by omega
      rw [List.getElem?_eq_getElem (by have := HLEN.out; omega), HKK.out] at hjk
      exact absurd (Option.some.inj hjk) he
    case measure => simp only [intOf]; omega
  ·have hkl' : ¬ (k : Int) < l.length := by omega
   have hne : acc ≠ [] := by
    obtain ⟨j, hj, hjk⟩ := List.mem_iff_getElem.1 HHAS.out
    exact HE.out j (by have := HLEN.out; omega) (by rw [List.getElem?_eq_getElem hj, hjk])
   have hlen1 : 1 <= acc.length := by cases acc with | nil => exact absurd rfl hne | cons => simp
   have hl1 : (1 : Int) <= acc.length := by omega
   have hl2 : (acc.length : Int) <= 20 := by omega
   have hits := Gr.flat HG.out
   obtain ⟨a2, cap2, rfl, hcells⟩ := its_cells hits
   have HITS := Hd hits
   have hn0 : ¬ (acc.length : Int) = 0 := by omega
   clear hits hcells hne HIC HIK
   go_wp2_with fail
   refine (num_any P acc.length hl1 (by omega) wr (HK.out.keep (((Fr.refl [] w).alloc _).trans HF.out) (by simp))).mono ?_
   rintro e w5 ⟨r, rfl, hr, hk5, hf5⟩
   have HITS5 := Hd (HITS.out.keep hf5 (fun g hg => by simp; omega))
   obtain ⟨a3, cap3, he3, hcells⟩ := its_cells HITS5.out
   simp only [Value.slice.injEq, true_and] at he3
   obtain ⟨rfl, rfl⟩ := he3
   obtain ⟨g, off, rfl, hg, hgl, hcap, c0, c1, c2⟩ := hcells r (by omega)
   obtain ⟨x, hx⟩ : ∃ x, acc[r] = x := ⟨_, rfl⟩
   rw [hx] at c0 c1 c2
   have HXL : Hid (OkIt x) := Hd (HOK.out x (HM.out x (by rw [<- hx]; exact List.getElem_mem _)))
   have HR5 : Hid (Blk w5 w.heap.size 82 z7) := Hd (((Blk.new w 82 z7).keep HF.out (by simp)).keep hf5 (by simp; omega))
   have HF5 : Hid (Fr [some P] w w5) := Hd ((((Fr.refl [] w).alloc _).trans HF.out |>.mono (S' := [some P]) (by simp)).trans hf5)
   have HK5 := Hd hk5
   have hs5 := HF5.out.size
   clear hx hk5 hf5 hcells HITS HITS5
   go_wp2_with fail
   have hk6 := (HK5.out.alloc (.cells (itC x).toArray 60)).alloc (.cells (exC x.table x.name).toArray 82)
   unfold itC exC at hk6
   refine (num_any P 3 (by decide) (by decide) _ hk6).mono ?_
   rintro e w6 ⟨r2, rfl, hr2, hk6, hf6⟩
   have HX6 : Hid (Blk w6 w5.heap.size 60 (itC x)) := Hd ((Blk.alloc (Blk.new w5 60 (itC x)) (.cells (exC x.table x.name).toArray 82)).keep hf6 (by simp; omega))
   have HE6 : Hid (Blk w6 (w5.heap.size + 1) 82 (exC x.table x.name)) := Hd (by
    have := Blk.new (w5.alloc (.cells (itC x).toArray 60)) 82 (exC x.table x.name)
    rw [World.size_alloc] at this
    exact this.keep hf6 (by simp; omega))
   have HR6 : Hid (Blk w6 w.heap.size 82 z7) := Hd (((HR5.out.alloc (.cells (itC x).toArray 60)).alloc (.cells (exC x.table x.name).toArray 82)).keep hf6 (by simp; omega))
   have HF6 : Hid (Fr [some P] w w6) := Hd (((HF5.out.alloc (.cells (itC x).toArray 60)).alloc (.cells (exC x.table x.name).toArray 82)).trans hf6)
   have HK6 := Hd hk6
   have HIT6 : Hid (ItS (fun g => g < C /\ g ≠ P) w6 (.slice ac l.length cc) l) := Hd (HIT.out.keep HF6.out (fun g hg => by simp; exact hg.2))
   clear hk6 hf6
   have y2 := HX6.out.cell 2
   have hby := HE6.out.lt
   obtain ⟨e0, e1, e2, e3, e4, e5, e6, q0, q1, q2, q3, q4, q5, q6⟩ := c7_of HE6.out
   obtain ⟨k0, k1, k2, k3, k4, k5, k6, f0, f1, f2, f3, f4, f5, f6⟩ := c7_of HR6.out
   have hne1 : ¬ w.heap.size = w5.heap.size + 1 := by omega
   have hne2 : ¬ w5.heap.size + 1 = w.heap.size := by omega
   simp only [itC, List.getElem?_cons_zero, List.getElem?_cons_succ] at y2
   by_cases hr0 : (r2 : Int) > 0
   ·go_wp2_with fail
    refine (once_any _ _ l (by omega) x.name w6 HIT6.out).mono ?_
    rintro e w7 ⟨b, rfl, hf7⟩
    have HE7 := Hd (HE6.out.keep hf7 (by simp))
    have HR7 := Hd (HR6.out.keep hf7 (by simp))
    have HF7 := Hd (HF6.out.trans' hf7 (by simp))
    have HK7 := Hd (HK6.out.keep hf7 (by simp))
    clear hf7 e0 e1 e2 e3 e4 e5 e6 q0 q1 q2 q3 q4 q5 q6 k0 k1 k2 k3 k4 k5 k6 f0 f1 f2 f3 f4 f5 f6 y2
    have hby := HE7.out.lt
    have hs7 := HF7.out.size
    obtain ⟨e0, e1, e2, e3, e4, e5, e6, q0, q1, q2, q3, q4, q5, q6⟩ := c7_of HE7.out
    obtain ⟨k0, k1, k2, k3, k4, k5, k6, f0, f1, f2, f3, f4, f5, f6⟩ := c7_of HR7.out
    cases b
    ·go_wp2_with fail
     refine bodyPost_ret (Px.ret2_cell7 rfl _ w.heap.size rfl _ rfl _ _ _ _ _ _ _ _ (blkPut7 HR7.out rfl _ _ _ _ _ _ _)) rfl ⟨x.table, x.name, ⟨.inr HXL.out.1, HXL.out.2.1, HXL.out.2.2.1, HXL.out.2.2.2⟩, rfl, ?_, ?_⟩
     ·exact HK7.out.keep (frPut7 (Fr.refl [some w.heap.size] _) (.inl (by simp)) _ _ _ _ _ _ _) (by simp; omega)
     ·exact frPut7 HF7.out (.inr (Nat.le_refl _)) _ _ _ _ _ _ _
    ·go_wp2_with fail
     have HR8 := HR7.out.keep ((Fr.refl [some (w5.heap.size + 1)] w7).setCell (p := ⟨w5.heap.size + 1, 4, none⟩) (.inl (by simp)) (.string ⟨#[]⟩)) (by simp; omega)
     have HF8 := HF7.out.setCell (p := ⟨w5.heap.size + 1, 4, none⟩) (.inr (show w.heap.size <= w5.heap.size + 1 by omega)) (.string ⟨#[]⟩)
     have HK8 := HK7.out.keep ((Fr.refl [some (w5.heap.size + 1)] w7).setCell (p := ⟨w5.heap.size + 1, 4, none⟩) (.inl (by simp)) (.string ⟨#[]⟩)) (by simp; omega)
     refine bodyPost_ret (Px.ret2_cell7 rfl _ w.heap.size rfl _ rfl _ _ _ _ _ _ _ _ (blkPut7 HR8 rfl _ _ _ _ _ _ _)) rfl ⟨[], x.name, ⟨.inl rfl, HXL.out.2.1, by simp, HXL.out.2.2.2⟩, rfl, ?_, ?_⟩
     ·exact HK8.keep (frPut7 (Fr.refl [some w.heap.size] _) (.inl (by simp)) _ _ _ _ _ _ _) (by simp; omega)
     ·exact frPut7 HF8 (.inr (Nat.le_refl _)) _ _ _ _ _ _ _
   ·go_wp2_with fail
    refine bodyPost_ret (Px.ret2_cell7 rfl _ w.heap.size rfl _ rfl _ _ _ _ _ _ _ _ (blkPut7 HR6.out rfl _ _ _ _ _ _ _)) rfl ⟨x.table, x.name, ⟨.inr HXL.out.1, HXL.out.2.1, HXL.out.2.2.1, HXL.out.2.2.2⟩, rfl, ?_, ?_⟩
    ·exact HK6.out.keep (frPut7 (Fr.refl [some w.heap.size] _) (.inl (by simp)) _ _ _ _ _ _ _) (by simp; omega)
    ·exact frPut7 HF6.out (.inr (Nat.le_refl _)) _ _ _ _ _ _ _
end Gn
end Go.Proofs.YtmdnhinpaflamaaGreatDoor
namespace Go.Proofs.YtmdnhinpaflamaaGreatDoor
open Go.RowKit
set_option linter.unusedVariables false
namespace Gn
theorem step_append_row {P : Program} {w : World} {ops : Array Oper} {o : Oper} {a : Act} {K : Act -> World -> Prop} {Q : Exit -> Act -> World -> Prop} {E : Prop} (hgd : o.guard = none) (s x : Operand) (t : TypeId)
  (ho : o.op = .call { callee := .builtin .append, args := #[s, x], argTypes := #[t, t] })
  (e : TypeId) (i : TypeInfo) (z : Value) (size bytes : Nat) (ht : P.underlying t = some (.slice e)) (hi : P.info? e = some i) (hz : i.zero = some z)
  (hsize : i.size = size) (hby : i.bytes = bytes) (hzs : z.cells.size = size) (hsz : 0 < size)
  (v : Value) (n : Nat) (xs : List Value) (hs : a.eval s = v) (hrow : Row w e size v n xs)
  (ad : Addr) (m c : Nat) (news : List Value) (hx : a.eval x = .slice (some ad) m c) (hl : news.length = m * size) (hnews : ∀ j u, news[j]? = some u -> w.cell? (ad.add j) = some u) (h1 : ∀ u ∈ news, u.oneCell' = true)
  (h63 : n + m <= maxLen) (hbytes : (n + m) * bytes <= 140737488355328)
  (h : ∀ v' w', Row w' e size v' (n + m) (xs ++ news) -> Fr [v.ownBlock] w w' -> (v'.ownBlock = v.ownBlock \/ ∃ k, w.heap.size <= k /\ v'.ownBlock = some k) -> K (a.put o.dst v') w') :
  if Region.wanted o (yielded ops a.tmps) = true then Oper.wp P o a w K Q else E := by
 have hw : Region.wanted o (yielded ops a.tmps) = true := by simp [Region.wanted, hgd]
 rw [if_pos hw]
 obtain ⟨v', w', hr, h2, h3, h4, _⟩ := run_append_row (P := P) t o.type e i z size bytes ht hi hz hsize hby hzs hsz v n xs hrow ad m c news hl hnews h1 h63 hbytes
 unfold Oper.wp execOp
 simp only [ho, resolve, invoke, builtin, Sem.run_bind, Sem.run_pure, Result.andThen_ok, List.map_toArray, List.map_cons, List.map_nil, hs, hx, hr]
 exact h v' w' h2 h3 h4
theorem col_info : (Tryz.prog.info? 60).map (fun i => (i.zero, i.size, i.bytes)) = some (some (.agg #[.int .i64 0, .string ⟨#[]⟩, .string ⟨#[]⟩]), 3, 40) := by kernel_rfl
theorem int_info : (Tryz.prog.info? 3).map (fun i => (i.zero, i.size, i.bytes)) = some (some (.int .i64 0), 1, 8) := by kernel_rfl
theorem info_parts' {o : Option TypeInfo} {z : Value} {s b : Nat} (h : o.map (fun i => (i.zero, i.size, i.bytes)) = some (some z, s, b)) : ∃ i, o = some i /\ i.zero = some z /\ i.size = s /\ i.bytes = b := by
 cases o with
 |none => cases h
 |some i => simp only [Option.map_some, Option.some.injEq, Prod.mk.injEq] at h; exact ⟨i, rfl, h.1, h.2.1, h.2.2⟩
theorem blk_cells {w : World} {b : Nat} {T : TypeId} {cs : List Value} (h : Blk w b T cs) : ∀ j u, cs[j]? = some u -> w.cell? ((⟨b, 0, none⟩ : Addr).add j) = some u := fun j u hu => by
 have hadd : (⟨b, 0, none⟩ : Addr).add j = ⟨b, j, none⟩ := by unfold Addr.add; split <;> simp_all
 rw [hadd, h.cell j, hu]
theorem blk_at {w : World} {b : Nat} {T : TypeId} {xs : List Value} (h : b = w.heap.size) : Blk (w.alloc (.cells xs.toArray T)) b T xs := h ▸ Blk.new w T xs
def ic (tn : List UInt8) (c : List UInt8 × Int) : List Value := [.int .i64 0, .string ⟨tn.toArray⟩, .string ⟨c.1.toArray⟩]
def kc (c : List UInt8 × Int) : List Value := [.int .i64 c.2]
theorem take_flat {α β : Type} (f : α -> List β) (l : List α) (k : Nat) (h : k < l.length) : (l.take (k + 1)).flatMap f = (l.take k).flatMap f ++ f l[k] := by
 rw [List.take_succ_eq_append_getElem h, List.flatMap_append]
 simp
structure AS (T1 T2 : TypeId) (s1 s2 : Nat) (wr : World) (u4 u5 : Value) (W : World) (v4 v5 : Value) (n4 n5 : Nat) (c4 c5 : List Value) : Prop where
 r4 : Row W T1 s1 v4 n4 c4
 r5 : Row W T2 s2 v5 n5 c5
 o4 : v4.ownBlock = u4.ownBlock \/ ∃ j, wr.heap.size <= j /\ v4.ownBlock = some j
 o5 : v5.ownBlock = u5.ownBlock \/ ∃ j, wr.heap.size <= j /\ v5.ownBlock = some j
 d : ∀ b, v4.ownBlock = some b -> v5.ownBlock ≠ some b
 f : Fr [u4.ownBlock, u5.ownBlock] wr W
section
variable {T1 T2 : TypeId} {s1 s2 : Nat} {wr W W' : World} {u4 u5 v4 v5 v' : Value} {n4 n5 n' : Nat} {c4 c5 c' : List Value}
theorem AS.move (h : AS T1 T2 s1 s2 wr u4 u5 W v4 v5 n4 n5 c4 c5) (hf : Fr [] W W') : AS T1 T2 s1 s2 wr u4 u5 W' v4 v5 n4 n5 c4 c5 :=
 ⟨h.r4.keep hf (by simp), h.r5.keep hf (by simp), h.o4, h.o5, h.d, h.f.trans' hf (by simp)⟩
theorem AS.app4 (h : AS T1 T2 s1 s2 wr u4 u5 W v4 v5 n4 n5 c4 c5) (hr : Row W' T1 s1 v' n' c') (hf : Fr [v4.ownBlock] W W') (hb : v'.ownBlock = v4.ownBlock \/ ∃ k, W.heap.size <= k /\ v'.ownBlock = some k) : AS T1 T2 s1 s2 wr u4 u5 W' v' v5 n' n5 c' c5 := by
 have hs := h.f.size
 refine ⟨hr, h.r5.keep hf (fun b hb hm => ?_), ?_, h.o5, fun b hv => ?_, h.f.trans' hf (fun i hi => ?_)⟩
 ·simp only [List.mem_singleton] at hm
  exact h.d b hm.symm hb
 ·rcases hb with hb | ⟨k, hk, hb⟩
  ·rw [hb]; exact h.o4
  ·exact .inr ⟨k, by omega, hb⟩
 ·rcases hb with hb | ⟨k, hk, hb⟩
  ·exact h.d b (hb ▸ hv)
  ·intro h5
   have := h.r5.block_lt h5
   rw [hb] at hv
   simp only [Option.some.injEq] at hv
   omega
 ·simp only [List.mem_singleton] at hi
  rcases h.o4 with ho | ⟨j, hj, ho⟩
  ·left; rw [hi, ho]; simp
  ·right; rw [ho] at hi; simp only [Option.some.injEq] at hi; omega
theorem AS.app5 (h : AS T1 T2 s1 s2 wr u4 u5 W v4 v5 n4 n5 c4 c5) (hr : Row W' T2 s2 v' n' c') (hf : Fr [v5.ownBlock] W W') (hb : v'.ownBlock = v5.ownBlock \/ ∃ k, W.heap.size <= k /\ v'.ownBlock = some k) : AS T1 T2 s1 s2 wr u4 u5 W' v4 v' n4 n' c4 c' := by
 have hs := h.f.size
 refine ⟨h.r4.keep hf (fun b hb hm => ?_), hr, h.o4, ?_, fun b hv => ?_, h.f.trans' hf (fun i hi => ?_)⟩
 ·simp only [List.mem_singleton] at hm
  exact h.d b hb hm.symm
 ·rcases hb with hb | ⟨k, hk, hb⟩
  ·rw [hb]; exact h.o5
  ·exact .inr ⟨k, by omega, hb⟩
 ·rcases hb with hb | ⟨k, hk, hb⟩
  ·rw [hb]; exact h.d b hv
  ·intro h5
   have := h.r4.block_lt hv
   rw [hb] at h5
   simp only [Option.some.injEq] at h5
   omega
 ·simp only [List.mem_singleton] at hi
  rcases h.o5 with ho | ⟨j, hj, ho⟩
  ·left; rw [hi, ho]; simp
  ·right; rw [ho] at hi; simp only [Option.some.injEq] at hi; omega
end
set_option maxRecDepth 100000 in
set_option maxHeartbeats 4000000 in
theorem cols_row (tn : List UInt8) (L : List (List UInt8 × Int)) (hL : L.length <= 10) (g off cap : Nat) (hcap : L.length <= cap) (ia : Option Addr) (il ik : Nat) (w : World) (hg : g < w.heap.size)
    (hc : ∀ j, (hj : j < L.length) -> w.cell? ⟨g, off + j * 3, none⟩ = some (.string ⟨L[j].1.toArray⟩) /\ w.cell? ⟨g, off + j * 3 + 1, none⟩ = some (.int .i64 L[j].2)) :
    Calls Tryz.prog 68 #[.agg #[.string ⟨tn.toArray⟩, .slice (some ⟨g, off, none⟩) L.length cap, .slice ia il ik]] w fun e w' => ∃ vc vk, e = .returned (.tuple #[vc, vk]) /\ Row w' 60 3 vc L.length (L.flatMap (ic tn)) /\ Row w' 3 1 vk L.length (L.flatMap kc) /\
      (∀ b, vc.ownBlock = some b -> w.heap.size <= b) /\ (∀ b, vk.ownBlock = some b -> w.heap.size <= b) /\ Fr [] w w' := by
  have HC := Hd hc
  obtain ⟨i0, hi, hz0, hz1, hz2⟩ := info_parts' col_info
  obtain ⟨k0, ki, kz0, kz1, kz2⟩ := info_parts' int_info
  clear hc
  go_enter Tryz.func68, Tryz.ntmps68
  go_wp2_with fail
  go_loopw [4, 5, 6] (fun u4 u5 u6 wr => ∃ k : Nat, u6 = .int .i64 k /\ k <= L.length /\ Hid (Row wr 60 3 u4 k ((L.take k).flatMap (ic tn))) /\ Hid (Row wr 3 1 u5 k ((L.take k).flatMap kc)) /\ Hid (∀ b, u4.ownBlock = some b -> w.heap.size < b) /\ Hid (∀ b, u5.ownBlock = some b -> w.heap.size < b) /\ Hid (∀ b, u4.ownBlock = some b -> u5.ownBlock ≠ some b) /\ Hid (Fr [] (w.alloc (.cells #[.string ⟨tn.toArray⟩, .slice (some ⟨g, off, none⟩) L.length cap, .slice ia il ik] 75)) wr)) (fun _ _ i _ => L.length - (intOf i).toNat)
  case atStart => exact ⟨0, rfl, Nat.zero_le _, Hd (Row.nil _ _ _), Hd (Row.nil _ _ _), Hd (fun b h => by simp [Value.ownBlock] at h), Hd (fun b h => by simp [Value.ownBlock] at h), Hd (fun b h => by simp [Value.ownBlock] at h), Hd (Fr.refl [] _)⟩
  case round =>
    obtain ⟨k, rfl, hk, HR4, HR5, HO4, HO5, HD, HF⟩ := hrel
    have hli : (L.length : Int) <= 10 := by omega
    have hBX := (Blk.new w 75 [.string ⟨tn.toArray⟩, .slice (some ⟨g, off, none⟩) L.length cap, .slice ia il ik]).keep HF.out (by simp)
    have b0 := hBX.cell 0
    have b1 := hBX.cell 1
    simp only [List.getElem?_cons_zero, List.getElem?_cons_succ] at b0 b1
    clear hBX
    have hcl : (L.length : Int) <= cap := by omega
    by_cases hkl : k < L.length
    · have hkl' : (k : Int) < L.length := by omega
      obtain ⟨c0, c1⟩ := HC.out k hkl
      obtain ⟨x, hx⟩ : ∃ x, L[k] = x := ⟨_, rfl⟩
      rw [hx] at c0 c1
      have HX := Hd hx
      have frw : Fr [] w wr := ((Fr.refl [] w).alloc _).trans HF.out
      have hsz := HF.out.size
      rw [World.size_alloc] at hsz
      have c0 := (frw.cell (p := ⟨g, off + k * 3, none⟩) hg (by simp)).trans c0
      have c1 := (frw.cell (p := ⟨g, off + k * 3 + 1, none⟩) hg (by simp)).trans c1
      clear hx frw
      go_wp2_with fail
      have hb1 : w.heap.size < wr.heap.size := by omega
      have hb2 : g < wr.heap.size := by omega
      have HW : Hid (Fr [] w wr) := Hd (((Fr.refl [] w).alloc _).trans HF.out)
      have HK1 : Hid (∀ W, Fr [u4.ownBlock, u5.ownBlock] wr W -> W.cell? ⟨w.heap.size, 0, none⟩ = some (.string ⟨tn.toArray⟩) /\ W.cell? ⟨w.heap.size, 1, none⟩ = some (.slice (some ⟨g, off, none⟩) L.length cap) /\ W.cell? ⟨g, off + k * 3, none⟩ = some (.string ⟨x.1.toArray⟩) /\ W.cell? ⟨g, off + k * 3 + 1, none⟩ = some (.int .i64 x.2)) := Hd (fun W hf => by
        have far : ∀ b, b <= w.heap.size -> some b ∉ [u4.ownBlock, u5.ownBlock] := fun b hb hm => by
          simp only [List.mem_cons, List.not_mem_nil, or_false] at hm
          rcases hm with h | h
          · have := HO4.out b h.symm; omega
          · have := HO5.out b h.symm; omega
        exact ⟨(hf.cell (p := ⟨w.heap.size, 0, none⟩) hb1 (far _ (Nat.le_refl _))).trans b0, (hf.cell (p := ⟨w.heap.size, 1, none⟩) hb1 (far _ (Nat.le_refl _))).trans b1, (hf.cell (p := ⟨g, off + k * 3, none⟩) hb2 (far g (Nat.le_of_lt hg))).trans c0, (hf.cell (p := ⟨g, off + k * 3 + 1, none⟩) hb2 (far g (Nat.le_of_lt hg))).trans c1⟩)
      have HAS : Hid (AS 60 3 3 1 wr u4 u5 wr u4 u5 k k ((L.take k).flatMap (ic tn)) ((L.take k).flatMap kc)) := Hd ⟨HR4.out, HR5.out, .inl rfl, .inl rfl, HD.out, Fr.refl _ _⟩
      have HN4 : Hid (∀ b, wr.heap.size <= b -> some b ∉ [u4.ownBlock]) := Hd (fun b hb hm => by simp only [List.mem_singleton] at hm; have := HR4.out.block_lt hm.symm; omega)
      have HN5 : Hid (∀ b, wr.heap.size <= b -> some b ∉ [u5.ownBlock]) := Hd (fun b hb hm => by simp only [List.mem_singleton] at hm; have := HR5.out.block_lt hm.symm; omega)
      have HL : Hid True := Hd trivial
      have hmx : k + 1 <= maxLen := by unfold maxLen; omega
      have hby1 : (k + 1) * 40 <= 140737488355328 := by omega
      have hby2 : (k + 1) * 8 <= 140737488355328 := by omega
      have h1a : ∀ u ∈ ic tn x, u.oneCell' = true := by simp [ic, Value.oneCell']
      have h1b : ∀ u ∈ kc x, u.oneCell' = true := by simp [kc, Value.oneCell']
      clear b0 b1 c0 c1 HR4 HR5
      go_region_held_law (fun W => W.cell? ⟨w.heap.size, 0, none⟩ = some (.string ⟨tn.toArray⟩) /\ W.cell? ⟨w.heap.size, 1, none⟩ = some (.slice (some ⟨g, off, none⟩) L.length cap) /\ W.cell? ⟨g, off + k * 3, none⟩ = some (.string ⟨x.1.toArray⟩) /\ W.cell? ⟨g, off + k * 3 + 1, none⟩ = some (.int .i64 x.2))
        ((refine HK1.out _ ?_; repeat (first | with_reducible exact HAS.out.f | with_reducible refine Fr.drew ?_ | with_reducible refine Fr.alloc ?_ _)))
        (first
          | (refine step_append_row (by rfl) _ _ 26 (by rfl) 60 i0 (.agg #[.int .i64 0, .string ⟨#[]⟩, .string ⟨#[]⟩]) 3 40 Tryz.underlying26 hi hz0 hz1 hz2 (by rfl) (by decide) u4 k ((L.take k).flatMap (ic tn)) (by rfl) ?row ⟨_, 0, none⟩ 1 1 (ic tn x) (by rfl) (by rfl) ?blk h1a hmx hby1 ?_
             case row => exact AS.r4 (HAS.out.move (by repeat (first | with_reducible exact Fr.refl _ _ | with_reducible refine Fr.drew ?_ | with_reducible refine Fr.alloc ?_ _)))
             case blk => refine blk_cells (T := 60) ?_; repeat (first | with_reducible refine Blk.drew ?_ | (with_reducible refine Blk.keep ?_ HL.out (HN5.out _ ?hb); case hb => (simp <;> omega)) | exact blk_at (by first | rfl | (simp; done)) | with_reducible refine Blk.alloc ?_ _)
             intro v' w4 hr' hf' hb'
             replace HAS := Hd (AS.app4 (HAS.out.move (by repeat (first | with_reducible exact Fr.refl _ _ | with_reducible refine Fr.drew ?_ | with_reducible refine Fr.alloc ?_ _))) hr' hf' hb')
             replace HL := Hd hf'
             clear hr' hf' hb')
          | (refine step_append_row (by rfl) _ _ 105 (by rfl) 3 k0 (.int .i64 0) 1 8 Tryz.underlying105 ki kz0 kz1 kz2 (by rfl) (by decide) u5 k ((L.take k).flatMap kc) (by rfl) ?row ⟨_, 0, none⟩ 1 1 (kc x) (by rfl) (by rfl) ?blk h1b hmx hby2 ?_
             case row => exact AS.r5 (HAS.out.move (by repeat (first | with_reducible exact Fr.refl _ _ | with_reducible refine Fr.drew ?_ | with_reducible refine Fr.alloc ?_ _)))
             case blk => refine blk_cells (T := 3) ?_; repeat (first | with_reducible refine Blk.drew ?_ | (with_reducible refine Blk.keep ?_ HL.out (HN4.out _ ?hb); case hb => (simp <;> omega)) | exact blk_at (by first | rfl | (simp; done)) | with_reducible refine Blk.alloc ?_ _)
             intro v' w4 hr' hf' hb'
             replace HAS := Hd (AS.app5 (HAS.out.move (by repeat (first | with_reducible exact Fr.refl _ _ | with_reducible refine Fr.drew ?_ | with_reducible refine Fr.alloc ?_ _))) hr' hf' hb')
             replace HL := Hd hf'
             clear hr' hf' hb'))
      all_goals
        go_wp2_with fail
        go_roundw
        case rel =>
          refine ⟨k + 1, by go_num, by omega, Hd (by rw [take_flat _ _ _ hkl, HX.out]; exact HAS.out.r4), Hd (by rw [take_flat _ _ _ hkl, HX.out]; exact HAS.out.r5), Hd (fun b hb => ?_), Hd (fun b hb => ?_), Hd HAS.out.d, Hd (HF.out.trans' HAS.out.f (fun i hi => .inr ?_))⟩
          · rcases HAS.out.o4 with h | ⟨j, hj, h⟩
            · exact HO4.out b (h ▸ hb)
            · rw [h] at hb; simp only [Option.some.injEq] at hb; omega
          · rcases HAS.out.o5 with h | ⟨j, hj, h⟩
            · exact HO5.out b (h ▸ hb)
            · rw [h] at hb; simp only [Option.some.injEq] at hb; omega
          · rw [World.size_alloc]
            simp only [List.mem_cons, List.not_mem_nil, or_false] at hi
            rcases hi with h | h
            · exact HO4.out i h.symm
            · exact HO5.out i h.symm
        case measure => simp only [intOf]; omega
    · have hkl' : ¬ (k : Int) < L.length := by omega
      obtain rfl : k = L.length := by omega
      go_wp2_with fail
      rw [List.take_length] at HR4 HR5
      exact bodyPost_ret (results_tmp2 (t := 2) (u := 3) rfl _ _ _) rfl ⟨u4, u5, rfl, HR4.out, HR5.out, fun b h => Nat.le_of_lt (HO4.out b h), fun b h => Nat.le_of_lt (HO5.out b h), ((Fr.refl [] w).alloc _).trans HF.out⟩
end Gn
end Go.Proofs.YtmdnhinpaflamaaGreatDoor
namespace Go.Proofs.YtmdnhinpaflamaaGreatDoor
open Go.RowKit
set_option linter.unusedVariables false
namespace Gn
open PM (Ex B)
open Px (ItS itC kIt)
def colsT : List Value := [.string ⟨#[107]⟩, .int .i64 1, .string ⟨#[]⟩, .string ⟨#[118]⟩, .int .i64 2, .string ⟨#[]⟩, .string ⟨#[110]⟩, .int .i64 1, .string ⟨#[]⟩]
def colsU : List Value := [.string ⟨#[107]⟩, .int .i64 2, .string ⟨#[]⟩, .string ⟨#[114]⟩, .int .i64 1, .string ⟨#[116]⟩, .string ⟨#[110]⟩, .int .i64 1, .string ⟨#[]⟩]
def tabs (n : Nat) : List Value := [.string ⟨#[116]⟩, .slice (some ⟨n + 1, 0, none⟩) 3 3, .slice (some ⟨n + 2, 0, none⟩) 1 1, .string ⟨#[117]⟩, .slice (some ⟨n + 3, 0, none⟩) 3 3, .slice none 0 0]
structure Sch (n : Nat) (w : World) : Prop where
 t : Blk w (n + 1) 57 colsT
 i : Blk w (n + 2) 9 [.string ⟨#[110]⟩]
 u : Blk w (n + 3) 57 colsU
 l : Blk w (n + 4) 75 (tabs n)
theorem Sch.keep {n : Nat} {w w' : World} {S : List (Option Nat)} (h : Sch n w) (hf : Fr S w w') (hS : ∀ g, some g ∈ S -> g <= n) : Sch n w' :=
 ⟨h.t.keep hf (fun hm => by have := hS _ hm; omega), h.i.keep hf (fun hm => by have := hS _ hm; omega), h.u.keep hf (fun hm => by have := hS _ hm; omega), h.l.keep hf (fun hm => by have := hS _ hm; omega)⟩
theorem ret_cell2 {fn : Func} {n : Nat} {T : TypeId} (h : fn.results = #[.cell n T]) (tmps : Array Value) (b : Nat) (h2 : tmps.getD n undef = .pointer (some ⟨b, 0, none⟩)) (w : World) (a0 a1 : Value) (hT : (Tryz.prog.info? T).map (fun i => (i.zero, i.size)) = (Tryz.prog.info? 69).map (fun i => (i.zero, i.size))) (hT2 : T = 69) (hb : Blk w b 69 [a0, a1]) :
  (results fn tmps).run Tryz.prog w = .ok (.agg #[a0, a1]) w := by
 subst hT2
 have c0 := hb.cell 0
 have c1 := hb.cell 1
 simp only [List.getElem?_cons_zero, List.getElem?_cons_succ] at c0 c1
 have h2' : tmps[n]?.getD undef = .pointer (some ⟨b, 0, none⟩) := by simpa using h2
 simp [results, h, h2', go_sem, c0, c1]
set_option maxRecDepth 100000 in
set_option maxHeartbeats 2000000 in
theorem schema_any (w : World) :
  Calls Tryz.prog 26 #[] w fun e w' => e = .returned (.agg #[.slice (some ⟨w.heap.size + 4, 0, none⟩) 2 2, .slice none 0 0]) /\ Sch w.heap.size w' /\ Fr [] w w' := by
 go_enter Tryz.func26, Tryz.ntmps26
 go_wp2_with fail
 have hs := Blk.new w 69 [.slice (some ⟨w.heap.size + 4, 0, none⟩) 2 2, .slice none 0 0]
 refine bodyPost_ret (ret_cell2 rfl _ w.heap.size rfl _ _ _ rfl rfl ((((hs.alloc _).alloc _).alloc _).alloc _)) rfl ⟨rfl, ?_, ((((((Fr.refl [] w).alloc _).alloc _).alloc _).alloc _).alloc _)⟩
 constructor
 ·have h := Blk.new (w.alloc (.cells #[.slice (some ⟨w.heap.size + 4, 0, none⟩) 2 2, .slice none 0 0] 69)) 57 colsT
  rw [World.size_alloc] at h
  exact ((h.alloc _).alloc _).alloc _
 ·have h := Blk.new ((w.alloc (.cells #[.slice (some ⟨w.heap.size + 4, 0, none⟩) 2 2, .slice none 0 0] 69)).alloc (.cells colsT.toArray 57)) 9 [.string ⟨#[110]⟩]
  rw [World.size_alloc, World.size_alloc] at h
  exact (h.alloc _).alloc _
 ·have h := Blk.new (((w.alloc (.cells #[.slice (some ⟨w.heap.size + 4, 0, none⟩) 2 2, .slice none 0 0] 69)).alloc (.cells colsT.toArray 57)).alloc (.cells #[.string ⟨#[110]⟩] 9)) 57 colsU
  rw [World.size_alloc, World.size_alloc, World.size_alloc] at h
  exact h.alloc _
 ·have h := Blk.new ((((w.alloc (.cells #[.slice (some ⟨w.heap.size + 4, 0, none⟩) 2 2, .slice none 0 0] 69)).alloc (.cells colsT.toArray 57)).alloc (.cells #[.string ⟨#[110]⟩] 9)).alloc (.cells colsU.toArray 57)) 75 (tabs w.heap.size)
  rw [World.size_alloc, World.size_alloc, World.size_alloc, World.size_alloc] at h
  exact h
theorem flat_cells {α : Type} {T : TypeId} {cells : α -> List Value} {size : Nat} (hs : ∀ x, (cells x).length = size) (h0 : 0 < size) {A : Nat -> Prop} {w : World} {v : Value} {l : List α} (h : Px.FlatS T cells size A w v l) : ∃ a cap, v = .slice a l.length cap /\ ∀ k, (hk : k < l.length) -> ∃ g off, a = some ⟨g, off, none⟩ /\ A g /\ g < w.heap.size /\ l.length <= cap /\
  ∀ i, i < size -> w.cell? ⟨g, off + k * size + i, none⟩ = some ((cells l[k]).getD i undef) := by
 obtain ⟨h, hA⟩ := h
 rcases h.form with ⟨rfl, h0, _⟩ | ⟨g, off, cap, rfl, hc, _⟩
 ·exact ⟨none, 0, by rw [h0], fun k hk => by omega⟩
 ·refine ⟨_, cap, rfl, fun k hk => ⟨g, off, rfl, hA g rfl, h.block_lt rfl, hc, fun i hi => ?_⟩⟩
  have hlt : k * size + i < (l.flatMap cells).length := by
   have h1 := h.1
   rw [h1]
   calc k * size + i < k * size + size := by omega
    _ = (k + 1) * size := (Nat.succ_mul ..).symm
    _ <= l.length * size := Nat.mul_le_mul_right _ hk
  rw [Nat.add_assoc, h.cells (k * size + i) hlt]
  congr 1
  exact flat_get hs hk hi
def intC (k : Int) : List Value := [.int .i64 k]
abbrev IntS := Px.FlatS 3 intC 1
theorem cols_of {C P : Nat} {w : World} {vc vk : Value} {l : List PM.It} {ks : List Int} (hle : C <= w.heap.size) (h1 : ItS (fun g => g < C /\ g ≠ P) w vc l) (h2 : IntS (fun g => g < C /\ g ≠ P) w vk ks) (hok : ∀ x ∈ l, OkIt x) (hlen : ks.length = l.length) (hsh : l.length <= 20) (hhas : ∀ k : Int, k = 1 \/ k = 2 -> k ∈ ks) : Cols C P w vc vk l ks := by
 obtain ⟨a, cap, rfl, hc⟩ := flat_cells (size := 1) (fun x => rfl) (by decide) h2
 refine ⟨hle, h1, ⟨a, cap, rfl, fun k hk => ?_⟩, hok, hlen, hsh, hhas⟩
 obtain ⟨g, off, e, hg, hlt, hcap, h⟩ := hc k hk
 have := h 0 (by decide)
 simp only [Nat.mul_one, Nat.add_zero] at this
 exact ⟨g, off, e, hg.1, hg.2, hcap, this⟩
def tname (i : Nat) : B := if i = 0 then [116] else [117]
def tcols (i : Nat) : List (B × Int) := if i = 0 then [([107], 1), ([118], 2), ([110], 1)] else [([107], 2), ([114], 1), ([110], 1)]
def tits (i : Nat) : List PM.It := (tcols i).map fun c => ⟨0, tname i, c.1⟩
def tkinds (i : Nat) : List Int := (tcols i).map (·.2)
def tabV (n i : Nat) : List Value := if i = 0 then [.string ⟨#[116]⟩, .slice (some ⟨n + 1, 0, none⟩) 3 3, .slice (some ⟨n + 2, 0, none⟩) 1 1] else [.string ⟨#[117]⟩, .slice (some ⟨n + 3, 0, none⟩) 3 3, .slice none 0 0]
theorem tits_ok {i : Nat} : ∀ x ∈ tits i, OkIt x := by
 unfold tits tcols tname
 split <;> simp [OkIt] <;> decide
theorem tkinds_has {i : Nat} (k : Int) (h : k = 1 \/ k = 2) : k ∈ tkinds i := by
 unfold tkinds tcols
 split <;> rcases h with rfl | rfl <;> decide
theorem tits_len (i : Nat) : (tits i).length = 3 := by unfold tits tcols; split <;> rfl
theorem tkinds_len (i : Nat) : (tkinds i).length = 3 := by unfold tkinds tcols; split <;> rfl
theorem row_its (tn : B) (L : List (B × Int)) : L.flatMap (ic tn) = (L.map (fun c => (⟨0, tn, c.1⟩ : PM.It))).flatMap Px.itC := by
 rw [List.flatMap_map]
 rfl
theorem row_ints (L : List (B × Int)) : L.flatMap kc = (L.map (·.2)).flatMap intC := by
 rw [List.flatMap_map]
 rfl
theorem cols_tab {i n : Nat} (hi : i < 2) (w : World) (h : Sch n w) :
  Calls Tryz.prog 68 #[.agg (tabV n i).toArray] w fun e w' => ∃ vc vk, e = .returned (.tuple #[vc, vk]) /\ ItS (fun g => w.heap.size <= g) w' vc (tits i) /\ IntS (fun g => w.heap.size <= g) w' vk (tkinds i) /\ Fr [] w w' := by
 have key : ∀ (L : List (B × Int)) (tn : B) (b : Nat) (ia : Option Addr) (il ik : Nat), L.length = 3 -> b < w.heap.size ->
   (∀ j, (hj : j < L.length) -> w.cell? ⟨b, 0 + j * 3, none⟩ = some (.string ⟨L[j].1.toArray⟩) /\ w.cell? ⟨b, 0 + j * 3 + 1, none⟩ = some (.int .i64 L[j].2)) ->
   Calls Tryz.prog 68 #[.agg #[.string ⟨tn.toArray⟩, .slice (some ⟨b, 0, none⟩) 3 3, .slice ia il ik]] w fun e w' => ∃ vc vk, e = .returned (.tuple #[vc, vk]) /\ ItS (fun g => w.heap.size <= g) w' vc (L.map fun c => ⟨0, tn, c.1⟩) /\ IntS (fun g => w.heap.size <= g) w' vk (L.map (·.2)) /\ Fr [] w w' := by
  intro L tn b ia il ik hL hb hc
  have := cols_row tn L (by omega) b 0 3 (by omega) ia il ik w hb hc
  rw [hL] at this
  refine this.mono ?_
  rintro e w' ⟨vc, vk, rfl, r1, r2, o1, o2, hf⟩
  refine ⟨vc, vk, rfl, ⟨?_, o1⟩, ⟨?_, o2⟩, hf⟩
  ·rw [List.length_map, hL, <- row_its]; exact r1
  ·rw [List.length_map, hL, <- row_ints]; exact r2
 rcases (by omega : i = 0 \/ i = 1) with rfl | rfl
 ·refine key (tcols 0) (tname 0) (n + 1) _ _ _ rfl h.t.lt ?_
  intro j hj
  have hj : j < 3 := hj
  rcases (by omega : j = 0 \/ j = 1 \/ j = 2) with rfl | rfl | rfl
  ·exact ⟨h.t.cell 0, h.t.cell 1⟩
  ·exact ⟨h.t.cell 3, h.t.cell 4⟩
  ·exact ⟨h.t.cell 6, h.t.cell 7⟩
 ·refine key (tcols 1) (tname 1) (n + 3) _ _ _ rfl h.u.lt ?_
  intro j hj
  have hj : j < 3 := hj
  rcases (by omega : j = 0 \/ j = 1 \/ j = 2) with rfl | rfl | rfl
  ·exact ⟨h.u.cell 0, h.u.cell 1⟩
  ·exact ⟨h.u.cell 3, h.u.cell 4⟩
  ·exact ⟨h.u.cell 6, h.u.cell 7⟩
end Gn
end Go.Proofs.YtmdnhinpaflamaaGreatDoor
namespace Go.Proofs.YtmdnhinpaflamaaGreatDoor
open Go.RowKit
namespace Parse
end Parse
end Go.Proofs.YtmdnhinpaflamaaGreatDoor
namespace Go.Proofs.YtmdnhinpaflamaaGreatDoor
open Go.RowKit
end Go.Proofs.YtmdnhinpaflamaaGreatDoor
