/- How the document shows an expression. -/
import Derived.Test.YtmdnhinpaflamaaDoorShA
import Derived.Deep.RegionHeld3
namespace Go.Proofs.YtmdnhinpaflamaaDoor
open Go.RowKit
set_option linter.unusedVariables false
namespace Sh
open PM (Ex B)
open CM (Pr)
open Gn (sh opB)

def ShownP (p : Pr) : Prop := p.ok = true → (sh p).length ≤ 60000 → ∀ (A : Nat → Prop) (w : World) (cs : List Value), Rep.E 41 A w p.ex cs →
  Calls Tryd.prog 23 #[.agg cs.toArray] w fun e w' => e = .returned (.string (bt (sh p))) ∧ Fr [] w w'
/-- one expression of which another is: its cells -/
theorem one_at {A : Nat → Prop} {w : World} {x : Ex} {a : Option Addr} {n c : Nat} (h : Rep.Es 41 A w [x] (.slice a n c)) : ∃ (g off : Nat) (ys : List Value), a = some ⟨g, off, none⟩ ∧ n = 1 ∧ 1 ≤ c ∧ g < w.heap.size ∧ Rep.E 41 A w x ys ∧ (∀ i u, ys[i]? = some u → w.cell? ⟨g, off + i, none⟩ = some u) := by
  obtain ⟨g, off, cap, ys, he, hcap, hg, hE, hcells⟩ := h.at 0 (by simp)
  simp only [Value.slice.injEq] at he
  obtain ⟨rfl, rfl, rfl⟩ := he
  have hc : ∀ i u, ys[i]? = some u → w.cell? ⟨g, off + i, none⟩ = some u := fun i u h => by have := hcells i u h; simpa using this
  obtain ⟨op, kind, int, text, table, name, args, b1, m1, d1, _, rfl, _⟩ := Sm.e_cells hE
  exact ⟨g, off, _, rfl, rfl, by simpa using hcap, World.block_lt_of_cell? w _ (hc 0 _ rfl), hE, hc⟩
theorem two_at {A : Nat → Prop} {w : World} {x y : Ex} {a : Option Addr} {n c : Nat} (h : Rep.Es 41 A w [x, y] (.slice a n c)) : ∃ (g off : Nat) (ys zs : List Value), a = some ⟨g, off, none⟩ ∧ n = 2 ∧ 2 ≤ c ∧ g < w.heap.size ∧ Rep.E 41 A w x ys ∧ Rep.E 41 A w y zs ∧
    (∀ i u, ys[i]? = some u → w.cell? ⟨g, off + i, none⟩ = some u) ∧ (∀ i u, zs[i]? = some u → w.cell? ⟨g, off + 7 + i, none⟩ = some u) := by
  obtain ⟨g, off, cap, ys, he, hcap, hg, hE, hcells⟩ := h.at 0 (by simp)
  obtain ⟨g2, off2, cap2, zs, he2, hcap2, hg2, hE2, hcells2⟩ := h.at 1 (by simp)
  simp only [Value.slice.injEq] at he he2
  obtain ⟨rfl, rfl, rfl⟩ := he
  simp only [Option.some.injEq, Addr.mk.injEq] at he2
  obtain ⟨⟨rfl, rfl, _⟩, _, rfl⟩ := he2
  have hc : ∀ i u, ys[i]? = some u → w.cell? ⟨g, off + i, none⟩ = some u := fun i u h => by have := hcells i u h; simpa using this
  have hc2 : ∀ i u, zs[i]? = some u → w.cell? ⟨g, off + 7 + i, none⟩ = some u := fun i u h => by have := hcells2 i u h; simpa using this
  obtain ⟨op, kind, int, text, table, name, args, b1, m1, d1, _, rfl, _⟩ := Sm.e_cells hE
  exact ⟨g, off, _, zs, rfl, rfl, by simpa using hcap, World.block_lt_of_cell? w _ (hc 0 _ rfl), hE, hE2, hc, hc2⟩
theorem sev {w : World} {g off : Nat} {a b c d e f u : Value} (h : ∀ i v, ([a, b, c, d, e, f, u] : List Value)[i]? = some v → w.cell? ⟨g, off + i, none⟩ = some v) :
    w.cell? ⟨g, off, none⟩ = some a ∧ w.cell? ⟨g, off + 1, none⟩ = some b ∧ w.cell? ⟨g, off + 2, none⟩ = some c ∧ w.cell? ⟨g, off + 3, none⟩ = some d ∧ w.cell? ⟨g, off + 4, none⟩ = some e ∧ w.cell? ⟨g, off + 5, none⟩ = some f ∧ w.cell? ⟨g, off + 6, none⟩ = some u := ⟨h 0 _ rfl, h 1 _ rfl, h 2 _ rfl, h 3 _ rfl, h 4 _ rfl, h 5 _ rfl, h 6 _ rfl⟩
theorem bs {s : ByteArray} {l : B} {n : Nat} (h : bt l = s) (hl : l.length ≤ n) : (s.size : Int) ≤ n := by rw [← h, bt_size]; omega
set_option maxRecDepth 100000 in
set_option maxHeartbeats 4000000 in
theorem shown_int (v : Nat) : ShownP (.int v) := by
  intro hok hlen A w cs h
  obtain ⟨op, kind, int, text, table, name, args, a, n, c, hx, rfl, _⟩ := Sm.e_cells h
  simp only [Pr.ex, Ex.mk.injEq] at hx
  obtain ⟨rfl, rfl, rfl, rfl, rfl, rfl, rfl⟩ := hx
  have hv : v ≤ 9223372036854775807 := of_decide_eq_true hok
  have HV := Lib.hid (fun w => value_int v hv w)
  have h0 : ¬ (v : Int) < 0 := by omega
  clear h hok hlen hv
  go_enter Tryd.func23, Tryd.ntmps23
  go_wp2_with fail
  refine (HV.out _).mono ?_
  rintro e w1 ⟨rfl, hf⟩
  go_wp2_with fail
  go_ret
  exact ⟨rfl, ((Fr.refl [] w).alloc _).trans hf⟩
set_option maxRecDepth 100000 in
set_option maxHeartbeats 4000000 in
theorem shown_text (t : B) : ShownP (.text t) := by
  intro hok hlen A w cs h
  obtain ⟨op, kind, int, text, table, name, args, a, n, c, hx, rfl, _⟩ := Sm.e_cells h
  simp only [Pr.ex, Ex.mk.injEq] at hx
  obtain ⟨rfl, rfl, rfl, rfl, rfl, rfl, rfl⟩ := hx
  have hv : t.length ≤ 1000 := by
    simp only [Pr.ok, Pc.okText, Bool.and_eq_true, decide_eq_true_eq] at hok
    omega
  have HV := Lib.hid (fun w => value_text t hv w)
  clear h hok hlen hv
  go_enter Tryd.func23, Tryd.ntmps23
  go_wp2_with fail
  refine (HV.out _).mono ?_
  rintro e w1 ⟨rfl, hf⟩
  go_wp2_with fail
  go_ret
  exact ⟨rfl, ((Fr.refl [] w).alloc _).trans hf⟩
theorem okName_len {t : B} (h : Pc.okName t = true) : t.length ≤ 16 := by
  simp only [Pc.okName, Bool.and_eq_true, decide_eq_true_eq] at h
  exact h.2
theorem okName_ne {t : B} (h : Pc.okName t = true) : t ≠ [] := by
  rintro rfl
  rw [show Pc.okName [] = false from by decide] at h
  cases h
set_option maxRecDepth 100000 in
set_option maxHeartbeats 4000000 in
theorem shown_colx (t nm : B) (p : Pr) (hp : p.ex = PM.colEx t nm) (h1 : t.length ≤ 1000) (h2 : nm.length ≤ 1000) (hs : colT t nm = sh p) : ShownP p := by
  intro hok hlen A w cs h
  rw [hp] at h
  obtain ⟨op, kind, int, text, table, name, args, a, n, c, hx, rfl, _⟩ := Sm.e_cells h
  simp only [PM.colEx, Ex.mk.injEq] at hx
  obtain ⟨rfl, rfl, rfl, rfl, rfl, rfl, rfl⟩ := hx
  have HV := Lib.hid (fun w => column_any t nm h1 h2 w)
  rw [← hs]
  clear h hok hlen hs
  go_enter Tryd.func23, Tryd.ntmps23
  go_wp2_with fail
  refine (HV.out _).mono ?_
  rintro e w1 ⟨rfl, hf⟩
  go_wp2_with fail
  go_ret
  exact ⟨rfl, ((Fr.refl [] w).alloc _).trans hf⟩
theorem shown_col (n : B) : ShownP (.col n) := fun hok => shown_colx [] n _ rfl (by simp) (by have := okName_len hok; omega) (colT_one n) hok
theorem shown_tcol (t n : B) : ShownP (.tcol t n) := fun hok => by
  have h : (Pc.okName t && Pc.okName n) = true := hok
  simp only [Bool.and_eq_true] at h
  exact shown_colx t n _ rfl (by have := okName_len h.1; omega) (by have := okName_len h.2; omega) (colT_two (okName_ne h.1)) hok
set_option maxRecDepth 100000 in
set_option maxHeartbeats 4000000 in
theorem shown_neg (p : Pr) (ih : ShownP p) : ShownP (.neg p) := by
  intro hok hlen A w cs h
  obtain ⟨op, kind, int, text, table, name, args, a, n, c, hx, rfl, hes⟩ := Sm.e_cells h
  simp only [Pr.ex, PM.un, Ex.mk.injEq] at hx
  obtain ⟨rfl, rfl, rfl, rfl, rfl, rfl, rfl⟩ := hx
  obtain ⟨g, off, ys, rfl, rfl, hc, hg, hE, hcell⟩ := one_at hes
  obtain ⟨op, kind, int, text, table, name, args, b1, m1, d1, _, rfl, _⟩ := Sm.e_cells hE
  obtain ⟨y0, y1, y2, y3, y4, y5, y6⟩ := sev hcell
  have hl : (sh p).length ≤ 60000 := by have := hlen; rw [Gn.sh_neg] at this; simp at this; omega
  obtain ⟨s, hs⟩ : ∃ s, bt (sh p) = s := ⟨_, rfl⟩
  have hsz := bs hs hl
  have hE1 := fun o => ih hok hl _ _ _ (Rep.E.keep ((Fr.refl [] w).alloc o) (by simp) hE)
  rw [hs] at hE1
  have HC := Lib.hid hE1
  have HS := Lib.hid hs
  have hcl : (1 : Int) ≤ c := by omega
  have hgw : ¬ g = w.heap.size := by omega
  clear h hes hE hcell hok hlen hl hE1 hs ih
  go_enter Tryd.func23, Tryd.ntmps23
  go_wp2_with fail
  refine (HC.out _).mono ?_
  rintro e w1 ⟨rfl, hf⟩
  go_wp2_with fail
  go_ret
  refine ⟨?_, ((Fr.refl [] w).alloc _).trans hf⟩
  have e : bt [40, 45] ++ s ++ bt [41] = bt (sh (.neg p)) := by rw [← HS.out, bt_cat, bt_cat, Gn.sh_neg]
  exact congrArg (fun z => Ending.returned (.string z)) e
set_option maxRecDepth 100000 in
set_option maxHeartbeats 4000000 in
theorem shown_not (p : Pr) (ih : ShownP p) : ShownP (.not p) := by
  intro hok hlen A w cs h
  obtain ⟨op, kind, int, text, table, name, args, a, n, c, hx, rfl, hes⟩ := Sm.e_cells h
  simp only [Pr.ex, PM.un, Ex.mk.injEq] at hx
  obtain ⟨rfl, rfl, rfl, rfl, rfl, rfl, rfl⟩ := hx
  obtain ⟨g, off, ys, rfl, rfl, hc, hg, hE, hcell⟩ := one_at hes
  obtain ⟨op, kind, int, text, table, name, args, b1, m1, d1, _, rfl, _⟩ := Sm.e_cells hE
  obtain ⟨y0, y1, y2, y3, y4, y5, y6⟩ := sev hcell
  have hl : (sh p).length ≤ 60000 := by have := hlen; rw [Gn.sh_not] at this; simp at this; omega
  obtain ⟨s, hs⟩ : ∃ s, bt (sh p) = s := ⟨_, rfl⟩
  have hsz := bs hs hl
  have hE1 := fun o => ih hok hl _ _ _ (Rep.E.keep ((Fr.refl [] w).alloc o) (by simp) hE)
  rw [hs] at hE1
  have HC := Lib.hid hE1
  have HS := Lib.hid hs
  have hcl : (1 : Int) ≤ c := by omega
  have hgw : ¬ g = w.heap.size := by omega
  clear h hes hE hcell hok hlen hl hE1 hs ih
  go_enter Tryd.func23, Tryd.ntmps23
  go_wp2_with fail
  refine (HC.out _).mono ?_
  rintro e w1 ⟨rfl, hf⟩
  go_wp2_with fail
  go_ret
  refine ⟨?_, ((Fr.refl [] w).alloc _).trans hf⟩
  have e : bt [40, 110, 111, 116, 32] ++ s ++ bt [41] = bt (sh (.not p)) := by rw [← HS.out, bt_cat, bt_cat, Gn.sh_not]
  exact congrArg (fun z => Ending.returned (.string z)) e
theorem ops_get {o : Nat} (h : o < 11) : ([.string ⟨#[43]⟩, .string ⟨#[45]⟩, .string ⟨#[42]⟩, .string ⟨#[61]⟩, .string ⟨#[60, 62]⟩, .string ⟨#[60]⟩, .string ⟨#[60, 61]⟩, .string ⟨#[62]⟩, .string ⟨#[62, 61]⟩, .string ⟨#[97, 110, 100]⟩, .string ⟨#[111, 114]⟩] : List Value)[o]? = some (.string (bt (opB o))) := by
  rcases (by omega : o = 0 ∨ o = 1 ∨ o = 2 ∨ o = 3 ∨ o = 4 ∨ o = 5 ∨ o = 6 ∨ o = 7 ∨ o = 8 ∨ o = 9 ∨ o = 10) with rfl | rfl | rfl | rfl | rfl | rfl | rfl | rfl | rfl | rfl | rfl <;> rfl
set_option maxRecDepth 100000 in
set_option maxHeartbeats 4000000 in
theorem shown_bin (o : Nat) (p q : Pr) (ihp : ShownP p) (ihq : ShownP q) : ShownP (.bin o p q) := by
  intro hok hlen A w cs h
  obtain ⟨op, kind, int, text, table, name, args, a, n, c, hx, rfl, hes⟩ := Sm.e_cells h
  simp only [Pr.ex, PM.two, Ex.mk.injEq] at hx
  obtain ⟨rfl, rfl, rfl, rfl, rfl, rfl, rfl⟩ := hx
  obtain ⟨g, off, ys, zs, rfl, rfl, hc, hg, hE, hE2, hcell, hcell2⟩ := two_at hes
  obtain ⟨op, kind, int, text, table, name, args, b1, m1, d1, _, rfl, _⟩ := Sm.e_cells hE
  obtain ⟨op2, kind2, int2, text2, table2, name2, args2, b2, m2, d2, _, rfl, _⟩ := Sm.e_cells hE2
  have HC1 := Lib.hid (sev hcell)
  have HC2 := Lib.hid (sev hcell2)
  simp only [Pr.ok, Bool.and_eq_true, decide_eq_true_eq] at hok
  obtain ⟨⟨ho, hp⟩, hq⟩ := hok
  have hl := hlen
  rw [Gn.sh_bin] at hl
  simp only [List.length_append, List.length_cons, List.length_nil] at hl
  obtain ⟨s, hs⟩ : ∃ s, bt (sh p) = s := ⟨_, rfl⟩
  obtain ⟨u, hu⟩ : ∃ u, bt (sh q) = u := ⟨_, rfl⟩
  obtain ⟨r, hr⟩ : ∃ r, bt (opB o) = r := ⟨_, rfl⟩
  have hsz := bs hs (n := 60000) (by omega)
  have huz := bs hu (n := 60000) (by omega)
  have hrz := bs hr (n := 3) (Gn.opB_len o)
  have HP : Hid (∀ w', Fr [] w w' → Calls Tryd.prog 23 #[.agg #[.int .i64 op, .int .i64 kind, .int .i64 int, .string ⟨text.toArray⟩, .string ⟨table.toArray⟩, .string ⟨name.toArray⟩, .slice b1 m1 d1]] w' fun e w'' => e = .returned (.string s) ∧ Fr [] w' w'') := Lib.hid (fun w' hf => by have := ihp hp (by omega) _ _ _ (Rep.E.keep hf (by simp) hE); rwa [hs] at this)
  have HQ : Hid (∀ w', Fr [] w w' → Calls Tryd.prog 23 #[.agg #[.int .i64 op2, .int .i64 kind2, .int .i64 int2, .string ⟨text2.toArray⟩, .string ⟨table2.toArray⟩, .string ⟨name2.toArray⟩, .slice b2 m2 d2]] w' fun e w'' => e = .returned (.string u) ∧ Fr [] w' w'') := Lib.hid (fun w' hf => by have := ihq hq (by omega) _ _ _ (Rep.E.keep hf (by simp) hE2); rwa [hu] at this)
  have HEQ : Hid (bt [40] ++ s ++ bt [32] ++ r ++ bt [32] ++ u ++ bt [41] = bt (sh (.bin o p q))) := Lib.hid (by rw [← hs, ← hu, ← hr, Gn.sh_bin]; simp only [bt_cat])
  have HOPS := Lib.hid (Blk.new (w.alloc (.cells #[.int .i64 (5 + o), .int .i64 0, .int .i64 0, .string ⟨#[]⟩, .string ⟨#[]⟩, .string ⟨#[]⟩, .slice (some ⟨g, off, none⟩) 2 c] 41)) 9 [.string ⟨#[43]⟩, .string ⟨#[45]⟩, .string ⟨#[42]⟩, .string ⟨#[61]⟩, .string ⟨#[60, 62]⟩, .string ⟨#[60]⟩, .string ⟨#[60, 61]⟩, .string ⟨#[62]⟩, .string ⟨#[62, 61]⟩, .string ⟨#[97, 110, 100]⟩, .string ⟨#[111, 114]⟩])
  have hcr := HOPS.out.cell o
  rw [ops_get ho, World.size_alloc, hr] at hcr
  have HF0 : Hid (Fr [] w ((w.alloc (.cells #[.int .i64 (5 + o), .int .i64 0, .int .i64 0, .string ⟨#[]⟩, .string ⟨#[]⟩, .string ⟨#[]⟩, .slice (some ⟨g, off, none⟩) 2 c] 41)).alloc (.cells #[.string ⟨#[43]⟩, .string ⟨#[45]⟩, .string ⟨#[42]⟩, .string ⟨#[61]⟩, .string ⟨#[60, 62]⟩, .string ⟨#[60]⟩, .string ⟨#[60, 61]⟩, .string ⟨#[62]⟩, .string ⟨#[62, 61]⟩, .string ⟨#[97, 110, 100]⟩, .string ⟨#[111, 114]⟩] 9))) := Lib.hid (((Fr.refl [] w).alloc _).alloc _)
  have HB0 : Hid (Blk (w.alloc (.cells #[.int .i64 (5 + o), .int .i64 0, .int .i64 0, .string ⟨#[]⟩, .string ⟨#[]⟩, .string ⟨#[]⟩, .slice (some ⟨g, off, none⟩) 2 c] 41)) w.heap.size 41 [.int .i64 (5 + o), .int .i64 0, .int .i64 0, .string ⟨#[]⟩, .string ⟨#[]⟩, .string ⟨#[]⟩, .slice (some ⟨g, off, none⟩) 2 c]) := Lib.hid (Blk.new w _ _)
  have hcl : (2 : Int) ≤ c := by omega
  have hgw : ¬ g = w.heap.size := by omega
  have ho11 : (o : Int) < 11 := by omega
  have hsub : 0 ≤ 5 + (o : Int) - 5 := by omega
  have hsub2 : 5 + (o : Int) - 5 < 11 := by omega
  have q1 : ¬ 9223372036854775807 < 1 + s.size := by omega
  have q2 : ¬ 9223372036854775807 < 1 + s.size + 1 := by omega
  have q3 : ¬ 9223372036854775807 < 1 + s.size + 1 + r.size := by omega
  have q4 : ¬ 9223372036854775807 < 1 + s.size + 1 + r.size + 1 := by omega
  have q5 : ¬ 9223372036854775807 < 1 + s.size + 1 + r.size + 1 + u.size := by omega
  have q6 : ¬ 9223372036854775807 < 1 + s.size + 1 + r.size + 1 + u.size + 1 := by omega
  clear h hes hE hE2 hcell hcell2 hlen hl hs hu hr ihp ihq hp hq
  go_enter Tryd.func23, Tryd.ntmps23
  go_wp2_with fail
  have HBX : Hid (Blk ((w.alloc (.cells #[.int .i64 (5 + o), .int .i64 0, .int .i64 0, .string ⟨#[]⟩, .string ⟨#[]⟩, .string ⟨#[]⟩, .slice (some ⟨g, off, none⟩) 2 c] 41)).alloc (.cells #[.string ⟨#[43]⟩, .string ⟨#[45]⟩, .string ⟨#[42]⟩, .string ⟨#[61]⟩, .string ⟨#[60, 62]⟩, .string ⟨#[60]⟩, .string ⟨#[60, 61]⟩, .string ⟨#[62]⟩, .string ⟨#[62, 61]⟩, .string ⟨#[97, 110, 100]⟩, .string ⟨#[111, 114]⟩] 9)) w.heap.size 41 [.int .i64 (5 + o), .int .i64 0, .int .i64 0, .string ⟨#[]⟩, .string ⟨#[]⟩, .string ⟨#[]⟩, .slice (some ⟨g, off, none⟩) 2 c]) := Lib.hid (HB0.out.alloc _)
  clear HOPS HB0 hcr
  generalize (w.alloc (.cells #[.int .i64 (5 + o), .int .i64 0, .int .i64 0, .string ⟨#[]⟩, .string ⟨#[]⟩, .string ⟨#[]⟩, .slice (some ⟨g, off, none⟩) 2 c] 41)).alloc (.cells #[.string ⟨#[43]⟩, .string ⟨#[45]⟩, .string ⟨#[42]⟩, .string ⟨#[61]⟩, .string ⟨#[60, 62]⟩, .string ⟨#[60]⟩, .string ⟨#[60, 61]⟩, .string ⟨#[62]⟩, .string ⟨#[62, 61]⟩, .string ⟨#[97, 110, 100]⟩, .string ⟨#[111, 114]⟩] 9) = w0 at HF0 HBX ⊢
  have HKEY : Hid (∀ W, Fr [] w0 W → (Hid (Fr [] w0 W) ∧ W.cell? ⟨g, off, none⟩ = some (.int .i64 op) ∧ W.cell? ⟨g, off + 1, none⟩ = some (.int .i64 kind) ∧ W.cell? ⟨g, off + 2, none⟩ = some (.int .i64 int) ∧ W.cell? ⟨g, off + 3, none⟩ = some (.string ⟨text.toArray⟩) ∧ W.cell? ⟨g, off + 4, none⟩ = some (.string ⟨table.toArray⟩) ∧ W.cell? ⟨g, off + 5, none⟩ = some (.string ⟨name.toArray⟩) ∧ W.cell? ⟨g, off + 6, none⟩ = some (.slice b1 m1 d1) ∧ W.cell? ⟨g, off + 7, none⟩ = some (.int .i64 op2) ∧ W.cell? ⟨g, off + 7 + 1, none⟩ = some (.int .i64 kind2) ∧ W.cell? ⟨g, off + 7 + 2, none⟩ = some (.int .i64 int2) ∧ W.cell? ⟨g, off + 7 + 3, none⟩ = some (.string ⟨text2.toArray⟩) ∧ W.cell? ⟨g, off + 7 + 4, none⟩ = some (.string ⟨table2.toArray⟩) ∧ W.cell? ⟨g, off + 7 + 5, none⟩ = some (.string ⟨name2.toArray⟩) ∧ W.cell? ⟨g, off + 7 + 6, none⟩ = some (.slice b2 m2 d2) ∧ W.cell? ⟨w.heap.size, 6, none⟩ = some (.slice (some ⟨g, off, none⟩) 2 c))) := Lib.hid fun W hW => by
    have hf := HF0.out.trans hW
    obtain ⟨y0, y1, y2, y3, y4, y5, y6⟩ := HC1.out
    obtain ⟨z0, z1, z2, z3, z4, z5, z6⟩ := HC2.out
    exact ⟨Lib.hid hW, (hf.cell (p := ⟨g, off, none⟩) hg (by simp)).trans y0, (hf.cell (p := ⟨g, off + 1, none⟩) hg (by simp)).trans y1, (hf.cell (p := ⟨g, off + 2, none⟩) hg (by simp)).trans y2, (hf.cell (p := ⟨g, off + 3, none⟩) hg (by simp)).trans y3, (hf.cell (p := ⟨g, off + 4, none⟩) hg (by simp)).trans y4, (hf.cell (p := ⟨g, off + 5, none⟩) hg (by simp)).trans y5, (hf.cell (p := ⟨g, off + 6, none⟩) hg (by simp)).trans y6, (hf.cell (p := ⟨g, off + 7, none⟩) hg (by simp)).trans z0, (hf.cell (p := ⟨g, off + 7 + 1, none⟩) hg (by simp)).trans z1, (hf.cell (p := ⟨g, off + 7 + 2, none⟩) hg (by simp)).trans z2, (hf.cell (p := ⟨g, off + 7 + 3, none⟩) hg (by simp)).trans z3, (hf.cell (p := ⟨g, off + 7 + 4, none⟩) hg (by simp)).trans z4, (hf.cell (p := ⟨g, off + 7 + 5, none⟩) hg (by simp)).trans z5, (hf.cell (p := ⟨g, off + 7 + 6, none⟩) hg (by simp)).trans z6, (HBX.out.keep hW (by simp)).cell 6⟩
  have HFa : Hid (Fr [] w0 w0) := Lib.hid (Fr.refl [] w0)
  go_region_held3 (fun W => Hid (Fr [] w0 W) ∧ W.cell? ⟨g, off, none⟩ = some (.int .i64 op) ∧ W.cell? ⟨g, off + 1, none⟩ = some (.int .i64 kind) ∧ W.cell? ⟨g, off + 2, none⟩ = some (.int .i64 int) ∧ W.cell? ⟨g, off + 3, none⟩ = some (.string ⟨text.toArray⟩) ∧ W.cell? ⟨g, off + 4, none⟩ = some (.string ⟨table.toArray⟩) ∧ W.cell? ⟨g, off + 5, none⟩ = some (.string ⟨name.toArray⟩) ∧ W.cell? ⟨g, off + 6, none⟩ = some (.slice b1 m1 d1) ∧ W.cell? ⟨g, off + 7, none⟩ = some (.int .i64 op2) ∧ W.cell? ⟨g, off + 7 + 1, none⟩ = some (.int .i64 kind2) ∧ W.cell? ⟨g, off + 7 + 2, none⟩ = some (.int .i64 int2) ∧ W.cell? ⟨g, off + 7 + 3, none⟩ = some (.string ⟨text2.toArray⟩) ∧ W.cell? ⟨g, off + 7 + 4, none⟩ = some (.string ⟨table2.toArray⟩) ∧ W.cell? ⟨g, off + 7 + 5, none⟩ = some (.string ⟨name2.toArray⟩) ∧ W.cell? ⟨g, off + 7 + 6, none⟩ = some (.slice b2 m2 d2) ∧ W.cell? ⟨w.heap.size, 6, none⟩ = some (.slice (some ⟨g, off, none⟩) 2 c))
    (first
      | exact HKEY.out _ HFa.out
      | exact HKEY.out _ HFa.out.drew)
    (first
      | (go_at_call 23
         with_reducible refine Calls.mono (HP.out _ ?hf0) ?_
         case hf0 => first | exact HF0.out.trans HFa.out | exact HF0.out.trans HFa.out.drew
         rintro e wz ⟨rfl, hf⟩
         replace HFa : Hid (Fr [] w0 wz) := Lib.hid (by first | exact HFa.out.trans hf | exact HFa.out.drew.trans hf)
         clear hf)
      | (go_at_call 23
         with_reducible refine Calls.mono (HQ.out _ ?hf0) ?_
         case hf0 => first | exact HF0.out.trans HFa.out | exact HF0.out.trans HFa.out.drew
         rintro e wz ⟨rfl, hf⟩
         replace HFa : Hid (Fr [] w0 wz) := Lib.hid (by first | exact HFa.out.trans hf | exact HFa.out.drew.trans hf)
         clear hf))
  all_goals
    go_wp2_with fail
    go_ret
    exact ⟨congrArg (fun z => Ending.returned (.string z)) HEQ.out, HF0.out.trans HFa.out⟩
/-- Expr: how an expression is shown -/
theorem shown_any : ∀ p : Pr, ShownP p
  | .int v => shown_int v
  | .text t => shown_text t
  | .col n => shown_col n
  | .tcol t n => shown_tcol t n
  | .neg a => shown_neg a (shown_any a)
  | .not a => shown_not a (shown_any a)
  | .bin o a b => shown_bin o a b (shown_any a) (shown_any b)
end Sh
end Go.Proofs.YtmdnhinpaflamaaDoor
