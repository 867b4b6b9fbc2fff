/- A column of a kind among some. -/
import Derived.Test.YtmdnhinpaflamaaDoorGaB
import Derived.Test.YtmdnhinpaflamaaDoorGaR
namespace Go.Proofs.YtmdnhinpaflamaaDoor
open Go.RowKit
set_option linter.unusedVariables false
namespace Gn
open PM (Ex B)
open Px (z7 put7 frPut7 blkPut7 ret_cell7 c7_of ExR ItS itC kIt)

theorem flat_get {α : Type} {cells : α → List Value} {size : Nat} (hs : ∀ x, (cells x).length = size) : ∀ {l : List α} {k i : Nat} (hk : k < l.length) (hi : i < size), (l.flatMap cells).getD (k * size + i) undef = (cells l[k]).getD i undef
  | [], _, _, hk, _ => by simp at hk
  | x :: l, 0, i, _, hi => by
    rw [List.flatMap_cons, Nat.zero_mul, Nat.zero_add, List.getD_eq_getElem?_getD, List.getElem?_append_left (by rw [hs]; exact hi), ← List.getD_eq_getElem?_getD]
    rfl
  | x :: l, k + 1, i, hk, hi => by
    have ih := flat_get hs (l := l) (k := k) (i := i) (by simpa using hk) hi
    have hx := hs x
    have e : (k + 1) * size = k * size + size := Nat.succ_mul ..
    rw [List.flatMap_cons, List.getD_eq_getElem?_getD, List.getElem?_append_right (by omega), hx, show (k + 1) * size + i - size = k * size + i by omega, ← List.getD_eq_getElem?_getD, ih]
    rfl
/-- an item's cells, in memory -/
theorem its_cells {A : Nat → Prop} {w : World} {v : Value} {l : List PM.It} (h : ItS A w v l) : ∃ a cap, v = .slice a l.length cap ∧ ∀ k, (hk : k < l.length) → ∃ g off, a = some ⟨g, off, none⟩ ∧ A g ∧ g < w.heap.size ∧ l.length ≤ cap ∧
    w.cell? ⟨g, off + k * 3, none⟩ = some (.int .i64 l[k].agg) ∧ w.cell? ⟨g, off + k * 3 + 1, none⟩ = some (.string ⟨l[k].table.toArray⟩) ∧ w.cell? ⟨g, off + k * 3 + 2, none⟩ = some (.string ⟨l[k].name.toArray⟩) := by
  obtain ⟨h, hA⟩ := h
  rcases h.form with ⟨rfl, h0, _⟩ | ⟨g, off, cap, rfl, hc, _⟩
  · exact ⟨none, 0, by rw [h0], fun k hk => by omega⟩
  · refine ⟨_, cap, rfl, fun k hk => ⟨g, off, rfl, hA g rfl, h.block_lt rfl, hc, ?_⟩⟩
    have hlen := h.1
    have key : ∀ i, (hi : i < 3) → w.cell? ⟨g, off + k * 3 + i, none⟩ = some ((itC l[k]).getD i undef) := fun i hi => by
      rw [Nat.add_assoc, h.cells (k * 3 + i) (by omega)]
      congr 1
      exact flat_get (cells := itC) (size := 3) (fun x => rfl) hk hi
    exact ⟨key 0 (by omega), key 1 (by omega), key 2 (by omega)⟩
set_option maxRecDepth 100000 in
set_option maxHeartbeats 2000000 in
/-- once -/
theorem once_any (A : Nat → Prop) (v : Value) (l : List PM.It) (hl : l.length ≤ 100) (nm : B) (w : World) (h : ItS A w v l) :
    Calls Tryd.prog 72 #[v, .string ⟨nm.toArray⟩] w fun e w' => ∃ b : Bool, e = .returned (.bool b) ∧ Fr [] w w' := by
  obtain ⟨a, cap, rfl, hc⟩ := its_cells h
  have HC := Lib.hid hc
  clear h hc
  go_enter Tryd.func72, Tryd.ntmps72
  go_wp2_with fail
  go_loopw [5, 6] (fun n i wr => ∃ x k : Nat, n = .int .i64 x ∧ i = .int .i64 k ∧ x ≤ k ∧ k ≤ l.length ∧ Hid (Fr [] w wr)) (fun _ i _ => l.length - (intOf i).toNat)
  case atStart => exact ⟨0, 0, rfl, rfl, Nat.le_refl _, Nat.zero_le _, Lib.hid (Fr.refl [] w)⟩
  case round =>
    obtain ⟨x, k, rfl, rfl, hx, hk, HF⟩ := hrel
    have hli : (l.length : Int) ≤ 100 := by omega
    by_cases hkl : k < l.length
    · obtain ⟨g, off, rfl, _, hg, hcap, c0, c1, c2⟩ := HC.out k hkl
      have c2' := (HF.out.cell (p := ⟨g, off + k * 3 + 2, none⟩) hg (by simp)).trans c2
      have hkl' : (k : Int) < l.length := by omega
      clear c0 c1 c2
      go_wp2_with fail
      all_goals
        refine ⟨?_, by simp only [intOf]; omega⟩
        first
        | exact ⟨x + 1, k + 1, by go_num, by go_num, by omega, by omega, HF⟩
        | exact ⟨x, k + 1, rfl, by go_num, by omega, by omega, HF⟩
    · go_wp2_with fail
      go_ret
      exact ⟨_, rfl, HF.out⟩
/-- a column of those, told so -/
def OkIt (x : PM.It) : Prop := Pc.okName x.table = true ∧ Pc.okName x.name = true ∧ x.table.length ≤ 2 ∧ x.name.length ≤ 2
/-- numbers in a slice -/
def Ints (C P : Nat) (w : World) (v : Value) (ks : List Int) : Prop := ∃ a cap, v = .slice a ks.length cap ∧ ∀ k, (hk : k < ks.length) → ∃ g off, a = some ⟨g, off, none⟩ ∧ g < C ∧ g ≠ P ∧ ks.length ≤ cap ∧ w.cell? ⟨g, off + k, none⟩ = some (.int .i64 ks[k])
/-- the columns that an expression may name, and their kinds; below C -/
structure Cols (C P : Nat) (w : World) (vc vk : Value) (l : List PM.It) (ks : List Int) : Prop where
  le : C ≤ w.heap.size
  its : ItS (fun g => g < C ∧ g ≠ P) w vc l
  ints : Ints C P w vk ks
  ok : ∀ x ∈ l, OkIt x
  len : ks.length = l.length
  short : l.length ≤ 20
  has : ∀ k : Int, k = 1 ∨ k = 2 → k ∈ ks
theorem Cols.keep {C P : Nat} {w w' : World} {vc vk : Value} {l : List PM.It} {ks : List Int} {S : List (Option Nat)} (h : Cols C P w vc vk l ks) (hf : Fr S w w') (hS : ∀ g, some g ∈ S → C ≤ g ∨ g = P) : Cols C P w' vc vk l ks := by
  obtain ⟨h0, h1, ⟨a, cap, e, h2⟩, h3, h4, h5, h6⟩ := h
  have key : ∀ g, g < C ∧ g ≠ P → some g ∉ S := fun g hg hm => by
    rcases hS g hm with h | h
    · omega
    · exact hg.2 h
  refine ⟨Nat.le_trans h0 hf.size, h1.keep hf key, ⟨a, cap, e, fun k hk => ?_⟩, h3, h4, h5, h6⟩
  obtain ⟨g, off, e, hg, hp, hc, hcell⟩ := h2 k hk
  exact ⟨g, off, e, hg, hp, hc, (hf.cell (p := ⟨g, off + k, none⟩) (Nat.lt_of_lt_of_le hg h0) (key g ⟨hg, hp⟩)).trans hcell⟩
/-- a column that is told -/
structure ColTN (t n : B) : Prop where
  table : t = [] ∨ Pc.okName t = true
  name : Pc.okName n = true
  lt : t.length ≤ 2
  ln : n.length ≤ 2
def exC (t n : B) : List Value := [.int .i64 2, .int .i64 0, .int .i64 0, .string ⟨#[]⟩, .string ⟨t.toArray⟩, .string ⟨n.toArray⟩, .slice none 0 0]
theorem info_it : (Tryd.prog.info? 75).map (fun i => (i.zero, i.size, i.bytes)) = some (some (.agg #[.int .i64 0, .string ⟨#[]⟩, .string ⟨#[]⟩]), 3, 40) := by kernel_rfl
set_option maxRecDepth 100000 in
set_option maxHeartbeats 4000000 in
/-- col -/
theorem col_any {B C M : Nat} (P : Nat) (vc vk : Value) (l : List PM.It) (ks : List Int) (kind : Int) (hkind : kind = 1 ∨ kind = 2) (w : World) (h : PK B M w P) (hc : Cols C P w vc vk l ks) :
    Calls Tryd.prog 30 #[.pointer (some ⟨P, 0, none⟩), vc, vk, .int .i64 kind] w fun e w' => ∃ t n, ColTN t n ∧ e = .returned (.tuple #[.agg (exC t n).toArray, .bool true]) ∧ PK B M w' P ∧ Fr [some P] w w' := by
  have HK := Lib.hid h
  have hPl := h.lt'
  have hBl := h.le
  obtain ⟨hCl, h1, ⟨ak, ck, rfl, hik⟩, hok, hlen, hsh, hhas⟩ := hc
  have HIT := Lib.hid h1
  obtain ⟨ac, cc, rfl, hic⟩ := its_cells h1
  have HIK := Lib.hid hik
  have HIC := Lib.hid hic
  have HOK := Lib.hid hok
  have HHAS := Lib.hid (hhas kind hkind)
  have HLEN := Lib.hid hlen
  have hls : (ks.length : Int) ≤ 20 := by omega
  obtain ⟨i0, hi, hz0, hz1, hz2⟩ := info_parts info_it
  clear h h1 hik hic hok hhas hlen
  go_enter Tryd.func30, Tryd.ntmps30
  go_wp2_with fail
  go_loopw [10, 11] (fun v i wr => ∃ (k : Nat) (acc : List PM.It), i = .int .i64 k ∧ k ≤ l.length ∧ acc.length ≤ k ∧ Hid (Gr kIt 75 (w.heap.size + 1) wr v acc) ∧ Hid (∀ x ∈ acc, x ∈ l) ∧ Hid (∀ j, j < k → ks[j]? = some kind → acc ≠ []) ∧ Hid (Fr [] (w.alloc (.cells z7.toArray 41)) wr)) (fun _ i _ => l.length - (intOf i).toNat)
  case atStart => exact ⟨0, [], rfl, Nat.zero_le _, Nat.zero_le _, Lib.hid Gr.nil, Lib.hid (by simp), Lib.hid (fun j hj => by omega), Lib.hid (Fr.refl [] _)⟩
  case round =>
    obtain ⟨k, acc, rfl, hk, hacc, HG, HM, HE, HF⟩ := hrel
    have hli : (l.length : Int) ≤ 20 := by omega
    have hsz := HF.out.size
    rw [World.size_alloc] at hsz
    by_cases hkl : k < l.length
    · have hkl' : (k : Int) < l.length := by omega
      have hks : (k : Int) < ks.length := by have := HLEN.out; omega
      obtain ⟨g, off, rfl, hgB, hgP, hcap, ck0⟩ := HIK.out k (by have := HLEN.out; omega)
      obtain ⟨g2, off2, rfl, hg2, hgl2, hcap2, c0, c1, c2⟩ := HIC.out k hkl
      have frw : Fr [] w wr := ((Fr.refl [] w).alloc _).trans HF.out
      have ck0 := (frw.cell (p := ⟨g, off + k, none⟩) (by show g < _; omega) (by simp)).trans ck0
      have c0 := (frw.cell (p := ⟨g2, off2 + k * 3, none⟩) hgl2 (by simp)).trans c0
      have c1 := (frw.cell (p := ⟨g2, off2 + k * 3 + 1, none⟩) hgl2 (by simp)).trans c1
      have c2 := (frw.cell (p := ⟨g2, off2 + k * 3 + 2, none⟩) hgl2 (by simp)).trans c2
      obtain ⟨kk, hkk⟩ : ∃ kk, ks[k] = kk := ⟨_, rfl⟩
      rw [hkk] at ck0
      have HKK := Lib.hid hkk
      obtain ⟨x, hx⟩ : ∃ x, l[k] = x := ⟨_, rfl⟩
      rw [hx] at c0 c1 c2
      have HX := Lib.hid hx
      clear hkk hx frw
      by_cases he : kk = kind
      · subst he
        obtain ⟨⟨cs, hRL, hROW⟩, hOWN⟩ := HG.out
        have HRL := Lib.hid hRL
        have HROW := Lib.hid hROW
        have HOWN := Lib.hid hOWN
        obtain ⟨hmx, hby⟩ := Px.lim96 (n := acc.length) (b := 40) (by omega) (by omega)
        have HROW3 := Lib.hid (hROW.keep ((Fr.refl [] wr).alloc (.cells (itC x).toArray 75)) (by simp))
        clear hRL hROW hOWN
        unfold itC at HROW3
        go_wp2_with (at_builtin; refine wpList_append_row rfl _ _ 33 rfl 75 i0 (.agg #[.int .i64 0, .string ⟨#[]⟩, .string ⟨#[]⟩]) 3 40 Tryd.underlying33 hi hz0 hz1 hz2 rfl (by decide) u10 acc.length cs rfl HROW3.out ⟨wr.heap.size, 0, none⟩ 1 1 (itC x) rfl rfl ?c1 ?c2 hmx hby ?_)
        case c1 => exact Lx.four_new wr 75 (itC x)
        case c2 => exact kIt.one (A := fun _ => True) (w := wr) (x := x) (rfl : itC x = itC x)
        intro v' w4 hr' hf' hb'
        obtain ⟨st1, st2⟩ := Gr.push (x := x) HRL.out HROW.out HOWN.out (by omega) (rfl : kIt.E _ wr x (itC x)) hr' hf' hb'
        have HG2 := Lib.hid st1
        have HF2 : Hid (Fr [] (w.alloc (.cells z7.toArray 41)) w4) := Lib.hid (st2 (by simp) HF.out)
        have HM2 : Hid (∀ y ∈ acc ++ [x], y ∈ l) := Lib.hid (fun y hy => by
          rcases List.mem_append.1 hy with h | h
          · exact HM.out y h
          · rw [List.mem_singleton.1 h, ← HX.out]; exact List.getElem_mem _)
        clear hr' hf' hb' st1 st2 HROW3 HRL HROW HOWN
        go_wp2_with fail
        go_roundw
        case rel => exact ⟨k + 1, acc ++ [x], by go_num, by omega, by simp; omega, HG2, HM2, Lib.hid (fun j _ _ => by simp), HF2⟩
        case measure => simp only [intOf]; omega
      · go_wp2_with fail
        go_roundw
        case rel =>
          refine ⟨k + 1, acc, by go_num, by omega, by omega, HG, HM, Lib.hid (fun j hj hjk => ?_), HF⟩
          rcases Nat.lt_or_ge j k with h | h
          · exact HE.out j h hjk
          · obtain rfl : j = k := by omega
            rw [List.getElem?_eq_getElem (by have := HLEN.out; omega), HKK.out] at hjk
            exact absurd (Option.some.inj hjk) he
        case measure => simp only [intOf]; omega
    · have hkl' : ¬ (k : Int) < l.length := by omega
      have hne : acc ≠ [] := by
        obtain ⟨j, hj, hjk⟩ := List.mem_iff_getElem.1 HHAS.out
        exact HE.out j (by have := HLEN.out; omega) (by rw [List.getElem?_eq_getElem hj, hjk])
      have hlen1 : 1 ≤ acc.length := by cases acc with | nil => exact absurd rfl hne | cons => simp
      have hl1 : (1 : Int) ≤ acc.length := by omega
      have hl2 : (acc.length : Int) ≤ 20 := by omega
      have hits := Gr.flat HG.out
      obtain ⟨a2, cap2, rfl, hcells⟩ := its_cells hits
      have HITS := Lib.hid hits
      have hn0 : ¬ (acc.length : Int) = 0 := by omega
      clear hits hcells hne HIC HIK
      go_wp2_with fail
      refine (num_any P acc.length hl1 (by omega) wr (HK.out.keep (((Fr.refl [] w).alloc _).trans HF.out) (by simp))).mono ?_
      rintro e w5 ⟨r, rfl, hr, hk5, hf5⟩
      have HITS5 := Lib.hid (HITS.out.keep hf5 (fun g hg => by simp; omega))
      obtain ⟨a3, cap3, he3, hcells⟩ := its_cells HITS5.out
      simp only [Value.slice.injEq, true_and] at he3
      obtain ⟨rfl, rfl⟩ := he3
      obtain ⟨g, off, rfl, hg, hgl, hcap, c0, c1, c2⟩ := hcells r (by omega)
      obtain ⟨x, hx⟩ : ∃ x, acc[r] = x := ⟨_, rfl⟩
      rw [hx] at c0 c1 c2
      have HXL : Hid (OkIt x) := Lib.hid (HOK.out x (HM.out x (by rw [← hx]; exact List.getElem_mem _)))
      have HR5 : Hid (Blk w5 w.heap.size 41 z7) := Lib.hid (((Blk.new w 41 z7).keep HF.out (by simp)).keep hf5 (by simp; omega))
      have HF5 : Hid (Fr [some P] w w5) := Lib.hid ((((Fr.refl [] w).alloc _).trans HF.out |>.mono (S' := [some P]) (by simp)).trans hf5)
      have HK5 := Lib.hid hk5
      have hs5 := HF5.out.size
      clear hx hk5 hf5 hcells HITS HITS5
      go_wp2_with fail
      have hk6 := (HK5.out.alloc (.cells (itC x).toArray 75)).alloc (.cells (exC x.table x.name).toArray 41)
      unfold itC exC at hk6
      refine (num_any P 3 (by decide) (by decide) _ hk6).mono ?_
      rintro e w6 ⟨r2, rfl, hr2, hk6, hf6⟩
      have HX6 : Hid (Blk w6 w5.heap.size 75 (itC x)) := Lib.hid ((Blk.alloc (Blk.new w5 75 (itC x)) (.cells (exC x.table x.name).toArray 41)).keep hf6 (by simp; omega))
      have HE6 : Hid (Blk w6 (w5.heap.size + 1) 41 (exC x.table x.name)) := Lib.hid (by
        have := Blk.new (w5.alloc (.cells (itC x).toArray 75)) 41 (exC x.table x.name)
        rw [World.size_alloc] at this
        exact this.keep hf6 (by simp; omega))
      have HR6 : Hid (Blk w6 w.heap.size 41 z7) := Lib.hid (((HR5.out.alloc (.cells (itC x).toArray 75)).alloc (.cells (exC x.table x.name).toArray 41)).keep hf6 (by simp; omega))
      have HF6 : Hid (Fr [some P] w w6) := Lib.hid (((HF5.out.alloc (.cells (itC x).toArray 75)).alloc (.cells (exC x.table x.name).toArray 41)).trans hf6)
      have HK6 := Lib.hid hk6
      have HIT6 : Hid (ItS (fun g => g < C ∧ g ≠ P) w6 (.slice ac l.length cc) l) := Lib.hid (HIT.out.keep HF6.out (fun g hg => by simp; exact hg.2))
      clear hk6 hf6
      have y2 := HX6.out.cell 2
      have hby := HE6.out.lt
      obtain ⟨e0, e1, e2, e3, e4, e5, e6, q0, q1, q2, q3, q4, q5, q6⟩ := c7_of HE6.out
      obtain ⟨k0, k1, k2, k3, k4, k5, k6, f0, f1, f2, f3, f4, f5, f6⟩ := c7_of HR6.out
      have hne1 : ¬ w.heap.size = w5.heap.size + 1 := by omega
      have hne2 : ¬ w5.heap.size + 1 = w.heap.size := by omega
      simp only [itC, List.getElem?_cons_zero, List.getElem?_cons_succ] at y2
      by_cases hr0 : (r2 : Int) > 0
      · go_wp2_with fail
        refine (once_any _ _ l (by omega) x.name w6 HIT6.out).mono ?_
        rintro e w7 ⟨b, rfl, hf7⟩
        have HE7 := Lib.hid (HE6.out.keep hf7 (by simp))
        have HR7 := Lib.hid (HR6.out.keep hf7 (by simp))
        have HF7 := Lib.hid (HF6.out.trans' hf7 (by simp))
        have HK7 := Lib.hid (HK6.out.keep hf7 (by simp))
        clear hf7 e0 e1 e2 e3 e4 e5 e6 q0 q1 q2 q3 q4 q5 q6 k0 k1 k2 k3 k4 k5 k6 f0 f1 f2 f3 f4 f5 f6 y2
        have hby := HE7.out.lt
        have hs7 := HF7.out.size
        obtain ⟨e0, e1, e2, e3, e4, e5, e6, q0, q1, q2, q3, q4, q5, q6⟩ := c7_of HE7.out
        obtain ⟨k0, k1, k2, k3, k4, k5, k6, f0, f1, f2, f3, f4, f5, f6⟩ := c7_of HR7.out
        cases b
        · go_wp2_with fail
          refine bodyPost_ret (Px.ret2_cell7 rfl _ w.heap.size rfl _ rfl _ _ _ _ _ _ _ _ (blkPut7 HR7.out rfl _ _ _ _ _ _ _)) rfl ⟨x.table, x.name, ⟨.inr HXL.out.1, HXL.out.2.1, HXL.out.2.2.1, HXL.out.2.2.2⟩, rfl, ?_, ?_⟩
          · exact HK7.out.keep (frPut7 (Fr.refl [some w.heap.size] _) (.inl (by simp)) _ _ _ _ _ _ _) (by simp; omega)
          · exact frPut7 HF7.out (.inr (Nat.le_refl _)) _ _ _ _ _ _ _
        · go_wp2_with fail
          have HR8 := HR7.out.keep ((Fr.refl [some (w5.heap.size + 1)] w7).setCell (p := ⟨w5.heap.size + 1, 4, none⟩) (.inl (by simp)) (.string ⟨#[]⟩)) (by simp; omega)
          have HF8 := HF7.out.setCell (p := ⟨w5.heap.size + 1, 4, none⟩) (.inr (show w.heap.size ≤ w5.heap.size + 1 by omega)) (.string ⟨#[]⟩)
          have HK8 := HK7.out.keep ((Fr.refl [some (w5.heap.size + 1)] w7).setCell (p := ⟨w5.heap.size + 1, 4, none⟩) (.inl (by simp)) (.string ⟨#[]⟩)) (by simp; omega)
          refine bodyPost_ret (Px.ret2_cell7 rfl _ w.heap.size rfl _ rfl _ _ _ _ _ _ _ _ (blkPut7 HR8 rfl _ _ _ _ _ _ _)) rfl ⟨[], x.name, ⟨.inl rfl, HXL.out.2.1, by simp, HXL.out.2.2.2⟩, rfl, ?_, ?_⟩
          · exact HK8.keep (frPut7 (Fr.refl [some w.heap.size] _) (.inl (by simp)) _ _ _ _ _ _ _) (by simp; omega)
          · exact frPut7 HF8 (.inr (Nat.le_refl _)) _ _ _ _ _ _ _
      · go_wp2_with fail
        refine bodyPost_ret (Px.ret2_cell7 rfl _ w.heap.size rfl _ rfl _ _ _ _ _ _ _ _ (blkPut7 HR6.out rfl _ _ _ _ _ _ _)) rfl ⟨x.table, x.name, ⟨.inr HXL.out.1, HXL.out.2.1, HXL.out.2.2.1, HXL.out.2.2.2⟩, rfl, ?_, ?_⟩
        · exact HK6.out.keep (frPut7 (Fr.refl [some w.heap.size] _) (.inl (by simp)) _ _ _ _ _ _ _) (by simp; omega)
        · exact frPut7 HF6.out (.inr (Nat.le_refl _)) _ _ _ _ _ _ _
end Gn
end Go.Proofs.YtmdnhinpaflamaaDoor
