/- The tables that statements are made of; a table's columns. -/
import Derived.Test.YtmdnhinpaflamaaDoorGaC
import Derived.Test.YtmdnhinpaflamaaDoorGcol
namespace Go.Proofs.YtmdnhinpaflamaaDoor
open Go.RowKit
set_option linter.unusedVariables false
namespace Gn
open PM (Ex B)
open Px (ItS itC kIt)
def colsT : List Value := [.string ⟨#[107]⟩, .int .i64 1, .string ⟨#[]⟩, .string ⟨#[118]⟩, .int .i64 2, .string ⟨#[]⟩, .string ⟨#[110]⟩, .int .i64 1, .string ⟨#[]⟩]
def colsU : List Value := [.string ⟨#[107]⟩, .int .i64 2, .string ⟨#[]⟩, .string ⟨#[114]⟩, .int .i64 1, .string ⟨#[116]⟩, .string ⟨#[110]⟩, .int .i64 1, .string ⟨#[]⟩]
def tabs (n : Nat) : List Value := [.string ⟨#[116]⟩, .slice (some ⟨n + 1, 0, none⟩) 3 3, .slice (some ⟨n + 2, 0, none⟩) 1 1, .string ⟨#[117]⟩, .slice (some ⟨n + 3, 0, none⟩) 3 3, .slice none 0 0]
/-- the two tables, made at n -/
structure Sch (n : Nat) (w : World) : Prop where
  t : Blk w (n + 1) 73 colsT
  i : Blk w (n + 2) 9 [.string ⟨#[110]⟩]
  u : Blk w (n + 3) 73 colsU
  l : Blk w (n + 4) 27 (tabs n)
theorem Sch.keep {n : Nat} {w w' : World} {S : List (Option Nat)} (h : Sch n w) (hf : Fr S w w') (hS : ∀ g, some g ∈ S → g ≤ n) : Sch n w' :=
  ⟨h.t.keep hf (fun hm => by have := hS _ hm; omega), h.i.keep hf (fun hm => by have := hS _ hm; omega), h.u.keep hf (fun hm => by have := hS _ hm; omega), h.l.keep hf (fun hm => by have := hS _ hm; omega)⟩
theorem ret_cell2 {fn : Func} {n : Nat} {T : TypeId} (h : fn.results = #[.cell n T]) (tmps : Array Value) (b : Nat) (h2 : tmps.getD n undef = .pointer (some ⟨b, 0, none⟩)) (w : World) (a0 a1 : Value) (hT : (Tryd.prog.info? T).map (fun i => (i.zero, i.size)) = (Tryd.prog.info? 31).map (fun i => (i.zero, i.size))) (hT2 : T = 31) (hb : Blk w b 31 [a0, a1]) :
    (results fn tmps).run Tryd.prog w = .ok (.agg #[a0, a1]) w := by
  subst hT2
  have c0 := hb.cell 0
  have c1 := hb.cell 1
  simp only [List.getElem?_cons_zero, List.getElem?_cons_succ] at c0 c1
  have h2' : tmps[n]?.getD undef = .pointer (some ⟨b, 0, none⟩) := by simpa using h2
  simp [results, h, h2', go_sem, c0, c1]
set_option maxRecDepth 100000 in
set_option maxHeartbeats 2000000 in
theorem schema_any (w : World) :
    Calls Tryd.prog 8 #[] w fun e w' => e = .returned (.agg #[.slice (some ⟨w.heap.size + 4, 0, none⟩) 2 2, .slice none 0 0]) ∧ Sch w.heap.size w' ∧ Fr [] w w' := by
  go_enter Tryd.func8, Tryd.ntmps8
  go_wp2_with fail
  have hs := Blk.new w 31 [.slice (some ⟨w.heap.size + 4, 0, none⟩) 2 2, .slice none 0 0]
  refine bodyPost_ret (ret_cell2 rfl _ w.heap.size rfl _ _ _ rfl rfl ((((hs.alloc _).alloc _).alloc _).alloc _)) rfl ⟨rfl, ?_, ((((((Fr.refl [] w).alloc _).alloc _).alloc _).alloc _).alloc _)⟩
  constructor
  · have h := Blk.new (w.alloc (.cells #[.slice (some ⟨w.heap.size + 4, 0, none⟩) 2 2, .slice none 0 0] 31)) 73 colsT
    rw [World.size_alloc] at h
    exact ((h.alloc _).alloc _).alloc _
  · have h := Blk.new ((w.alloc (.cells #[.slice (some ⟨w.heap.size + 4, 0, none⟩) 2 2, .slice none 0 0] 31)).alloc (.cells colsT.toArray 73)) 9 [.string ⟨#[110]⟩]
    rw [World.size_alloc, World.size_alloc] at h
    exact (h.alloc _).alloc _
  · have h := Blk.new (((w.alloc (.cells #[.slice (some ⟨w.heap.size + 4, 0, none⟩) 2 2, .slice none 0 0] 31)).alloc (.cells colsT.toArray 73)).alloc (.cells #[.string ⟨#[110]⟩] 9)) 73 colsU
    rw [World.size_alloc, World.size_alloc, World.size_alloc] at h
    exact h.alloc _
  · have h := Blk.new ((((w.alloc (.cells #[.slice (some ⟨w.heap.size + 4, 0, none⟩) 2 2, .slice none 0 0] 31)).alloc (.cells colsT.toArray 73)).alloc (.cells #[.string ⟨#[110]⟩] 9)).alloc (.cells colsU.toArray 73)) 27 (tabs w.heap.size)
    rw [World.size_alloc, World.size_alloc, World.size_alloc, World.size_alloc] at h
    exact h
theorem flat_cells {α : Type} {T : TypeId} {cells : α → List Value} {size : Nat} (hs : ∀ x, (cells x).length = size) (h0 : 0 < size) {A : Nat → Prop} {w : World} {v : Value} {l : List α} (h : Px.FlatS T cells size A w v l) : ∃ a cap, v = .slice a l.length cap ∧ ∀ k, (hk : k < l.length) → ∃ g off, a = some ⟨g, off, none⟩ ∧ A g ∧ g < w.heap.size ∧ l.length ≤ cap ∧
    ∀ i, i < size → w.cell? ⟨g, off + k * size + i, none⟩ = some ((cells l[k]).getD i undef) := by
  obtain ⟨h, hA⟩ := h
  rcases h.form with ⟨rfl, h0, _⟩ | ⟨g, off, cap, rfl, hc, _⟩
  · exact ⟨none, 0, by rw [h0], fun k hk => by omega⟩
  · refine ⟨_, cap, rfl, fun k hk => ⟨g, off, rfl, hA g rfl, h.block_lt rfl, hc, fun i hi => ?_⟩⟩
    have hlt : k * size + i < (l.flatMap cells).length := by
      have h1 := h.1
      rw [h1]
      calc k * size + i < k * size + size := by omega
        _ = (k + 1) * size := (Nat.succ_mul ..).symm
        _ ≤ l.length * size := Nat.mul_le_mul_right _ hk
    rw [Nat.add_assoc, h.cells (k * size + i) hlt]
    congr 1
    exact flat_get hs hk hi
/-- numbers in a slice, wherever it lies -/
def intC (k : Int) : List Value := [.int .i64 k]
abbrev IntS := Px.FlatS 3 intC 1
theorem cols_of {C P : Nat} {w : World} {vc vk : Value} {l : List PM.It} {ks : List Int} (hle : C ≤ w.heap.size) (h1 : ItS (fun g => g < C ∧ g ≠ P) w vc l) (h2 : IntS (fun g => g < C ∧ g ≠ P) w vk ks) (hok : ∀ x ∈ l, OkIt x) (hlen : ks.length = l.length) (hsh : l.length ≤ 20) (hhas : ∀ k : Int, k = 1 ∨ k = 2 → k ∈ ks) : Cols C P w vc vk l ks := by
  obtain ⟨a, cap, rfl, hc⟩ := flat_cells (size := 1) (fun x => rfl) (by decide) h2
  refine ⟨hle, h1, ⟨a, cap, rfl, fun k hk => ?_⟩, hok, hlen, hsh, hhas⟩
  obtain ⟨g, off, e, hg, hlt, hcap, h⟩ := hc k hk
  have := h 0 (by decide)
  simp only [Nat.mul_one, Nat.add_zero] at this
  exact ⟨g, off, e, hg.1, hg.2, hcap, this⟩
/-! ### the two tables -/
def tname (i : Nat) : B := if i = 0 then [116] else [117]
def tcols (i : Nat) : List (B × Int) := if i = 0 then [([107], 1), ([118], 2), ([110], 1)] else [([107], 2), ([114], 1), ([110], 1)]
def tits (i : Nat) : List PM.It := (tcols i).map fun c => ⟨0, tname i, c.1⟩
def tkinds (i : Nat) : List Int := (tcols i).map (·.2)
/-- a table's three cells, of the schema made at n -/
def tabV (n i : Nat) : List Value := if i = 0 then [.string ⟨#[116]⟩, .slice (some ⟨n + 1, 0, none⟩) 3 3, .slice (some ⟨n + 2, 0, none⟩) 1 1] else [.string ⟨#[117]⟩, .slice (some ⟨n + 3, 0, none⟩) 3 3, .slice none 0 0]
theorem tits_ok {i : Nat} : ∀ x ∈ tits i, OkIt x := by
  unfold tits tcols tname
  split <;> simp [OkIt] <;> decide
theorem tkinds_has {i : Nat} (k : Int) (h : k = 1 ∨ k = 2) : k ∈ tkinds i := by
  unfold tkinds tcols
  split <;> rcases h with rfl | rfl <;> decide
theorem tits_len (i : Nat) : (tits i).length = 3 := by unfold tits tcols; split <;> rfl
theorem tkinds_len (i : Nat) : (tkinds i).length = 3 := by unfold tkinds tcols; split <;> rfl
theorem row_its (tn : B) (L : List (B × Int)) : L.flatMap (ic tn) = (L.map (fun c => (⟨0, tn, c.1⟩ : PM.It))).flatMap Px.itC := by
  rw [List.flatMap_map]
  rfl
theorem row_ints (L : List (B × Int)) : L.flatMap kc = (L.map (·.2)).flatMap intC := by
  rw [List.flatMap_map]
  rfl
theorem cols_tab {i n : Nat} (hi : i < 2) (w : World) (h : Sch n w) :
    Calls Tryd.prog 9 #[.agg (tabV n i).toArray] w fun e w' => ∃ vc vk, e = .returned (.tuple #[vc, vk]) ∧ ItS (fun g => w.heap.size ≤ g) w' vc (tits i) ∧ IntS (fun g => w.heap.size ≤ g) w' vk (tkinds i) ∧ Fr [] w w' := by
  have key : ∀ (L : List (B × Int)) (tn : B) (b : Nat) (ia : Option Addr) (il ik : Nat), L.length = 3 → b < w.heap.size →
      (∀ j, (hj : j < L.length) → w.cell? ⟨b, 0 + j * 3, none⟩ = some (.string ⟨L[j].1.toArray⟩) ∧ w.cell? ⟨b, 0 + j * 3 + 1, none⟩ = some (.int .i64 L[j].2)) →
      Calls Tryd.prog 9 #[.agg #[.string ⟨tn.toArray⟩, .slice (some ⟨b, 0, none⟩) 3 3, .slice ia il ik]] w fun e w' => ∃ vc vk, e = .returned (.tuple #[vc, vk]) ∧ ItS (fun g => w.heap.size ≤ g) w' vc (L.map fun c => ⟨0, tn, c.1⟩) ∧ IntS (fun g => w.heap.size ≤ g) w' vk (L.map (·.2)) ∧ Fr [] w w' := by
    intro L tn b ia il ik hL hb hc
    have := cols_row tn L (by omega) b 0 3 (by omega) ia il ik w hb hc
    rw [hL] at this
    refine this.mono ?_
    rintro e w' ⟨vc, vk, rfl, r1, r2, o1, o2, hf⟩
    refine ⟨vc, vk, rfl, ⟨?_, o1⟩, ⟨?_, o2⟩, hf⟩
    · rw [List.length_map, hL, ← row_its]; exact r1
    · rw [List.length_map, hL, ← row_ints]; exact r2
  rcases (by omega : i = 0 ∨ i = 1) with rfl | rfl
  · refine key (tcols 0) (tname 0) (n + 1) _ _ _ rfl h.t.lt ?_
    intro j hj
    have hj : j < 3 := hj
    rcases (by omega : j = 0 ∨ j = 1 ∨ j = 2) with rfl | rfl | rfl
    · exact ⟨h.t.cell 0, h.t.cell 1⟩
    · exact ⟨h.t.cell 3, h.t.cell 4⟩
    · exact ⟨h.t.cell 6, h.t.cell 7⟩
  · refine key (tcols 1) (tname 1) (n + 3) _ _ _ rfl h.u.lt ?_
    intro j hj
    have hj : j < 3 := hj
    rcases (by omega : j = 0 ∨ j = 1 ∨ j = 2) with rfl | rfl | rfl
    · exact ⟨h.u.cell 0, h.u.cell 1⟩
    · exact ⟨h.u.cell 3, h.u.cell 4⟩
    · exact ⟨h.u.cell 6, h.u.cell 7⟩
end Gn
end Go.Proofs.YtmdnhinpaflamaaDoor
