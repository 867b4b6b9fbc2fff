/- parse: what a law is told of Parse; begun. -/
import Derived.Test.YtpmgecnkcllneaaDoorParY
namespace Go.Proofs.YtpmgecnkcllneaaDoor
open Go.RowKit
namespace PM
/-- where a text is none (0: it is one), and why -/
def at' : (Int × Int) ⊕ St → Int
  | .inl (q, _) => q
  | .inr _ => 0
def er : (Int × Int) ⊕ St → Int
  | .inl (_, x) => x
  | .inr _ => 0
end PM
namespace Px
open PM (PS B Ex)

/-- thirteen cells, written out -/
structure Cells13 where
  kind : Int
  table : B
  name : B
  join : B
  a3 : Option Addr
  a4 : Option Addr
  a5 : Option Addr
  a6 : Option Addr
  a8 : Option Addr
  a9 : Option Addr
  a10 : Option Addr
  a12 : Option Addr
  l3 : Nat
  l4 : Nat
  l5 : Nat
  l6 : Nat
  l8 : Nat
  l9 : Nat
  l10 : Nat
  l12 : Nat
  c3 : Nat
  c4 : Nat
  c5 : Nat
  c6 : Nat
  c8 : Nat
  c9 : Nat
  c10 : Nat
  c12 : Nat
  desc : Bool
def Cells13.list (c : Cells13) : List Value := [.int .i64 c.kind, .string ⟨c.table.toArray⟩, .string ⟨c.name.toArray⟩, .slice c.a3 c.l3 c.c3, .slice c.a4 c.l4 c.c4, .slice c.a5 c.l5 c.c5, .slice c.a6 c.l6 c.c6, .string ⟨c.join.toArray⟩, .slice c.a8 c.l8 c.c8, .slice c.a9 c.l9 c.c9, .slice c.a10 c.l10 c.c10, .bool c.desc, .slice c.a12 c.l12 c.c12]
theorem sr_cells {A : Nat → Prop} {w : World} {x : PM.St} {cs : List Value} (h : SR A w x cs) : ∃ c : Cells13, cs = c.list := by
  obtain ⟨kind, table, name, join, a3, a4, a5, a6, a8, a9, a10, a12, l3, l4, l5, l6, l8, l9, l10, l12, c3, c4, c5, c6, c8, c9, c10, c12, desc, he, _⟩ := st_cells (b := 0) (e := .returned (.agg cs.toArray)) ⟨cs, rfl, SR.mono (A' := fun b => 0 ≤ b) (fun _ _ => Nat.zero_le _) h⟩
  refine ⟨⟨kind, table, name, join, a3, a4, a5, a6, a8, a9, a10, a12, l3, l4, l5, l6, l8, l9, l10, l12, c3, c4, c5, c6, c8, c9, c10, c12, desc⟩, ?_⟩
  simp only [Ending.returned.injEq, Value.agg.injEq] at he
  have := congrArg Array.toList he
  simpa [Cells13.list] using this
theorem slice_len {T : TypeId} {size : Nat} {w : World} {a : Option Addr} {l c n : Nat} {xs : List Value} (h : Row w T size (.slice a l c) n xs) : l = n := by
  rcases h.form with ⟨h1, h2, _⟩ | ⟨g, off, cap, h1, _⟩
  · cases h1; exact h2.symm
  · cases h1; rfl
theorem es_len {A : Nat → Prop} {w : World} {a : Option Addr} {l c : Nat} {xs : List Ex} (h : Rep.Es 40 A w xs (.slice a l c)) : l = xs.length := by
  cases h with
  | mk _ _ _ _ h2 _ => exact slice_len h2
/-- what a law is told -/
theorem parse_told (S : B) (w : World) (m : Int) (hm : w.cell? ⟨0, 0, none⟩ = some (.int .i64 m)) (h00 : 0 < w.heap.size) (hS : S.length ≤ 1000000) :
    Calls Tryd.prog 8 #[.string ⟨S.toArray⟩] w fun e w' => ∃ c : Cells13, e = .returned (.tuple #[.agg #[.int .i64 c.kind, .string ⟨c.table.toArray⟩, .string ⟨c.name.toArray⟩, .slice c.a3 c.l3 c.c3, .slice c.a4 c.l4 c.c4, .slice c.a5 c.l5 c.c5, .slice c.a6 c.l6 c.c6, .string ⟨c.join.toArray⟩, .slice c.a8 c.l8 c.c8, .slice c.a9 c.l9 c.c9, .slice c.a10 c.l10 c.c10, .bool c.desc, .slice c.a12 c.l12 c.c12], .int .i64 (PM.at' (PM.parse S)), .int .i64 (PM.er (PM.parse S))]) ∧ (∀ st, PM.parse S = .inr st → SR (fun b => w.heap.size ≤ b) w' st c.list) ∧ Fr [] w w' := by
  refine (parse_any S w m hm h00 hS).mono ?_
  intro e w' h
  cases hp : PM.parse S with
  | inl x =>
    obtain ⟨q, x⟩ := x
    rw [hp] at h
    obtain ⟨rfl, hf⟩ := h
    exact ⟨⟨0, [], [], [], none, none, none, none, none, none, none, none, 0, 0, 0, 0, 0, 0, 0, 0, 0, 0, 0, 0, 0, 0, 0, 0, false⟩, rfl, (fun st h => by cases h), hf⟩
  | inr st =>
    rw [hp] at h
    obtain ⟨cs, rfl, hs, hf⟩ := h
    obtain ⟨c, rfl⟩ := sr_cells hs
    exact ⟨c, rfl, (fun st' h => by cases h; exact hs), hf⟩

theorem begun_a : PM.parse [115, 101, 108, 101, 99, 116, 32, 42, 32, 102, 114, 111, 109, 32, 116, 32, 119, 104, 101, 114, 101, 32, 97, 32, 61, 32, 49] = .inr (.mk 6 [116] [] [] [] [] [] [] [] [.mk 8 0 0 [] [] [] [.mk 2 0 0 [] [] [97] [], .mk 1 1 1 [] [] [] []]] [] false []) := by kernel_rfl
theorem begun_b : PM.parse [99, 111, 109, 109, 105, 116, 32, 120] = .inl (7, 5) := by kernel_rfl

set_option maxRecDepth 100000 in
set_option maxHeartbeats 4000000 in
theorem begun_any (w : World) (m : Int) (hm : w.cell? ⟨0, 0, none⟩ = some (.int .i64 m)) (h00 : 0 < w.heap.size) :
    Calls Tryd.prog 7 #[] w fun e w' => e = .returned (.bool true) ∧ Fr [] w w' := by
  have HA := Lib.hid (parse_told [115, 101, 108, 101, 99, 116, 32, 42, 32, 102, 114, 111, 109, 32, 116, 32, 119, 104, 101, 114, 101, 32, 97, 32, 61, 32, 49] w m hm h00 (by decide))
  have HM := Lib.hid hm
  clear hm
  go_enter Tryd.func7, Tryd.ntmps7
  go_wp2_with fail
  refine HA.out.mono ?_
  rintro e w1 ⟨c, rfl, hs, hf1⟩
  have hsr := hs _ begun_a
  obtain ⟨kind, table, name, join, a3, a4, a5, a6, a8, a9, a10, a12, l3, l4, l5, l6, l8, l9, l10, l12, c3, c4, c5, c6, c8, c9, c10, c12, desc⟩ := c
  simp only [Cells13.list] at hsr
  obtain ⟨rfl, rfl, rfl⟩ : kind = 6 ∧ table = [116] ∧ l9 = 1 := by
    cases hsr with
    | mk _ _ _ _ _ _ _ _ _ _ _ _ _ v3 v4 v5 v6 v8 v9 v10 v12 h3 h4 h5 h6 h8 h9 h10 h12 => exact ⟨rfl, rfl, es_len h9⟩
  simp only [begun_a, PM.at', PM.er]
  have HF1 := Lib.hid hf1
  have HB := Lib.hid (parse_told [99, 111, 109, 109, 105, 116, 32, 120] (w1.alloc (.cells #[.int .i64 6, .string ⟨#[116]⟩, .string ⟨name.toArray⟩, .slice a3 l3 c3, .slice a4 l4 c4, .slice a5 l5 c5, .slice a6 l6 c6, .string ⟨join.toArray⟩, .slice a8 l8 c8, .slice a9 1 c9, .slice a10 l10 c10, .bool desc, .slice a12 l12 c12] 30)) m (((hf1.alloc _).cell (p := ⟨0, 0, none⟩) h00 (by simp)).trans HM.out) (by have := hf1.size; simp) (by decide))
  clear hs hsr hf1 HA
  go_wp2_with fail
  refine HB.out.mono ?_
  rintro e w2 ⟨c, rfl, hs, hf2⟩
  simp only [begun_b, PM.at', PM.er]
  have hx := (Blk.new w1 30 [.int .i64 6, .string ⟨#[116]⟩, .string ⟨name.toArray⟩, .slice a3 l3 c3, .slice a4 l4 c4, .slice a5 l5 c5, .slice a6 l6 c6, .string ⟨join.toArray⟩, .slice a8 l8 c8, .slice a9 1 c9, .slice a10 l10 c10, .bool desc, .slice a12 l12 c12]).keep hf2 (by simp)
  have d0 := hx.cell 0
  have d1 := hx.cell 1
  have d9 := hx.cell 9
  simp only [List.getElem?_cons_zero, List.getElem?_cons_succ] at d0 d1 d9
  have hl := hx.lt
  have HF2 := Lib.hid ((HF1.out.alloc _).trans hf2)
  clear hs hx hf2 HB
  go_wp2_with fail
  go_ret
  exact ⟨rfl, HF2.out.alloc _⟩
end Px
end Go.Proofs.YtpmgecnkcllneaaDoor
