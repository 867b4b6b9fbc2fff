/- parse: maps that are written out. -/
import Derived.Test.YtpmgecnkcllneaaDoorParF
import Derived.Test.YtpmgecnkcllneaaDoorParG
import Derived.Carry
import Derived.MapKept
namespace Go.Proofs.YtpmgecnkcllneaaDoor
open Go.RowKit
namespace Px
open PM (PS B Ex)

/-- a map's entries, in the order in which they were put -/
def ents : List (B × Int) → Nat → List MapEntry
  | [], _ => []
  | (k, v) :: r, n => { key := .string ⟨k.toArray⟩, val := .int .i64 v, born := n } :: ents r (n + 1)
def mapObj (l : List (B × Int)) : Obj := .map (ents l 0).toArray l.length
theorem ents_snoc (l : List (B × Int)) (k : B) (v : Int) (n : Nat) : ents (l ++ [(k, v)]) n = ents l n ++ [{ key := .string ⟨k.toArray⟩, val := .int .i64 v, born := n + l.length }] := by
  induction l generalizing n with
  | nil => simp [ents]
  | cons a r ih =>
    obtain ⟨a, b⟩ := a
    simp only [List.cons_append, ents, ih, List.length_cons]
    rw [show n + 1 + r.length = n + (r.length + 1) by omega]
theorem ents_key (l : List (B × Int)) (n : Nat) : ∀ x ∈ ents l n, ∃ p ∈ l, x.key = .string ⟨p.1.toArray⟩ := by
  induction l generalizing n with
  | nil => simp [ents]
  | cons a r ih =>
    obtain ⟨a, b⟩ := a
    intro x hx
    simp only [ents, List.mem_cons] at hx
    rcases hx with rfl | hx
    · exact ⟨(a, b), by simp, rfl⟩
    · obtain ⟨p, hp, e⟩ := ih (n + 1) x hx
      exact ⟨p, by simp [hp], e⟩
theorem ents_isKey (l : List (B × Int)) (n : Nat) : ∀ x ∈ ents l n, MapKept.IsKey .string x.key := by
  intro x hx
  obtain ⟨p, _, e⟩ := ents_key l n x hx
  rw [e]
  trivial
/-- what a list of pairs answers -/
def find : List (B × Int) → B → Option Int
  | [], _ => none
  | (k, v) :: r, w => if w = k then some v else find r w
theorem bytes_inj {a b : B} (h : (Value.string ⟨a.toArray⟩) = .string ⟨b.toArray⟩) : a = b := by
  simpa using h
theorem find_now (l : List (B × Int)) (n i : Nat) (w : B) : ∃ r, Instr.findNow .string (.string ⟨w.toArray⟩) (ents l n) i = some r ∧ r.map (·.2) = (find l w).map (Value.int .i64) := by
  induction l generalizing n i with
  | nil => exact ⟨none, rfl, rfl⟩
  | cons a r ih =>
    obtain ⟨k, v⟩ := a
    by_cases h : w = k
    · subst h
      refine ⟨some (i, .int .i64 v), ?_, by simp [find]⟩
      have : ((⟨w.toArray⟩ : ByteArray) == ⟨w.toArray⟩) = true := (MapKept.bytes_beq _ _).2 rfl
      simp [ents, Instr.findNow, Instr.sameNow, this]
    · obtain ⟨r', h1, h2⟩ := ih (n + 1) (i + 1)
      refine ⟨r', ?_, by simp [find, h, h2]⟩
      have : ((⟨w.toArray⟩ : ByteArray) == ⟨k.toArray⟩) = false := by
        rw [Bool.eq_false_iff]
        intro e
        have := (MapKept.bytes_beq _ _).1 e
        exact h (by simpa using this)
      simp [ents, Instr.findNow, Instr.sameNow, this, h1]

theorem map_und : Tryd.prog.underlying 99 = some (.map 9 3) := by kernel_rfl
theorem str_und : Tryd.prog.underlying 9 = some .string := by kernel_rfl

theorem push_set (a : Array Obj) (x y : Obj) : (a.push x).setIfInBounds a.size y = a.push y := by
  apply Array.ext_getElem?
  intro i
  rw [Array.getElem?_setIfInBounds, Array.getElem?_push, Array.getElem?_push]
  by_cases h : a.size = i
  · subst h
    simp
  · rw [if_neg h, if_neg (fun e => h e.symm), if_neg (fun e => h e.symm)]
theorem run_make (w : World) : (Instr.makeMap 99 none).run Tryd.prog w = .ok (.map (some w.heap.size)) (w.alloc (mapObj [])) := run_makeMap _ w
theorem run_put (w : World) (l : List (B × Int)) (k : B) (v : Int) (hk : ∀ p ∈ l, p.1 ≠ k) :
    (Instr.mapUpdate 99 (.map (some w.heap.size)) (.string ⟨k.toArray⟩) (.int .i64 v)).run Tryd.prog (w.alloc (mapObj l)) = .ok () (w.alloc (mapObj (l ++ [(k, v)]))) := by
  have hb : (w.alloc (mapObj l)).heap[w.heap.size]? = some (.map (ents l 0).toArray l.length) := heap_alloc_new w _
  have hK : MapKept.IsKey .string (.string ⟨k.toArray⟩) := trivial
  rcases MapKept.findNow_spec hK (ents l 0) 0 (ents_isKey l 0) with ⟨h1, _⟩ | ⟨j, e, h1, h2, h3⟩
  · simp only [Instr.mapUpdate, Sem.run_bind, run_underlying map_und, MapKept.run_getObj_map hb, MapKept.run_checkKey str_und hK, MapKept.run_findKey str_und h1, MapKept.run_setObj_map _ hb, Result.andThen]
    congr 1
    simp only [World.alloc, World.mk.injEq, and_true]
    simp only [mapObj, ents_snoc, Nat.zero_add, List.length_append, List.length_cons, List.length_nil, List.push_toArray]
    exact push_set _ _ _
  · obtain ⟨p, hp, e1⟩ := ents_key l 0 e (List.mem_of_getElem? h2)
    rw [h3] at e1
    exact absurd (bytes_inj e1).symm (hk p hp)

theorem run_look (w : World) (b : Nat) (l : List (B × Int)) (wd : B) (hb : w.heap[b]? = some (mapObj l)) :
    (Instr.lookup 99 (.map (some b)) (.string ⟨wd.toArray⟩) true).run Tryd.prog w = .ok (.tuple #[.int .i64 ((find l wd).getD 0), .bool (find l wd).isSome]) w ∧
    (Instr.lookup 99 (.map (some b)) (.string ⟨wd.toArray⟩) false).run Tryd.prog w = .ok (.int .i64 ((find l wd).getD 0)) w := by
  have hK : MapKept.IsKey .string (.string ⟨wd.toArray⟩) := trivial
  obtain ⟨r, h1, h2⟩ := find_now l 0 0 wd
  cases r with
  | none =>
    have h3 : find l wd = none := by simpa using h2.symm
    rw [h3]
    constructor
    all_goals simp [Instr.lookup, run_underlying map_und, MapKept.run_getObj_map hb, MapKept.run_checkKey str_und hK, MapKept.run_findKey str_und h1, Result.andThen]
  | some r =>
    obtain ⟨i, v⟩ := r
    obtain ⟨x, h3, rfl⟩ : ∃ x, find l wd = some x ∧ v = .int .i64 x := by
      cases hf : find l wd with
      | none => rw [hf] at h2; cases h2
      | some x => rw [hf] at h2; exact ⟨x, rfl, by simpa using h2⟩
    rw [h3]
    constructor
    all_goals simp [Instr.lookup, run_underlying map_und, MapKept.run_getObj_map hb, MapKept.run_checkKey str_und hK, MapKept.run_findKey str_und h1, Result.andThen]

/-- a map that is written out answers as its list does -/
theorem asks_of {P b : Nat} {w : World} {l : List (B × Int)} {ops : B → Option Int} (hb : w.heap[b]? = some (mapObj l)) (hbP : b ≠ P) (ho : ∀ wd, ops wd = find l wd) : Asks P w (.map (some b)) ops := by
  intro w' wd hf
  have hl : b < w.heap.size := (Array.getElem?_eq_some_iff.1 hb).1
  have := (run_look w' b l wd ((hf.blk hl (by simp; exact hbP)).trans hb)).1
  rw [ho]
  exact this
end Px
end Go.Proofs.YtpmgecnkcllneaaDoor
