/- parse: a range over the three kinds of one word, in whatever order. -/
import Derived.Test.YtpmgecnkcllneaaDoorParV
import Derived.Maps.RangeWalk
namespace Go.Proofs.YtpmgecnkcllneaaDoor
open Go.RowKit
open Go.ChangeMaps (setBlock)
namespace Px
open PM (PS B Ex)

def kinds : List (B × Int) := [([98, 101, 103, 105, 110], 9), ([99, 111, 109, 109, 105, 116], 10), ([114, 111, 108, 108, 98, 97, 99, 107], 11)]
/-- what the loop keeps of its map (block m) and its iterator (block r): those that came are no word at hand -/
structure Rg (w : World) (m r : Nat) (s : PS) (seen : Array Nat) (c0 : Nat) : Prop where
  map : w.heap[m]? = some (mapObj kinds)
  it : w.heap[r]? = some (.mapIter (some m) 3 seen c0)
  ge : 3 ≤ c0
  no : ∀ j (hj : j < kinds.length), seen.contains j = true → PM.is kinds[j].1 s = false
theorem ents_get (l : List (B × Int)) (n : Nat) (e : MapEntry) (h : e ∈ ents l n) : ∃ j, ∃ hj : j < l.length, e = { key := .string ⟨l[j].1.toArray⟩, val := .int .i64 l[j].2, born := n + j } := by
  induction l generalizing n with
  | nil => simp [ents] at h
  | cons a r ih =>
    obtain ⟨a, b⟩ := a
    simp only [ents, List.mem_cons] at h
    rcases h with rfl | h
    · exact ⟨0, by simp, rfl⟩
    · obtain ⟨j, hj, e1⟩ := ih (n + 1) h
      refine ⟨j + 1, by simp; omega, ?_⟩
      rw [e1]
      simp
      omega
theorem ents_mem (l : List (B × Int)) (n j : Nat) (hj : j < l.length) : ({ key := .string ⟨l[j].1.toArray⟩, val := .int .i64 l[j].2, born := n + j } : MapEntry) ∈ ents l n := by
  induction l generalizing n j with
  | nil => simp at hj
  | cons a r ih =>
    obtain ⟨a, b⟩ := a
    cases j with
    | zero => simp [ents]
    | succ j =>
      simp only [ents, List.mem_cons]
      right
      have := ih (n + 1) j (by simpa using hj)
      simp only [List.getElem_cons_succ]
      rwa [show n + (j + 1) = n + 1 + j by omega]
def kmea (r : Nat) (w : World) : Nat := match w.heap[r]? with | some (.mapIter _ _ seen _) => (leftOf (ents kinds 0).toArray seen).size | _ => 0
theorem Rg.mea {w : World} {m r : Nat} {s : PS} {seen : Array Nat} {c0 : Nat} (h : Rg w m r s seen c0) : kmea r w = (leftOf (ents kinds 0).toArray seen).size := by
  rw [kmea, h.it]
theorem Rg.keep {X : List (Option Nat)} {w w' : World} {m r : Nat} {s : PS} {seen : Array Nat} {c0 : Nat} (h : Rg w m r s seen c0) (hf : Fr X w w') (hm : some m ∉ X) (hr : some r ∉ X) : Rg w' m r s seen c0 :=
  ⟨(hf.blk (Array.getElem?_eq_some_iff.1 h.map).1 hm).trans h.map, (hf.blk (Array.getElem?_eq_some_iff.1 h.it).1 hr).trans h.it, h.ge, h.no⟩
/-- the step -/
theorem Rg.next {w : World} {m r : Nat} {s : PS} {seen : Array Nat} {c0 : Nat} (h : Rg w m r s seen c0) (hne : m ≠ r) (ty : TypeId) :
    ((∀ j (hj : j < kinds.length), PM.is kinds[j].1 s = false) ∧ (Instr.next (.pointer (some ⟨r, 0, none⟩)) false ty).run Tryd.prog w = .ok (.tuple #[.bool false]) w) ∨
    ∃ j, ∃ hj : j < kinds.length, ∃ w', (Instr.next (.pointer (some ⟨r, 0, none⟩)) false ty).run Tryd.prog w = .ok (.tuple #[.bool true, .string ⟨kinds[j].1.toArray⟩, .int .i64 kinds[j].2]) w' ∧
      (Instr.entry (.pointer (some ⟨r, 0, none⟩))).run Tryd.prog w' = .ok (.tuple #[.string ⟨kinds[j].1.toArray⟩, .int .i64 kinds[j].2]) w' ∧ Fr [some r] w w' ∧ w'.heap.size = w.heap.size ∧
      (PM.is kinds[j].1 s = false → Rg w' m r s (seen.push j) 3) ∧ (leftOf (ents kinds 0).toArray (seen.push j)).size < (leftOf (ents kinds 0).toArray seen).size := by
  have hold : ∀ x ∈ (ents kinds 0).toArray.toList, x.born < 3 := by decide
  have hnd : ((ents kinds 0).toArray.toList.map (·.born)).Nodup := by decide
  rcases run_next_at (P := Tryd.prog) w ty r m 3 c0 seen (ents kinds 0).toArray kinds.length h.it h.map hold h.ge with ⟨h0, hrun⟩ | ⟨e, he, w1, hal, hrun⟩
  · refine .inl ⟨fun j hj => h.no j hj ?_, hrun⟩
    have hx := ents_mem kinds 0 j hj
    have := all_seen (ents kinds 0).toArray seen h0 _ (by simpa using hx)
    simpa using this
  · obtain ⟨hem, hes⟩ := mem_left he
    obtain ⟨j, hj, rfl⟩ := ents_get kinds 0 e (by simpa using hem)
    rw [Nat.zero_add] at *
    have hr1 : w1.heap[r]? = some (.mapIter (some m) 3 seen c0) := by rcases hal with rfl | rfl <;> exact h.it
    have hm1 : w1.heap[m]? = some (mapObj kinds) := by rcases hal with rfl | rfl <;> exact h.map
    have hset := MapKept.heap_set (o' := .mapIter (some m) 3 (seen.push j) kinds.length) hr1
    have hm2 := (hset.2 m hne).trans hm1
    have hfr : Fr [some r] w (setBlock w1 r (.mapIter (some m) 3 (seen.push j) kinds.length)) := by
      rcases hal with rfl | rfl
      · exact ⟨rfl, rfl, rfl, by simp [setBlock], fun i _ hi => hset.2 i (fun e1 => hi (by simp [e1]))⟩
      · exact ⟨rfl, rfl, rfl, by simp [setBlock], fun i _ hi => hset.2 i (fun e1 => hi (by simp [e1]))⟩
    have hsz : (setBlock w1 r (.mapIter (some m) 3 (seen.push j) kinds.length)).heap.size = w.heap.size := by rcases hal with rfl | rfl <;> simp [setBlock]
    have hent := run_entry_at (P := Tryd.prog) (setBlock w1 r (.mapIter (some m) 3 (seen.push j) kinds.length)) r m 3 seen (ents kinds 0).toArray kinds.length { key := .string ⟨kinds[j].1.toArray⟩, val := .int .i64 kinds[j].2, born := j } hset.1 hm2 hem hnd
    have hsh := left_shrinks (ents kinds 0).toArray seen { key := .string ⟨kinds[j].1.toArray⟩, val := .int .i64 kinds[j].2, born := j } he
    have hl3 : kinds.length = 3 := rfl
    refine .inr ⟨j, hj, setBlock w1 r (.mapIter (some m) 3 (seen.push j) kinds.length), hrun, hent, hfr, hsz, fun hno => ⟨hm2, hset.1, Nat.le_refl _, fun i hi hc => ?_⟩, hsh⟩
    by_cases e : i = j
    · subst e; exact hno
    · refine h.no i hi ?_
      have := contains_push seen j i
      rw [this] at hc
      simpa [e] using hc
end Px
end Go.Proofs.YtpmgecnkcllneaaDoor
