/- Lists of things as they lie in memory, and what a loop that appends to one keeps. -/
import Derived.Test.YtpmgecnkcllneaaDoorParL
namespace Go.Proofs.YtpmgecnkcllneaaDoor
open Go.RowKit
namespace Px
open PM (PS B Ex)

/-- how things of a kind lie in memory: their cells; A: in which blocks what they are of may lie -/
structure Kd (α : Type) where
  size : Nat
  E : (Nat → Prop) → World → α → List Value → Prop
  keep : ∀ {A : Nat → Prop} {X : List (Option Nat)} {w w' : World} {x : α} {cs : List Value}, Fr X w w' → (∀ g, A g → some g ∉ X) → E A w x cs → E A w' x cs
  mono : ∀ {A A' : Nat → Prop} {w : World} {x : α} {cs : List Value}, (∀ g, A g → A' g) → E A w x cs → E A' w x cs
  live : ∀ {A : Nat → Prop} {w : World} {x : α} {cs : List Value}, E A w x cs → E (fun g => A g ∧ g < w.heap.size) w x cs
  len : ∀ {A : Nat → Prop} {w : World} {x : α} {cs : List Value}, E A w x cs → cs.length = size
  one : ∀ {A : Nat → Prop} {w : World} {x : α} {cs : List Value}, E A w x cs → ∀ u ∈ cs, u.oneCell' = true

variable {α : Type} {K : Kd α} {A : Nat → Prop} {w w' : World}
inductive RL (K : Kd α) (A : Nat → Prop) (w : World) : List α → List Value → Prop
  | nil : RL K A w [] []
  | snoc (l : List α) (e : α) (xs ys : List Value) (h : RL K A w l xs) (k : K.E A w e ys) : RL K A w (l ++ [e]) (xs ++ ys)
theorem RL.keep {X : List (Option Nat)} {l : List α} {cs : List Value} (hf : Fr X w w') (hX : ∀ g, A g → some g ∉ X) (h : RL K A w l cs) : RL K A w' l cs := by
  induction h with
  | nil => exact .nil
  | snoc l e xs ys _ k ih => exact .snoc l e xs ys ih (K.keep hf hX k)
theorem RL.mono {A' : Nat → Prop} {l : List α} {cs : List Value} (hA : ∀ g, A g → A' g) (h : RL K A w l cs) : RL K A' w l cs := by
  induction h with
  | nil => exact .nil
  | snoc l e xs ys _ k ih => exact .snoc l e xs ys ih (K.mono hA k)
theorem RL.live {l : List α} {cs : List Value} (h : RL K A w l cs) : RL K (fun g => A g ∧ g < w.heap.size) w l cs := by
  induction h with
  | nil => exact .nil
  | snoc l e xs ys _ k ih => exact .snoc l e xs ys ih (K.live k)
theorem RL.length {l : List α} {cs : List Value} (h : RL K A w l cs) : cs.length = l.length * K.size := by
  induction h with
  | nil => simp
  | snoc l e xs ys _ k ih => rw [List.length_append, List.length_append, ih, K.len k, List.length_singleton, Nat.add_mul, Nat.one_mul]

/-- a list that is returned: it lies in blocks from b on -/
def LsR (K : Kd α) (T : TypeId) (b : Nat) (w : World) (v : Value) (l : List α) : Prop :=
  ∃ cs, RL K (fun g => b ≤ g) w l cs ∧ Row w T K.size v l.length cs ∧ ∀ g, v.ownBlock = some g → b ≤ g
/-- a reader of one thing, where its words are at most n -/
def OneR (K : Kd α) (ret : List Value → Value) (P g : Nat) (w : World) (k : Nat) (args : Array Value) (n : Nat) (f : PS → α × PS) : Prop :=
  ∀ (w' : World) (s : PS), Fr [some P] w w' → PR w' P g s → s.l.length ≤ n → 0 ≤ s.deep → s.deep ≤ 64 →
    Calls Tryd.prog k args w' fun e w'' => (∃ cs, e = .returned (ret cs) ∧ K.E (fun b => w'.heap.size ≤ b) w'' (f s).1 cs) ∧ PR w'' P g (f s).2 ∧ Fr [some P] w' w''

/-- what the loop keeps -/
def LI (K : Kd α) (T : TypeId) (w : World) (P g n : Nat) (f : PS → α × PS) (res : List α × PS) (v : Value) (wr : World) : Prop :=
  ∃ (fuel : Nat) (acc : List α) (s' : PS) (cs : List Value), Hid (PM.more f fuel acc s' = res) ∧ s'.l.length ≤ fuel ∧ acc.length + s'.l.length ≤ 1001 ∧ s'.l.length ≤ n ∧ 0 ≤ s'.deep ∧ s'.deep ≤ 64 ∧ Hid (PR wr P g s') ∧
    Hid (RL K (fun b => w.heap.size ≤ b ∧ v.ownBlock ≠ some b) wr acc cs) ∧ Hid (Row wr T K.size v acc.length cs) ∧ Hid (∀ b, v.ownBlock = some b → w.heap.size ≤ b) ∧ Hid (Fr [some P] w wr)

/-- one is there: the list of one -/
theorem LI.start {T : TypeId} {w w1 : World} {P g n : Nat} {f : PS → α × PS} {s : PS} {cs : List Value} (hg : PM.Good f) (hn : s.l.length ≤ n) (hb : s.l.length ≤ 1000) (h0 : 0 ≤ s.deep) (h64 : s.deep ≤ 64) (hP : PR w1 P g (f s).2)
    (hx : K.E (fun b => w.heap.size ≤ b) w1 (f s).1 cs) (hF : Fr [some P] w w1) : LI K T w P g n f (PM.list f s) (.slice (some ⟨w1.heap.size, 0, none⟩) 1 1) (w1.alloc (.cells cs.toArray T)) := by
  have hgs := hg s
  have hl := K.len hx
  refine ⟨(f s).2.l.length, [(f s).1], (f s).2, cs, rfl, Nat.le_refl _, by simp; omega, by omega, by omega, by omega, hP.alloc _, ?_, ?_, ?_, hF.alloc _⟩
  · have h := RL.snoc (K := K) (A := fun b => w.heap.size ≤ b ∧ (Value.slice (some ⟨w1.heap.size, 0, none⟩) 1 1).ownBlock ≠ some b) (w := w1.alloc (.cells cs.toArray T)) [] (f s).1 [] cs .nil
      (K.mono (fun g hg => ⟨hg.1, by simp [Value.ownBlock]; omega⟩) (K.keep ((Fr.refl [] w1).alloc _) (fun g _ => by simp) (K.live hx)))
    exact h
  · refine ⟨by simp [hl], .inr ⟨w1.heap.size, 0, 1, cs, rfl, Blk.new w1 T cs, Nat.le_refl _, by simp [maxLen], by simp [hl], ?_⟩⟩
    rw [List.drop_zero, List.take_of_length_le (by simp [hl])]
  · intro b hb
    simp only [Value.ownBlock, Option.some.injEq] at hb
    subst hb
    exact hF.size

/-- one more -/
theorem LI.step {T : TypeId} {w wr w1 w2 w4 : World} {P g n fu : Nat} {f : PS → α × PS} {res : List α × PS} {acc : List α} {x : α} {s2 : PS} {cs ys : List Value} {v v' : Value} (hres : PM.more f fu (acc ++ [x]) s2 = res) (hfu : s2.l.length ≤ fu) (hb : acc.length + s2.l.length ≤ 1000) (hn : s2.l.length ≤ n) (h0 : 0 ≤ s2.deep) (h64 : s2.deep ≤ 64)
    (hPw : P < w.heap.size) (hR : RL K (fun b => w.heap.size ≤ b ∧ v.ownBlock ≠ some b) wr acc cs) (hrow : Row wr T K.size v acc.length cs) (hown : ∀ b, v.ownBlock = some b → w.heap.size ≤ b) (hF : Fr [some P] w wr)
    (h1 : Fr [some P] wr w1) (h2 : Fr [some P] w1 w2) (hx : K.E (fun b => w1.heap.size ≤ b) w2 x ys) (hP : PR w2 P g s2)
    (hrow' : Row w4 T K.size v' (acc.length + 1) (cs ++ ys)) (hf4 : Fr [v.ownBlock] (w2.alloc (.cells ys.toArray T)) w4) (hown' : v'.ownBlock = v.ownBlock ∨ ∃ k, w2.heap.size + 1 ≤ k ∧ v'.ownBlock = some k) :
    LI K T w P g n f res v' w4 ∧ meaL P w4 = s2.l.length := by
  have hgP := hP.ne
  have hvP : ∀ q, q ≤ P → some q ∉ [v.ownBlock] := by
    intro q hq hm
    simp only [List.mem_singleton] at hm
    have := hown q hm.symm
    omega
  have hvl : ∀ b, v.ownBlock = some b → b < wr.heap.size := fun b hb => hrow.block_lt hb
  have hs1 := h1.size
  have hs2 := h2.size
  have hsF := hF.size
  have hP4 : PR w4 P g s2 := (hP.alloc _).keep hf4 (hvP P (Nat.le_refl _)) (hvP g (by omega))
  have h12 : Fr [some P] wr (w2.alloc (.cells ys.toArray T)) := (h1.trans h2).alloc _
  have hv' : ∀ b, v'.ownBlock = some b → v.ownBlock = some b ∨ w2.heap.size < b := by
    intro b hb
    rcases hown' with h | ⟨k, hk, h⟩
    · exact .inl (h ▸ hb)
    · rw [h] at hb
      simp at hb hk
      omega
  have hRa : RL K (fun b => w.heap.size ≤ b ∧ v'.ownBlock ≠ some b) w4 acc cs := by
    refine RL.mono (fun b hb => ⟨hb.1.1, fun h => ?_⟩) (RL.keep (A := fun b => (w.heap.size ≤ b ∧ v.ownBlock ≠ some b) ∧ b < wr.heap.size) hf4 (fun b hb => by simp; exact fun h => hb.1.2 h.symm) (RL.keep h12 (fun b hb => by simp; omega) hR.live))
    rcases hv' b h with h | h
    · exact hb.1.2 h
    · have := hb.2
      omega
  have hRx : K.E (fun b => w.heap.size ≤ b ∧ v'.ownBlock ≠ some b) w4 x ys := by
    refine K.mono (fun b hb => ⟨by omega, fun h => ?_⟩) (K.keep (A := fun b => w1.heap.size ≤ b ∧ b < w2.heap.size) hf4 (fun b hb => ?_) (K.keep ((Fr.refl [] w2).alloc _) (fun b _ => by simp) (K.live hx)))
    · rcases hv' b h with h | h
      · have := hvl b h
        omega
      · omega
    · simp
      intro h
      have := hvl b h.symm
      omega
  refine ⟨⟨fu, acc ++ [x], s2, cs ++ ys, hres, hfu, by simp; omega, hn, h0, h64, hP4, .snoc _ _ _ _ hRa hRx, ?_, ?_, ?_⟩, meaL_of hP4⟩
  · rw [List.length_append]
    exact hrow'
  · intro b hb
    rcases hv' b hb with h | h
    · exact hown b h
    · omega
  · refine (hF.trans h12).trans' hf4 (fun i hi => .inr ?_)
    simp at hi
    exact hown i hi.symm
/-- none more -/
theorem LI.done {T : TypeId} {w wr : World} {acc : List α} {v : Value} {cs : List Value} (hR : RL K (fun b => w.heap.size ≤ b ∧ v.ownBlock ≠ some b) wr acc cs) (hrow : Row wr T K.size v acc.length cs) (hown : ∀ b, v.ownBlock = some b → w.heap.size ≤ b) : LsR K T w.heap.size wr v acc :=
  ⟨cs, RL.mono (fun _ h => h.1) hR, hrow, hown⟩

/-- expressions -/
def kEx : Kd Ex where
  size := 7
  E := Rep.E 40
  keep := fun h1 h2 h3 => Rep.E.keep h1 h2 h3
  mono := fun h1 h2 => Rep.E.mono h1 h2
  live := fun h => Rep.E.live h
  len := fun h => h.length
  one := fun h => by
    cases h with
    | mk op kind int t tb n args v hv =>
      cases hv with
      | mk _ _ xs h1 h2 h3 =>
        rcases h2.form with ⟨rfl, _, _⟩ | ⟨g, off, cap, rfl, _, _⟩
        · simp [Rep.str, Value.oneCell']
        · simp [Rep.str, Value.oneCell']
/-- things without a part of their own in memory -/
def kFlat (cells : α → List Value) (size : Nat) (hl : ∀ x, (cells x).length = size) (h1 : ∀ x, ∀ u ∈ cells x, u.oneCell' = true) : Kd α where
  size := size
  E := fun _ _ x cs => cs = cells x
  keep := fun _ _ h => h
  mono := fun _ h => h
  live := fun h => h
  len := fun h => by subst h; exact hl _
  one := fun h => by subst h; exact h1 _
def colC (c : PM.Col) : List Value := [.string ⟨c.name.toArray⟩, .int .i64 c.kind, .string ⟨c.ref.toArray⟩]
def itC (i : PM.It) : List Value := [.int .i64 i.agg, .string ⟨i.table.toArray⟩, .string ⟨i.name.toArray⟩]
def u16C (n : Int) : List Value := [.int .u16 n]
def kCol : Kd PM.Col := kFlat colC 3 (fun _ => rfl) (fun _ => by simp [colC, Value.oneCell'])
def kIt : Kd PM.It := kFlat itC 3 (fun _ => rfl) (fun _ => by simp [itC, Value.oneCell'])
def kTag : Kd Int := kFlat u16C 1 (fun _ => rfl) (fun _ => by simp [u16C, Value.oneCell'])
theorem flat_list {cells : α → List Value} {size : Nat} {hl : ∀ x, (cells x).length = size} {h1 : ∀ x, ∀ u ∈ cells x, u.oneCell' = true} {l : List α} {cs : List Value} (h : RL (kFlat cells size hl h1) A w l cs) : cs = l.flatMap cells := by
  induction h with
  | nil => rfl
  | snoc l e xs ys _ k ih => rw [List.flatMap_append, ih, show ys = cells e from k]; simp
theorem ex_list {l : List Ex} {cs : List Value} (h : RL kEx A w l cs) : Rep.L 40 A w l cs := by
  induction h with
  | nil => exact .nil
  | snoc l e xs ys _ k ih => exact ih.snoc k
theorem ex_es {b : Nat} {w : World} {v : Value} {l : List Ex} (h : LsR kEx 40 b w v l) : Rep.Es 40 (fun g => b ≤ g) w l v := by
  obtain ⟨cs, h1, h2, h3⟩ := h
  exact .mk l v cs (ex_list h1) h2 h3
/-- a reader of expressions is a reader of one -/
def agg (cs : List Value) : Value := .agg cs.toArray
def hd (cs : List Value) : Value := cs.headD undef
theorem Reads.one {P g : Nat} {w : World} {k : Nat} {args : Array Value} {n : Nat} {f : PS → Ex × PS} (h : Reads P g w k args n f) : OneR kEx agg P g w k args n f := h
end Px
end Go.Proofs.YtpmgecnkcllneaaDoor
