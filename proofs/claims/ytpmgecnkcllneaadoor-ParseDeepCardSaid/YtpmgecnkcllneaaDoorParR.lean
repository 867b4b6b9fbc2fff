/- parse: what a walk through a reader of statements wants besides. -/
import Derived.Test.YtpmgecnkcllneaaDoorParQ
namespace Go.Proofs.YtpmgecnkcllneaaDoor
open Go.RowKit
namespace PM
theorem good_more {α : Type} {f : PS → α × PS} (hf : Good f) : ∀ (n : Nat) (acc : List α) (s : PS), (more f n acc s).2.deep = s.deep ∧ (more f n acc s).2.l.length ≤ s.l.length
  | 0, acc, s => ⟨rfl, Nat.le_refl _⟩
  | n + 1, acc, s => by
    rw [more]
    split
    · have h1 := calm_skip s
      have h2 := hf (skip s)
      have h3 := good_more hf n (acc ++ [(f (skip s)).1]) (f (skip s)).2
      exact ⟨h3.1.trans (h2.1.trans h1.1), Nat.le_trans h3.2 (Nat.le_trans h2.2 h1.2)⟩
    · exact ⟨rfl, Nat.le_refl _⟩
theorem good_list {α : Type} {f : PS → α × PS} (hf : Good f) : Good (list f) := fun s => by
  have h1 := hf s
  have h2 := good_more hf (f s).2.l.length [(f s).1] (f s).2
  exact ⟨h2.1.trans h1.1, Nat.le_trans h2.2 h1.2⟩
theorem good_wheres (n : Nat) : Good (wheres n) := fun s => by
  unfold wheres
  split
  · have h1 := calm_skip s
    have h2 := good_exprN n (skip s)
    exact ⟨h2.1.trans h1.1, Nat.le_trans h2.2 h1.2⟩
  · exact ⟨rfl, Nat.le_refl _⟩
theorem good_skips (w : B) : Good (skips w) := fun s => by
  unfold skips
  split
  · exact calm_skip s
  · exact ⟨rfl, Nat.le_refl _⟩
theorem good_item : Good item := fun s => by
  unfold item
  split
  · have h1 := calm_skip s
    have h2 := calm_needs [[40], [42], [41]] (skip s)
    exact ⟨h2.1.trans h1.1, Nat.le_trans h2.2 h1.2⟩
  · simp only []
    generalize (if sign s = [115, 117, 109] then (2 : Int) else if sign s = [109, 105, 110] then 3 else if sign s = [109, 97, 120] then 4 else 0) = agg
    split
    · have h1 := good_column s
      revert h1
      rcases column s with ⟨⟨_, _, _, _, _, _, _⟩, s1⟩
      exact id
    · have h1 := calm_skip s
      have h2 := calm_needs [[40]] (skip s)
      have h3 := good_column (needs [[40]] (skip s))
      revert h3
      rcases column (needs [[40]] (skip s)) with ⟨⟨_, _, _, _, _, _, _⟩, s1⟩
      intro h3
      have h4 := calm_needs [[41]] s1
      exact ⟨h4.1.trans (h3.1.trans (h2.1.trans h1.1)), Nat.le_trans h4.2 (Nat.le_trans h3.2 (Nat.le_trans h2.2 h1.2))⟩
theorem good_col : Good col := fun s => by
  have h1 := good_name s
  unfold col
  revert h1
  rcases name s with ⟨n, s1⟩
  intro h1
  simp only [] at h1 ⊢
  have h2 : (if is [105, 110, 116] s1 = true then ((1 : Int), skip s1) else if is [116, 101, 120, 116] s1 = true then (2, skip s1) else (0, fails 5 s1)).2.deep = s1.deep ∧ (if is [105, 110, 116] s1 = true then ((1 : Int), skip s1) else if is [116, 101, 120, 116] s1 = true then (2, skip s1) else (0, fails 5 s1)).2.l.length ≤ s1.l.length := by
    split
    · exact calm_skip s1
    · split
      · exact calm_skip s1
      · exact calm_fails 5 s1
  revert h2
  rcases (if is [105, 110, 116] s1 = true then ((1 : Int), skip s1) else if is [116, 101, 120, 116] s1 = true then (2, skip s1) else (0, fails 5 s1)) with ⟨k, s2⟩
  intro h2
  simp only [] at h2 ⊢
  split
  · have h3 := calm_skip s2
    have h4 := good_name (skip s2)
    exact ⟨h4.1.trans (h3.1.trans (h2.1.trans h1.1)), Nat.le_trans h4.2 (Nat.le_trans h3.2 (Nat.le_trans h2.2 h1.2))⟩
  · exact ⟨h2.1.trans h1.1, Nat.le_trans h2.2 h1.2⟩
/-- as deep, no more words -/
def Le (s1 s : PS) : Prop := s1.deep = s.deep ∧ s1.l.length ≤ s.l.length
theorem Le.refl (s : PS) : Le s s := ⟨rfl, Nat.le_refl _⟩
theorem Le.calm {f : PS → PS} {s s1 s2 : PS} (p : Le s1 s) (h : Calm f) (e : f s1 = s2) : Le s2 s := by
  subst e
  exact ⟨(h s1).1.trans p.1, Nat.le_trans (h s1).2 p.2⟩
theorem Le.good {α : Type} {f : PS → α × PS} {s s1 s2 : PS} {a : α} (p : Le s1 s) (h : Good f) (e : f s1 = (a, s2)) : Le s2 s := by
  have := h s1
  rw [e] at this
  exact ⟨this.1.trans p.1, Nat.le_trans this.2 p.2⟩
end PM
namespace Px
open PM (PS B Ex)

theorem skips_pair (P g : Nat) (s : PS) (wd : B) (w : World) (h : PR w P g s) {d : Bool} {s' : PS} (hq : PM.skips wd s = (d, s')) :
    Calls Tryd.prog 30 #[.pointer (some ⟨P, 0, none⟩), .string ⟨wd.toArray⟩] w fun e w' => e = .returned (.bool d) ∧ PR w' P g s' ∧ Fr [some P] w w' := by
  unfold PM.skips at hq
  split at hq
  · rename_i hi
    cases hq
    exact skips_yes P g s wd w h hi
  · rename_i hi
    cases hq
    exact skips_no P g _ wd w h (by simpa using hi)

/-- a new list of expressions, laid beside a field that is set to it -/
theorem es_set_new {A : Nat → Prop} {w : World} {St j : Nat} {l : List Ex} {cs : List Value} (hL : Rep.L 40 A w l cs) (hA : ∀ g, A g → g ≠ St) (hn : A w.heap.size) (hm : l.length ≤ maxLen) :
    Rep.Es 40 A ((w.setCell ⟨St, j, none⟩ (.slice (some ⟨w.heap.size, 0, none⟩) l.length l.length)).alloc (.cells cs.toArray 40)) l (.slice (some ⟨w.heap.size, 0, none⟩) l.length l.length) := by
  have hf : Fr [some St] w ((w.setCell ⟨St, j, none⟩ (.slice (some ⟨w.heap.size, 0, none⟩) l.length l.length)).alloc (.cells cs.toArray 40)) := (frSet (P := St) _).alloc _
  have hnew := Blk.new (w.setCell ⟨St, j, none⟩ (.slice (some ⟨w.heap.size, 0, none⟩) l.length l.length)) 40 cs
  rw [World.size_setCell] at hnew
  have hlen := hL.length
  refine .mk l _ cs (Rep.L.keep hf (fun g h => by have := hA g h; simp; exact this) hL) ⟨hlen, .inr ⟨w.heap.size, 0, l.length, cs, rfl, hnew, Nat.le_refl _, hm, by omega, ?_⟩⟩ (fun g hg => ?_)
  · rw [List.drop_zero, List.take_of_length_le (by omega)]
  · simp only [Value.ownBlock, Option.some.injEq] at hg
    subst hg
    exact hn
theorem list_item' {P g : Nat} {s : PS} {w : World} (n : Nat) (h : PR w P g s) (h0 : 0 ≤ s.deep) (h64 : s.deep ≤ 64) (hn : s.l.length ≤ n) (hb : s.l.length ≤ 1000) {l : List PM.It} {s' : PS} (hq : PM.list PM.item s = (l, s')) :
    Calls Tryd.prog 57 #[.pointer (some ⟨P, 0, none⟩), .func (.func 58) #[.pointer (some ⟨P, 0, none⟩)] #[]] w fun e w' => (∃ a len cap, e = .returned (.slice a len cap) ∧ ItS (fun b => w.heap.size ≤ b) w' (.slice a len cap) l) ∧ PR w' P g s' ∧ Fr [some P] w w' := by
  refine (list_item P g s 58 #[.pointer (some ⟨P, 0, none⟩)] #[] n PM.item PM.good_item w h h0 h64 hn hb (fun w => by kernel_rfl) (fun w' s _ h _ _ _ => item_any P g s w' h)).mono ?_
  rintro e w1 ⟨⟨v, rfl, hv⟩, h1, hf1⟩
  rw [hq] at hv h1
  have hs := flat_of hv
  obtain ⟨a, len, cap, rfl⟩ := hs.form
  exact ⟨⟨a, len, cap, rfl, hs⟩, h1, hf1⟩
theorem list_col' {P g : Nat} {s : PS} {w : World} (n : Nat) (h : PR w P g s) (h0 : 0 ≤ s.deep) (h64 : s.deep ≤ 64) (hn : s.l.length ≤ n) (hb : s.l.length ≤ 1000) {l : List PM.Col} {s' : PS} (hq : PM.list PM.col s = (l, s')) :
    Calls Tryd.prog 51 #[.pointer (some ⟨P, 0, none⟩), .func (.func 52) #[.pointer (some ⟨P, 0, none⟩)] #[]] w fun e w' => (∃ a len cap, e = .returned (.slice a len cap) ∧ ColS (fun b => w.heap.size ≤ b) w' (.slice a len cap) l) ∧ PR w' P g s' ∧ Fr [some P] w w' := by
  refine (list_col P g s 52 #[.pointer (some ⟨P, 0, none⟩)] #[] n PM.col PM.good_col w h h0 h64 hn hb (fun w => by kernel_rfl) (fun w' s _ h _ _ _ => col_any P g s w' h)).mono ?_
  rintro e w1 ⟨⟨v, rfl, hv⟩, h1, hf1⟩
  rw [hq] at hv h1
  have hs := flat_of hv
  obtain ⟨a, len, cap, rfl⟩ := hs.form
  exact ⟨⟨a, len, cap, rfl, hs⟩, h1, hf1⟩
theorem list_tag' {P g : Nat} {s : PS} {w : World} (n : Nat) (h : PR w P g s) (h0 : 0 ≤ s.deep) (h64 : s.deep ≤ 64) (hn : s.l.length ≤ n) (hb : s.l.length ≤ 1000) {l : List Int} {s' : PS} (hq : PM.list PM.tag s = (l, s')) :
    Calls Tryd.prog 38 #[.pointer (some ⟨P, 0, none⟩), .func (.func 39) #[.pointer (some ⟨P, 0, none⟩)] #[]] w fun e w' => (∃ a len cap, e = .returned (.slice a len cap) ∧ TagS (fun b => w.heap.size ≤ b) w' (.slice a len cap) l) ∧ PR w' P g s' ∧ Fr [some P] w w' := by
  refine (list_u16 P g s 39 #[.pointer (some ⟨P, 0, none⟩)] #[] n PM.tag PM.good_tag w h h0 h64 hn hb (fun w => by kernel_rfl) (fun w' s _ h _ _ _ => (tag_any P g s w' h).mono ?_)).mono ?_
  · rintro e w1 ⟨rfl, h1, hf1⟩
    exact ⟨⟨_, rfl, rfl⟩, h1, hf1⟩
  rintro e w1 ⟨⟨v, rfl, hv⟩, h1, hf1⟩
  rw [hq] at hv h1
  have hs := flat_of hv
  obtain ⟨a, len, cap, rfl⟩ := hs.form
  exact ⟨⟨a, len, cap, rfl, hs⟩, h1, hf1⟩
theorem list_expr' {P g : Nat} {s : PS} {w : World} (n : Nat) (h : PR w P g s) (h0 : 0 ≤ s.deep) (h64 : s.deep ≤ 64) (hn : s.l.length ≤ n) (hb : s.l.length ≤ 1000) {l : List Ex} {s' : PS} (hq : PM.list (PM.expr n) s = (l, s')) :
    Calls Tryd.prog 34 #[.pointer (some ⟨P, 0, none⟩), .func (.func 35) #[.pointer (some ⟨P, 0, none⟩)] #[]] w fun e w' => (∃ a len cap, e = .returned (.slice a len cap) ∧ Rep.Es 40 (fun b => w.heap.size ≤ b) w' l (.slice a len cap)) ∧ PR w' P g s' ∧ Fr [some P] w w' := by
  refine (list_ex P g s 35 #[.pointer (some ⟨P, 0, none⟩)] #[] n (PM.expr n) (PM.good_exprN n) w h h0 h64 hn hb (fun w => by kernel_rfl) (expr_all n P g w).one).mono ?_
  rintro e w1 ⟨⟨v, rfl, hv⟩, h1, hf1⟩
  rw [hq] at hv h1
  have hs := ex_es hv
  obtain ⟨a, len, cap, rfl⟩ := hs.form
  exact ⟨⟨a, len, cap, rfl, hs⟩, h1, hf1⟩
theorem where' {P g : Nat} {s : PS} {w : World} (n : Nat) (h : PR w P g s) (h0 : 0 ≤ s.deep) (h64 : s.deep ≤ 64) (hn : s.l.length ≤ n) {l : List Ex} {s' : PS} (hq : PM.wheres n s = (l, s')) :
    Calls Tryd.prog 37 #[.pointer (some ⟨P, 0, none⟩)] w fun e w' => (∃ a len cap, e = .returned (.slice a len cap) ∧ Rep.Es 40 (fun b => w.heap.size ≤ b) w' l (.slice a len cap)) ∧ PR w' P g s' ∧ Fr [some P] w w' := by
  refine (where_any P g n s w h h0 h64 hn).mono ?_
  rintro e w1 ⟨⟨v, rfl, hv⟩, h1, hf1⟩
  rw [hq] at hv h1
  obtain ⟨a, len, cap, rfl⟩ := hv.form
  exact ⟨⟨a, len, cap, rfl, hv⟩, h1, hf1⟩
theorem expr' {P g : Nat} {s : PS} {w : World} (n : Nat) (h : PR w P g s) (h0 : 0 ≤ s.deep) (h64 : s.deep ≤ 64) (hn : s.l.length ≤ n) {x : Ex} {s' : PS} (hq : PM.expr n s = (x, s')) :
    Calls Tryd.prog 35 #[.pointer (some ⟨P, 0, none⟩)] w fun e w' => ExR w.heap.size w' e x ∧ PR w' P g s' ∧ Fr [some P] w w' := by
  have := expr_all n P g w w s (Fr.refl _ _) h hn h0 h64
  rwa [hq] at this
theorem column' {P g : Nat} {s : PS} {w : World} (h : PR w P g s) {x : Ex} {s' : PS} (hq : PM.column s = (x, s')) :
    Calls Tryd.prog 59 #[.pointer (some ⟨P, 0, none⟩)] w fun e w' => ExR w.heap.size w' e x ∧ PR w' P g s' ∧ Fr [some P] w w' := by
  have := column_any P g w.heap.size s w h
  rwa [hq] at this
end Px
end Go.Proofs.YtpmgecnkcllneaaDoor
