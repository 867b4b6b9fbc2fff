/- Expressions as they lie in memory. Over any program; 'T': the number of the type api.Expr; 'A': in which blocks what they are of may lie. -/
import Derived.Test.YtmdnhinpaflamaaGreatDoorBas
import Derived.Test.YtmdnhinpaflamaaGreatDoorPlA
import Derived.Orders
import Derived.Tactics
import Derived.KernelRfl
import Derived.BigQuiet
import Derived.Test.YtmdnhinpaflamaaGreatDoorLex
import Derived.Deep.RegionWith
import Derived.Carry
import Derived.MapKept
namespace Go.Proofs.YtmdnhinpaflamaaGreatDoor
open Go.RowKit

namespace Rep
open PM (Ex B)

/-- bytes as a value -/
def str (b : B) : Value := .string ⟨b.toArray⟩

mutual
/-- an expression's seven cells; what it is of lies in blocks of A -/
inductive E (T : TypeId) (A : Nat → Prop) (w : World) : Ex → List Value → Prop
  | mk (op kind int : Int) (text table name : B) (args : List Ex) (v : Value) (h : Es T A w args v) :
    E T A w (.mk op kind int text table name args) [.int .i64 op, .int .i64 kind, .int .i64 int, str text, str table, str name, v]
/-- some, one behind another -/
inductive L (T : TypeId) (A : Nat → Prop) (w : World) : List Ex → List Value → Prop
  | nil : L T A w [] []
  | cons (e : Ex) (r : List Ex) (xs ys : List Value) (h : E T A w e xs) (k : L T A w r ys) : L T A w (e :: r) (xs ++ ys)
/-- a slice of expressions -/
inductive Es (T : TypeId) (A : Nat → Prop) (w : World) : List Ex → Value → Prop
  | mk (l : List Ex) (v : Value) (xs : List Value) (h : L T A w l xs) (k : Row w T 7 v l.length xs) (hb : ∀ g, v.ownBlock = some g → A g) : Es T A w l v
end

variable {T : TypeId} {A : Nat → Prop} {w w' : World}

mutual
theorem E.keep {X : List (Option Nat)} {e : Ex} {cs : List Value} (hf : Fr X w w') (hX : ∀ g, A g → some g ∉ X) : E T A w e cs → E T A w' e cs
  | .mk op kind int text table name args v h => .mk op kind int text table name args v (Es.keep hf hX h)
theorem L.keep {X : List (Option Nat)} {l : List Ex} {cs : List Value} (hf : Fr X w w') (hX : ∀ g, A g → some g ∉ X) : L T A w l cs → L T A w' l cs
  | .nil => .nil
  | .cons e r xs ys h k => .cons e r xs ys (E.keep hf hX h) (L.keep hf hX k)
theorem Es.keep {X : List (Option Nat)} {l : List Ex} {v : Value} (hf : Fr X w w') (hX : ∀ g, A g → some g ∉ X) : Es T A w l v → Es T A w' l v
  | .mk l v xs h k hb => .mk l v xs (L.keep hf hX h) (k.keep hf (fun g hg => hX g (hb g hg))) hb
end

mutual
theorem E.mono {A' : Nat → Prop} {e : Ex} {cs : List Value} (hA : ∀ g, A g → A' g) : E T A w e cs → E T A' w e cs
  | .mk op kind int text table name args v h => .mk op kind int text table name args v (Es.mono hA h)
theorem L.mono {A' : Nat → Prop} {l : List Ex} {cs : List Value} (hA : ∀ g, A g → A' g) : L T A w l cs → L T A' w l cs
  | .nil => .nil
  | .cons e r xs ys h k => .cons e r xs ys (E.mono hA h) (L.mono hA k)
theorem Es.mono {A' : Nat → Prop} {l : List Ex} {v : Value} (hA : ∀ g, A g → A' g) : Es T A w l v → Es T A' w l v
  | .mk l v xs h k hk => .mk l v xs (L.mono hA h) k (fun g hg => hA g (hk g hg))
end

mutual
/-- they lie there already -/
theorem E.live {e : Ex} {cs : List Value} : E T A w e cs → E T (fun g => A g ∧ g < w.heap.size) w e cs
  | .mk op kind int text table name args v h => .mk op kind int text table name args v (Es.live h)
theorem L.live {l : List Ex} {cs : List Value} : L T A w l cs → L T (fun g => A g ∧ g < w.heap.size) w l cs
  | .nil => .nil
  | .cons e r xs ys h k => .cons e r xs ys (E.live h) (L.live k)
theorem Es.live {l : List Ex} {v : Value} : Es T A w l v → Es T (fun g => A g ∧ g < w.heap.size) w l v
  | .mk l v xs h k hk => .mk l v xs (L.live h) k (fun g hg => ⟨hk g hg, k.block_lt hg⟩)
end

theorem E.length {e : Ex} {cs : List Value} (h : E T A w e cs) : cs.length = 7 := by cases h; rfl
theorem L.length {l : List Ex} {cs : List Value} : L T A w l cs → cs.length = l.length * 7
  | .nil => rfl
  | .cons e r xs ys h k => by rw [List.length_append, h.length, L.length k, List.length_cons]; omega
theorem L.snoc {l : List Ex} {xs : List Value} {e : Ex} {ys : List Value} (h : L T A w l xs) (k : E T A w e ys) : L T A w (l ++ [e]) (xs ++ ys) := by
  induction l generalizing xs with
  | nil =>
    cases h
    have := L.cons e [] ys [] k .nil
    rwa [List.append_nil] at this
  | cons d r ih =>
    cases h with
    | cons _ _ xs ys' h1 h2 =>
      rw [List.append_assoc, List.cons_append]
      exact .cons d _ xs _ h1 (ih h2)
theorem Es.nil : Es T A w [] (.slice none 0 0) := .mk [] _ [] .nil (Row.nil _ _ _) (fun g h => by simp [Value.ownBlock] at h)
/-- the k-th -/
theorem L.at {l : List Ex} {xs : List Value} (h : L T A w l xs) (k : Nat) (hk : k < l.length) : ∃ ys, E T A w l[k] ys ∧ ∀ i, i < 7 → xs[k * 7 + i]? = ys[i]? := by
  induction l generalizing xs k with
  | nil => simp at hk
  | cons d r ih =>
    cases h with
    | cons _ _ xs ys h1 h2 =>
      cases k with
      | zero => exact ⟨xs, h1, fun i hi => by rw [List.getElem?_append_left (by rw [h1.length]; omega)]; simp⟩
      | succ k =>
        obtain ⟨zs, g1, g2⟩ := ih h2 k (by simpa using hk)
        refine ⟨zs, g1, fun i hi => ?_⟩
        rw [List.getElem?_append_right (by rw [h1.length]; omega), h1.length, show (k + 1) * 7 + i - 7 = k * 7 + i by omega]
        exact g2 i hi
/-- the k-th one's cells, in memory -/
theorem Es.at {l : List Ex} {v : Value} (h : Es T A w l v) (k : Nat) (hk : k < l.length) : ∃ g off cap ys, v = .slice (some ⟨g, off, none⟩) l.length cap ∧ l.length ≤ cap ∧ A g ∧ E T A w l[k] ys ∧ ∀ i u, ys[i]? = some u → w.cell? ⟨g, off + k * 7 + i, none⟩ = some u := by
  cases h with
  | mk _ _ xs hl hr hb =>
    obtain ⟨ys, h1, h2⟩ := hl.at k hk
    rcases hr.form with ⟨_, h0, _⟩ | ⟨g, off, cap, rfl, hc, _⟩
    · omega
    · refine ⟨g, off, cap, ys, rfl, hc, hb g rfl, h1, fun i u hi => ?_⟩
      have hi7 : i < 7 := by have := (List.getElem?_eq_some_iff.1 hi).1; rw [h1.length] at this; exact this
      have hx := (h2 i hi7).trans hi
      have hlt := (List.getElem?_eq_some_iff.1 hx).1
      rw [Nat.add_assoc, hr.cells _ hlt, List.getD_eq_getElem?_getD, hx]
      rfl
end Rep
end Go.Proofs.YtmdnhinpaflamaaGreatDoor
namespace Go.Proofs.YtmdnhinpaflamaaGreatDoor.Seq
open Go

section
variable {P : Program} {ops : Array Oper} {Inv : World → Prop} {Q : Exit → Act → World → Prop}

section
variable {held : Nat → Bool} {k : Nat} {o : Oper} {l : List Oper} {a : Act} {w : World}
end
end
end Go.Proofs.YtmdnhinpaflamaaGreatDoor.Seq
namespace Go.Proofs.YtmdnhinpaflamaaGreatDoor.Seq
open Go

section
variable {P : Program} {ops : Array Oper} {Inv : World → Prop} {Q : Exit → Act → World → Prop} {held : Nat → Bool} {k : Nat} {o : Oper} {l : List Oper} {a : Act} {w : World}

end
end Go.Proofs.YtmdnhinpaflamaaGreatDoor.Seq
namespace Go.Proofs.YtmdnhinpaflamaaGreatDoor
open Go.RowKit

namespace Px
open LexM (Tok)
open PM (PS B)
open Lx (toksC tokC)

/-- the words end with their end -/
def WF (s : PS) : Prop := ∃ t, s.l.getLast? = some t ∧ t.kind = 6
theorem WF.ne {s : PS} (h : WF s) : s.l ≠ [] := by
  rintro e
  obtain ⟨t, h1, _⟩ := h
  rw [e] at h1
  cases h1
theorem WF.pos {s : PS} (h : WF s) : 0 < s.l.length := List.length_pos_iff.2 h.ne
theorem WF.skip {s : PS} (h : WF s) (hk : s.now.kind ≠ 6) : WF (PM.skip s) := by
  obtain ⟨t, h1, h2⟩ := h
  obtain ⟨l, d, p, e⟩ := s
  cases l with
  | nil => cases h1
  | cons a r =>
    cases r with
    | nil =>
      simp only [List.getLast?_singleton, Option.some.injEq] at h1
      subst h1
      exact absurd h2 hk
    | cons b r =>
      refine ⟨t, ?_, h2⟩
      rw [List.getLast?_cons_cons] at h1
      exact h1
/-- the parser lies in block P, its words in block g -/
structure PR (w : World) (P g : Nat) (s : PS) : Prop where
  row : ∃ off cap, Blk w P 50 [.slice (some ⟨g, off, none⟩) s.l.length cap, .int .i64 s.deep, .int .i64 s.pos, .int .i64 s.e] ∧ Row w 45 4 (.slice (some ⟨g, off, none⟩) s.l.length cap) s.l.length (toksC s.l) ∧ s.l.length ≤ cap ∧ cap ≤ maxLen
  ne : g < P
  wf : WF s
theorem PR.keep {w w' : World} {P g : Nat} {s : PS} {X : List (Option Nat)} (h : PR w P g s) (hf : Fr X w w') (hP : some P ∉ X) (hg : some g ∉ X) : PR w' P g s := by
  obtain ⟨⟨off, cap, h1, h2, h3, h4⟩, hne, hw⟩ := h
  refine ⟨⟨off, cap, h1.keep hf hP, h2.keep hf (fun k hk => ?_), h3, h4⟩, hne, hw⟩
  simp only [Value.ownBlock, Option.some.injEq] at hk
  subst hk
  exact hg
theorem PR.alloc {w : World} {P g : Nat} {s : PS} (h : PR w P g s) (o : Obj) : PR (w.alloc o) P g s := h.keep ((Fr.refl [] w).alloc o) (by simp) (by simp)
theorem PR.lt {w : World} {P g : Nat} {s : PS} (h : PR w P g s) : P < w.heap.size := by
  obtain ⟨⟨off, cap, h1, _⟩, _, _⟩ := h
  exact h1.lt
/-- what the walk is told of it -/
structure At (w : World) (P g : Nat) (s : PS) (off cap : Nat) : Prop where
  c0 : w.cell? ⟨P, 0, none⟩ = some (.slice (some ⟨g, off, none⟩) s.l.length cap)
  c1 : w.cell? ⟨P, 1, none⟩ = some (.int .i64 s.deep)
  c2 : w.cell? ⟨P, 2, none⟩ = some (.int .i64 s.pos)
  c3 : w.cell? ⟨P, 3, none⟩ = some (.int .i64 s.e)
  f0 : w.frozen? ⟨P, 0, none⟩ = false
  f1 : w.frozen? ⟨P, 1, none⟩ = false
  f2 : w.frozen? ⟨P, 2, none⟩ = false
  f3 : w.frozen? ⟨P, 3, none⟩ = false
  t0 : w.cell? ⟨g, off, none⟩ = some (.int .i64 s.now.kind)
  t1 : w.cell? ⟨g, off + 1, none⟩ = some (.string ⟨s.now.text.toArray⟩)
  t2 : w.cell? ⟨g, off + 2, none⟩ = some (.int .i64 s.now.int)
  t3 : w.cell? ⟨g, off + 3, none⟩ = some (.int .i64 s.now.pos)
  hcap : s.l.length ≤ cap
  hpos : 0 < s.l.length
  hlim : cap ≤ maxLen
theorem PR.at {w : World} {P g : Nat} {s : PS} (h : PR w P g s) : ∃ off cap, At w P g s off cap := by
  obtain ⟨⟨off, cap, h1, h2, h3, h4⟩, _, hw⟩ := h
  have hpos := hw.pos
  obtain ⟨a, r, ha⟩ : ∃ a r, s.l = a :: r := by
    cases hl : s.l with
    | nil => rw [hl] at hpos; cases hpos
    | cons a r => exact ⟨a, r, rfl⟩
  have hnow : s.now = a := by unfold PS.now; rw [ha]; rfl
  have hc : ∀ i u, (tokC a)[i]? = some u → w.cell? ⟨g, off + i, none⟩ = some u := by
    intro i u hi
    have e : (toksC s.l)[i]? = some u := by
      rw [ha, show toksC (a :: r) = tokC a ++ toksC r from rfl, List.getElem?_append_left (List.getElem?_eq_some_iff.1 hi).1]
      exact hi
    rw [h2.cells i (List.getElem?_eq_some_iff.1 e).1, List.getD_eq_getElem?_getD, e]
    rfl
  refine ⟨off, cap, h1.cell 0, h1.cell 1, h1.cell 2, h1.cell 3, h1.free 0, h1.free 1, h1.free 2, h1.free 3, ?_, ?_, ?_, ?_, h3, hpos, h4⟩
  all_goals rw [hnow]
  · exact hc 0 _ rfl
  · exact hc 1 _ rfl
  · exact hc 2 _ rfl
  · exact hc 3 _ rfl

theorem frSet {w : World} {P i : Nat} (v : Value) : Fr [some P] w (w.setCell ⟨P, i, none⟩ v) := (Fr.refl [some P] w).setCell (p := ⟨P, i, none⟩) (.inl (by simp)) v
theorem PR.setErr {w : World} {P g : Nat} {s : PS} (h : PR w P g s) (x p : Int) : PR ((w.setCell ⟨P, 3, none⟩ (.int .i64 x)).setCell ⟨P, 2, none⟩ (.int .i64 p)) P g { s with e := x, pos := p } := by
  obtain ⟨⟨off, cap, h1, h2, h3, h4⟩, hne, hw⟩ := h
  refine ⟨⟨off, cap, (h1.set 3 _).set 2 _, (h2.keep (frSet (P := P) _) (fun k hk => ?_)).keep (frSet (P := P) _) (fun k hk => ?_), h3, h4⟩, hne, hw⟩
  all_goals
    simp only [Value.ownBlock, Option.some.injEq] at hk
    subst hk
    simp
    omega
theorem PR.setDeep {w : World} {P g : Nat} {s : PS} (h : PR w P g s) (d : Int) : PR (w.setCell ⟨P, 1, none⟩ (.int .i64 d)) P g { s with deep := d } := by
  obtain ⟨⟨off, cap, h1, h2, h3, h4⟩, hne, hw⟩ := h
  refine ⟨⟨off, cap, h1.set 1 _, h2.keep (frSet (P := P) _) (fun k hk => ?_), h3, h4⟩, hne, hw⟩
  simp only [Value.ownBlock, Option.some.injEq] at hk
  subst hk
  simp
  omega
theorem PR.setSkip {w : World} {P g off cap : Nat} {s : PS} (h : PR w P g s) (hc : w.cell? ⟨P, 0, none⟩ = some (.slice (some ⟨g, off, none⟩) s.l.length cap)) (hk : s.now.kind ≠ 6) : PR (w.setCell ⟨P, 0, none⟩ (.slice (some ⟨g, off + 4, none⟩) (s.l.length - 1) (cap - 1))) P g (PM.skip s) := by
  have hws := h.wf.skip hk
  obtain ⟨⟨off', cap', h1, h2, h3, h4⟩, hne, hw⟩ := h
  have e : (Value.slice (some ⟨g, off', none⟩) s.l.length cap') = .slice (some ⟨g, off, none⟩) s.l.length cap := by
    have := (h1.cell 0).symm.trans hc
    simpa using this
  simp only [Value.slice.injEq, Option.some.injEq, Addr.mk.injEq, true_and, and_true] at e
  obtain ⟨rfl, rfl⟩ := e
  have hpos := hw.pos
  have hl : (PM.skip s).l.length = s.l.length - 1 := by simp [PM.skip]
  have hr := h2.cut (lo := 1) (hi := s.l.length) (mx := cap') hpos (Nat.le_refl _) h3 (Nat.le_refl _)
  have ht : ((toksC s.l).drop (1 * 4)).take ((s.l.length - 1) * 4) = toksC (PM.skip s).l := by
    cases hs : s.l with
    | nil => rw [hs] at hpos; cases hpos
    | cons a r =>
      have e4 : toksC (a :: r) = tokC a ++ toksC r := rfl
      rw [e4, show 1 * 4 = (tokC a).length from rfl, List.drop_left]
      simp only [PM.skip, hs, List.tail_cons, List.length_cons, Nat.add_sub_cancel]
      rw [← Lx.toksC_length, List.take_length]
  rw [ht] at hr
  refine ⟨⟨off' + 4, cap' - 1, ?_, ?_, by rw [hl]; omega, by omega⟩, hne, hws⟩
  · rw [hl]; exact h1.set 0 _
  · rw [hl]
    refine Row.keep hr (frSet (P := P) _) (fun k hk => ?_)
    simp only [Value.ownBlock, Option.some.injEq] at hk
    subst hk
    simp
    omega

set_option maxRecDepth 100000 in
set_option maxHeartbeats 1000000 in
theorem fails_any (P g : Nat) (s : PS) (x : Int) (w : World) (h : PR w P g s) :
    Calls Tryz.prog 20 #[.pointer (some ⟨P, 0, none⟩), .int .i64 x] w fun e w' => e = .returned (.tuple #[]) ∧ PR w' P g (PM.fails x s) ∧ Fr [some P] w w' := by
  obtain ⟨off, cap, hat⟩ := h.at
  obtain ⟨c0, c1, c2, c3, f0, f1, f2, f3, t0, t1, t2, t3, hcap, hpos, hlim⟩ := hat
  have HP := Lib.hid h
  clear h
  have hpi : (0 : Int) < (s.l.length : Int) := by omega
  obtain ⟨e, he⟩ : ∃ e, s.e = e := ⟨_, rfl⟩
  rw [he] at c3
  have HE := Lib.hid he
  clear he
  by_cases h0 : e = 0
  · subst h0
    go_enter Tryz.func20, Tryz.ntmps20
    go_wp2_with fail
    go_end0
    refine ⟨rfl, ?_, (frSet _).trans (frSet _)⟩
    rw [PM.fails, if_pos HE.out]
    exact HP.out.setErr x _
  · have hb : (e == 0) = false := by simp [h0]
    have H0 := Lib.hid h0
    clear h0
    go_enter Tryz.func20, Tryz.ntmps20
    go_wp2_with fail
    go_end0
    refine ⟨rfl, ?_, Fr.refl _ _⟩
    rw [PM.fails, if_neg (by rw [HE.out]; exact H0.out)]
    exact HP.out

set_option maxRecDepth 100000 in
set_option maxHeartbeats 1000000 in
theorem is_any (P g : Nat) (s : PS) (wd : B) (w : World) (h : PR w P g s) :
    Calls Tryz.prog 99 #[.pointer (some ⟨P, 0, none⟩), .string ⟨wd.toArray⟩] w fun e w' => e = .returned (.bool (PM.is wd s)) ∧ PR w' P g s ∧ Fr [] w w' := by
  obtain ⟨off, cap, hat⟩ := h.at
  obtain ⟨c0, c1, c2, c3, f0, f1, f2, f3, t0, t1, t2, t3, hcap, hpos, hlim⟩ := hat
  have hPl := h.lt
  have HP := Lib.hid h
  clear h f0 f1 f2 f3 c1 c2
  have hpi : (0 : Int) < (s.l.length : Int) := by omega
  have hne : ¬ P = w.heap.size := by omega
  have hne' : ¬ w.heap.size = P := by omega
  obtain ⟨e, he⟩ : ∃ e, s.e = e := ⟨_, rfl⟩
  obtain ⟨k, hk⟩ : ∃ k, s.now.kind = k := ⟨_, rfl⟩
  obtain ⟨tb, htb⟩ : ∃ tb, ByteArray.mk s.now.text.toArray = tb := ⟨_, rfl⟩
  obtain ⟨wb, hwb⟩ : ∃ wb, ByteArray.mk wd.toArray = wb := ⟨_, rfl⟩
  rw [he] at c3
  rw [hk] at t0
  rw [htb] at t1
  rw [hwb]
  have hv : PM.is wd s = (e == 0 && (k == 2 || k == 5) && tb.toList == wb.toList) := by
    have e1 : (s.now.text == wd) = (tb.toList == wb.toList) := by
      by_cases h : s.now.text = wd
      · rw [show (s.now.text == wd) = true by rw [h]; exact beq_self_eq_true _, ← htb, ← hwb, h]
        exact (beq_self_eq_true _).symm
      · rw [beq_eq_false_iff_ne.2 h, eq_comm, ← htb, ← hwb, Lib.bytes_beq_false_iff]
        intro e
        exact h (congrArg (fun b : ByteArray => b.data.toList) e)
    rw [PM.is, PM.wordy, he, hk, e1]
  rw [hv]
  clear hv htb hwb hk he
  obtain ⟨b, hb⟩ : ∃ b, (tb.toList == wb.toList) = b := ⟨_, rfl⟩
  rw [hb]
  cases he0 : (e == 0)
  · go_enter Tryz.func99, Tryz.ntmps99
    go_wp2_with fail
    go_ret
    exact ⟨rfl, HP.out.alloc _, (Fr.refl [] w).alloc _⟩
  · cases hk2 : (k == 2)
    · cases hk5 : (k == 5)
      · go_enter Tryz.func99, Tryz.ntmps99
        go_wp2_with fail
        go_ret
        exact ⟨rfl, HP.out.alloc _, (Fr.refl [] w).alloc _⟩
      · go_enter Tryz.func99, Tryz.ntmps99
        go_wp2_with fail
        go_ret
        exact ⟨rfl, HP.out.alloc _, (Fr.refl [] w).alloc _⟩
    · go_enter Tryz.func99, Tryz.ntmps99
      go_wp2_with fail
      go_ret
      exact ⟨rfl, HP.out.alloc _, (Fr.refl [] w).alloc _⟩
end Px
end Go.Proofs.YtmdnhinpaflamaaGreatDoor
namespace Go.Proofs.YtmdnhinpaflamaaGreatDoor
open Go.RowKit

namespace Px
open LexM (Tok)
open PM (PS B)
open Lx (toksC tokC)

theorem is_kind {wd : B} {s : PS} (h : PM.is wd s = true) : s.now.kind ≠ 6 := by
  simp only [PM.is, PM.wordy, Bool.and_eq_true, Bool.or_eq_true, beq_iff_eq] at h
  rcases h.1.2 with h2 | h2 <;> rw [h2] <;> decide
theorem WF.two {s : PS} (h : WF s) (hk : s.now.kind ≠ 6) : 2 ≤ s.l.length := by
  obtain ⟨t, h1, h2⟩ := h
  obtain ⟨l, d, p, e⟩ := s
  cases l with
  | nil => cases h1
  | cons a r =>
    cases r with
    | nil =>
      simp only [List.getLast?_singleton, Option.some.injEq] at h1
      subst h1
      exact absurd h2 hk
    | cons b r => simp only [List.length_cons]; omega
/-- what skips leaves -/
def skipd (wd : B) (s : PS) : PS := if PM.is wd s then PM.skip s else s

set_option maxRecDepth 100000 in
set_option maxHeartbeats 1000000 in
theorem skips_any (P g : Nat) (s : PS) (wd : B) (w : World) (h : PR w P g s) :
    Calls Tryz.prog 50 #[.pointer (some ⟨P, 0, none⟩), .string ⟨wd.toArray⟩] w fun e w' => e = .returned (.bool (PM.is wd s)) ∧ PR w' P g (skipd wd s) ∧ Fr [some P] w w' := by
  obtain ⟨b, hb⟩ : ∃ b, PM.is wd s = b := ⟨_, rfl⟩
  rw [hb]
  have HP := Lib.hid h
  have HI := Lib.hid hb
  clear h hb
  go_enter Tryz.func50, Tryz.ntmps50
  go_wp2_with fail
  refine (is_any P g s wd w HP.out).mono ?_
  rintro e w1 ⟨rfl, h1, hf1⟩
  rw [HI.out]
  obtain ⟨off, cap, hat⟩ := h1.at
  obtain ⟨c0, c1, c2, c3, f0, f1, f2, f3, t0, t1, t2, t3, hcap, hpos, hlim⟩ := hat
  have H1 := Lib.hid h1
  have HF := Lib.hid (hf1.mono (S' := [some P]) (by simp))
  have HC0 := Lib.hid c0
  clear h1 hf1 c1 c2 c3 f1 f2 f3 t0 t1 t2 t3
  cases b
  · go_wp2_with fail
    go_ret
    refine ⟨rfl, ?_, HF.out⟩
    rw [skipd, HI.out]
    exact H1.out
  · have h2 := WF.two H1.out.wf (is_kind HI.out)
    have hpi : (1 : Int) < (s.l.length : Int) := by omega
    have hci : (s.l.length : Int) ≤ (cap : Int) := by omega
    have hc1 : ¬ cap = 1 := by omega
    go_wp2_with fail
    go_ret
    refine ⟨rfl, ?_, HF.out.trans (frSet _)⟩
    rw [skipd, HI.out]
    exact H1.out.setSkip HC0.out (is_kind HI.out)

set_option maxRecDepth 100000 in
set_option maxHeartbeats 1000000 in
theorem sign_any (P g : Nat) (s : PS) (w : World) (h : PR w P g s) :
    Calls Tryz.prog 134 #[.pointer (some ⟨P, 0, none⟩)] w fun e w' => e = .returned (.string ⟨(PM.sign s).toArray⟩) ∧ PR w' P g s ∧ Fr [] w w' := by
  obtain ⟨off, cap, hat⟩ := h.at
  obtain ⟨c0, c1, c2, c3, f0, f1, f2, f3, t0, t1, t2, t3, hcap, hpos, hlim⟩ := hat
  have hPl := h.lt
  have HP := Lib.hid h
  clear h f0 f1 f2 f3 c1 c2
  have hpi : (0 : Int) < (s.l.length : Int) := by omega
  have hne : ¬ P = w.heap.size := by omega
  have hne' : ¬ w.heap.size = P := by omega
  obtain ⟨e, he⟩ : ∃ e, s.e = e := ⟨_, rfl⟩
  obtain ⟨k, hk⟩ : ∃ k, s.now.kind = k := ⟨_, rfl⟩
  obtain ⟨t, ht⟩ : ∃ t, s.now.text = t := ⟨_, rfl⟩
  rw [he] at c3
  rw [hk] at t0
  rw [ht] at t1
  have hv : PM.sign s = if e == 0 && (k == 2 || k == 5) then t else [] := by rw [PM.sign, PM.wordy, he, hk, ht]
  rw [hv]
  clear hv hk he ht
  cases he0 : (e == 0)
  · go_enter Tryz.func134, Tryz.ntmps134
    go_wp2_with fail
    go_ret
    exact ⟨rfl, HP.out.alloc _, (Fr.refl [] w).alloc _⟩
  · cases hk2 : (k == 2)
    · cases hk5 : (k == 5)
      · go_enter Tryz.func134, Tryz.ntmps134
        go_wp2_with fail
        go_ret
        exact ⟨rfl, HP.out.alloc _, (Fr.refl [] w).alloc _⟩
      · go_enter Tryz.func134, Tryz.ntmps134
        go_wp2_with fail
        go_ret
        exact ⟨rfl, HP.out.alloc _, (Fr.refl [] w).alloc _⟩
    · go_enter Tryz.func134, Tryz.ntmps134
      go_wp2_with fail
      go_ret
      exact ⟨rfl, HP.out.alloc _, (Fr.refl [] w).alloc _⟩

/-- some words in a row -/
def Strs (w : World) (gs os : Nat) (l : List B) : Prop := ∀ j (hj : j < l.length), w.cell? ⟨gs, os + j, none⟩ = some (.string ⟨l[j].toArray⟩)
theorem needs_cons (l : List B) (k : Nat) (hk : k < l.length) (s : PS) : PM.needs (l.drop k) s = PM.needs (l.drop (k + 1)) (PM.need l[k] s) := by
  rw [List.drop_eq_getElem_cons hk, PM.needs]

set_option maxRecDepth 100000 in
set_option maxHeartbeats 1000000 in
theorem needs_any (P g : Nat) (s : PS) (l : List B) (gs os cap : Nat) (w : World) (h : PR w P g s) (hl : l.length ≤ 1000) (hs : Strs w gs os l) (hg : gs ≠ P) (hgl : gs < w.heap.size) :
    Calls Tryz.prog 52 #[.pointer (some ⟨P, 0, none⟩), .slice (some ⟨gs, os, none⟩) l.length cap] w fun e w' => e = .returned (.tuple #[]) ∧ PR w' P g (PM.needs l s) ∧ Fr [some P] w w' := by
  have HP := Lib.hid h
  have HS := Lib.hid hs
  have hli : (l.length : Int) ≤ 1000 := by omega
  clear h hs hl
  go_enter Tryz.func52, Tryz.ntmps52
  go_wp2_with fail
  go_loopw [8] (fun u wr => ∃ (k : Nat) (s' : PS), u = .int .i64 k ∧ k ≤ l.length ∧ Hid (PM.needs (l.drop k) s' = PM.needs l s) ∧ Hid (PR wr P g s') ∧ Hid (Fr [some P] w wr)) (fun u _ => l.length - (intOf u).toNat)
  case atStart => exact ⟨0, s, rfl, Nat.zero_le _, rfl, HP.out, Fr.refl _ _⟩
  case round =>
    obtain ⟨k, s', rfl, hk, HN, HR, HF⟩ := hrel
    by_cases hlt : k < l.length
    · have hki : (k : Int) < (l.length : Int) := by omega
      have hcell : wr.cell? ⟨gs, os + k, none⟩ = some (.string ⟨l[k].toArray⟩) := (HF.out.cell hgl (by simp; exact hg)).trans (HS.out k hlt)
      obtain ⟨wd, hwd⟩ : ∃ wd, l[k] = wd := ⟨_, rfl⟩
      rw [hwd] at hcell
      have HN2 : Hid (PM.needs (l.drop (k + 1)) (PM.need wd s') = PM.needs l s) := by
        have := HN.out
        rw [needs_cons l k hlt, hwd] at this
        exact this
      clear hwd
      go_wp2_with fail
      refine (skips_any P g s' wd wr HR.out).mono ?_
      rintro e w1 ⟨rfl, h1, hf1⟩
      cases hi : PM.is wd s'
      · have e1 : skipd wd s' = s' := by rw [skipd, hi]; rfl
        have e2 : PM.need wd s' = PM.fails 5 s' := by rw [PM.need, hi]; rfl
        rw [e1] at h1
        rw [e2] at HN2
        have HF1 : Hid (Fr [some P] w w1) := HF.out.trans hf1
        clear hi e1 e2 hf1
        go_wp2_with fail
        refine (fails_any P g s' 5 w1 h1).mono ?_
        rintro e w2 ⟨rfl, h2, hf2⟩
        have HF2 : Hid (Fr [some P] w w2) := HF1.out.trans hf2
        have H2 := Lib.hid h2
        clear hf2 h1 h2
        go_wp2_with fail
        go_roundw
        case rel => exact ⟨k + 1, _, by go_num, hlt, HN2, H2, HF2⟩
        case measure => simp [intOf]; omega
      · have e1 : skipd wd s' = PM.skip s' := by rw [skipd, hi]; rfl
        have e2 : PM.need wd s' = PM.skip s' := by rw [PM.need, hi]; rfl
        rw [e1] at h1
        rw [e2] at HN2
        have HF1 : Hid (Fr [some P] w w1) := HF.out.trans hf1
        have H1 := Lib.hid h1
        clear hi e1 e2 hf1 h1
        go_wp2_with fail
        go_roundw
        case rel => exact ⟨k + 1, _, by go_num, hlt, HN2, H1, HF1⟩
        case measure => simp [intOf]; omega
    · have hki : (l.length : Int) ≤ (k : Int) := by omega
      go_wp2_with fail
      go_end0
      have e : PM.needs l s = s' := by rw [← HN.out, List.drop_eq_nil_of_le (by omega)]; rfl
      rw [e]
      exact ⟨rfl, HR.out, HF.out⟩
end Px
end Go.Proofs.YtmdnhinpaflamaaGreatDoor
namespace Go.Proofs.YtmdnhinpaflamaaGreatDoor
open Go.RowKit

namespace Px
open LexM (Tok)
open PM (PS B)
open Lx (toksC tokC tokV tokA zcells blkPut4 frPut4 cells_of)

theorem ret_cell4 {fn : Func} {n : Nat} (h : fn.results = #[.cell n 45]) (tmps : Array Value) (T : Nat) (h2 : tmps.getD n undef = .pointer (some ⟨T, 0, none⟩)) (w : World) (a b c d : Value) (hb : Blk w T 45 [a, b, c, d]) :
    (results fn tmps).run Tryz.prog w = .ok (.agg #[a, b, c, d]) w := by
  have c0 := hb.cell 0
  have c1 := hb.cell 1
  have c2 := hb.cell 2
  have c3 := hb.cell 3
  simp only [List.getElem?_cons_zero, List.getElem?_cons_succ] at c0 c1 c2 c3
  have h2' : tmps[n]?.getD undef = .pointer (some ⟨T, 0, none⟩) := by simpa using h2
  simp [results, h, h2', go_sem, c0, c1, c2, c3]

set_option maxRecDepth 100000 in
set_option maxHeartbeats 1000000 in
theorem word_any (P g : Nat) (s : PS) (k : Int) (hk6 : k ≠ 6) (w : World) (h : PR w P g s) :
    Calls Tryz.prog 103 #[.pointer (some ⟨P, 0, none⟩), .int .i64 k] w fun e w' => e = .returned (tokV (PM.word k s).1) ∧ PR w' P g (PM.word k s).2 ∧ Fr [some P] w w' := by
  obtain ⟨off, cap, hat⟩ := h.at
  obtain ⟨c0, c1, c2, c3, f0, f1, f2, f3, t0, t1, t2, t3, hcap, hpos, hlim⟩ := hat
  have hPl := h.lt
  have h0ne := h.ne
  have HP := Lib.hid h
  have HC0 := Lib.hid c0
  clear h f1 f2 f3 c1 c2
  have hpi : (0 : Int) < (s.l.length : Int) := by omega
  have hne : ¬ P = w.heap.size := by omega
  have hne' : ¬ w.heap.size = P := by omega
  have hgl : g < w.heap.size := by omega
  have hgn : ¬ g = w.heap.size := by omega
  have hgn' : ¬ w.heap.size = g := by omega
  have hgm : ¬ g = w.heap.size + 1 := by omega
  have hgm' : ¬ w.heap.size + 1 = g := by omega
  have hnf : ¬ P = w.heap.size + 1 := by omega
  have hnf' : ¬ w.heap.size + 1 = P := by omega
  obtain ⟨e, he⟩ : ∃ e, s.e = e := ⟨_, rfl⟩
  obtain ⟨t, ht⟩ : ∃ t, s.now = t := ⟨_, rfl⟩
  rw [he] at c3
  rw [ht] at t0 t1 t2 t3
  have HE := Lib.hid he
  have HT := Lib.hid ht
  have HK6 := Lib.hid hk6
  have HBZ : Hid (∀ o : Obj, Blk ((w.alloc (.cells zcells.toArray 45)).alloc o) w.heap.size 45 zcells) := fun o => Blk.alloc (Blk.new w 45 zcells) o
  clear he ht hk6
  by_cases hgo : e = 0 ∧ t.kind = k
  · obtain ⟨he0, hkk⟩ := hgo
    have hm : PM.word k s = (s.now, PM.skip s) := by
      rw [PM.word, if_neg]
      rw [HE.out, HT.out]
      rintro (h1 | h1)
      · exact h1 he0
      · exact h1 hkk
    have HM := Lib.hid hm
    have e1 : (e != 0) = false := by rw [he0]; rfl
    have e2 : (t.kind != k) = false := by rw [hkk]; simp
    have hk6' : s.now.kind ≠ 6 := by rw [HT.out, hkk]; exact HK6.out
    have h2 := WF.two HP.out.wf hk6'
    have hpi2 : (1 : Int) < (s.l.length : Int) := by omega
    have hci : (s.l.length : Int) ≤ (cap : Int) := by omega
    have hc1 : ¬ cap = 1 := by omega
    have HKK := Lib.hid hk6'
    have HSK := Lib.hid (((HP.out.alloc (.cells zcells.toArray 45)).alloc (.cells (tokC t).toArray 45)))
    obtain ⟨b0, b1, b2, b3, g0, g1, g2, g3⟩ := cells_of (HBZ.out (.cells (tokC t).toArray 45))
    clear hm he0 hkk hk6' h2 b0 b1 b2 b3 g0 g1 g2 g3
    go_enter Tryz.func103, Tryz.ntmps103
    go_wp2_with fail
    have HB : Blk ((w.setCell ⟨P, 0, none⟩ (.slice (some ⟨g, off + 4, none⟩) (s.l.length - 1) (cap - 1))).alloc (.cells (tokC t).toArray 45)) w.heap.size 45 (tokC t) := by
      have := Blk.new (w.setCell ⟨P, 0, none⟩ (.slice (some ⟨g, off + 4, none⟩) (s.l.length - 1) (cap - 1))) 45 (tokC t)
      rw [show (w.setCell ⟨P, 0, none⟩ (.slice (some ⟨g, off + 4, none⟩) (s.l.length - 1) (cap - 1))).heap.size = w.heap.size by simp [World.setCell]] at this
      exact this
    refine bodyPost_ret (ret_cell4 rfl _ w.heap.size rfl _ _ _ _ _ (Blk.alloc HB _)) rfl ⟨?_, ?_, ((frSet _).alloc _).alloc _⟩
    all_goals rw [HM.out]
    · rw [HT.out]; rfl
    · exact ((HP.out.setSkip HC0.out HKK.out).alloc _).alloc _
  · have hm : PM.word k s = (PM.zeroTok, PM.fails 5 s) := by
      rw [PM.word, if_pos]
      rw [HE.out, HT.out]
      by_cases h1 : e = 0
      · right
        intro h2
        exact hgo ⟨h1, h2⟩
      · exact .inl h1
    have HM := Lib.hid hm
    have hor : (e != 0) = true ∨ ((e != 0) = false ∧ (t.kind != k) = true) := by
      by_cases h1 : e = 0
      · right
        refine ⟨by rw [h1]; rfl, ?_⟩
        rw [bne_iff_ne]
        intro h2
        exact hgo ⟨h1, h2⟩
      · left
        rw [bne_iff_ne]
        exact h1
    clear hm hgo
    rcases hor with e1 | ⟨e1, e2⟩
    all_goals
      go_enter Tryz.func103, Tryz.ntmps103
      go_wp2_with fail
      refine (fails_any P g s 5 _ ((HP.out.alloc (.cells zcells.toArray 45)).alloc _)).mono ?_
      rintro e w1 ⟨rfl, h1, hf1⟩
      have HB1 := Lib.hid ((HBZ.out (.cells (tokC t).toArray 45)).keep hf1 (by simp; omega))
      have H1 := Lib.hid h1
      have HF1 : Hid (Fr [some P] w w1) := (((Fr.refl [some P] w).alloc _).alloc _).trans hf1
      have HBL := Lib.hid HB1.out.lt
      obtain ⟨b0, b1, b2, b3, g0, g1, g2, g3⟩ := cells_of HB1.out
      clear h1 hf1
      go_wp2_with fail
      refine bodyPost_ret (ret_cell4 rfl _ w.heap.size rfl _ _ _ _ _ (blkPut4 HB1.out rfl _ _ _ _)) rfl ⟨?_, ?_, frPut4 HF1.out (.inr (Nat.le_refl _)) _ _ _ _⟩
      all_goals rw [HM.out]
      · rfl
      · exact H1.out.keep (frPut4 (Fr.refl [some w.heap.size] _) (.inl (by simp)) _ _ _ _) (by simp; omega) (by simp; omega)

theorem field_text (k i p : Int) (b : ByteArray) (w : World) : (Instr.field 45 (.agg #[.int .i64 k, .string b, .int .i64 i, .int .i64 p]) 1).run Tryz.prog w = .ok (.string b) w := by kernel_rfl
theorem field_int (k i p : Int) (b : ByteArray) (w : World) : (Instr.field 45 (.agg #[.int .i64 k, .string b, .int .i64 i, .int .i64 p]) 2).run Tryz.prog w = .ok (.int .i64 i) w := by kernel_rfl

set_option maxRecDepth 100000 in
set_option maxHeartbeats 1000000 in
theorem name_any (P g : Nat) (s : PS) (w : World) (h : PR w P g s) :
    Calls Tryz.prog 53 #[.pointer (some ⟨P, 0, none⟩)] w fun e w' => e = .returned (.string ⟨(PM.name s).1.toArray⟩) ∧ PR w' P g (PM.name s).2 ∧ Fr [some P] w w' := by
  have HP := Lib.hid h
  clear h
  go_enter Tryz.func53, Tryz.ntmps53
  go_wp2_with fail
  refine (word_any P g s 1 (by decide) w HP.out).mono ?_
  rintro e w1 ⟨rfl, h1, hf1⟩
  have H1 := Lib.hid h1
  have HF1 := Lib.hid hf1
  clear h1 hf1
  obtain ⟨⟨t, s'⟩, hws⟩ : ∃ x, PM.word 1 s = x := ⟨_, rfl⟩
  have hn : PM.name s = (t.text, s') := by rw [PM.name, hws]
  rw [hws] at H1 ⊢
  have HN := Lib.hid hn
  clear hws hn
  simp only [tokV, tokA]
  have hfd := fun w => field_text t.kind t.int t.pos ⟨t.text.toArray⟩ w
  go_wp2_with fail
  go_ret
  rw [HN.out]
  exact ⟨rfl, H1.out, HF1.out⟩
end Px
end Go.Proofs.YtmdnhinpaflamaaGreatDoor
namespace Go.Proofs.YtmdnhinpaflamaaGreatDoor
open Go.RowKit

namespace Px
open LexM (Tok)
open PM (PS B Ex)
open Lx (toksC tokC tokV tokA)

/-- an expression that is returned -/
def ExR (b : Nat) (w : World) (e : Ending) (x : Ex) : Prop := ∃ cs, e = .returned (.agg cs.toArray) ∧ Rep.E 82 (fun g => b ≤ g) w x cs
def z7 : List Value := [.int .i64 0, .int .i64 0, .int .i64 0, .string ⟨#[]⟩, .string ⟨#[]⟩, .string ⟨#[]⟩, .slice none 0 0]
theorem ret_cell7 {fn : Func} {n : Nat} (h : fn.results = #[.cell n 82]) (tmps : Array Value) (T : Nat) (h2 : tmps.getD n undef = .pointer (some ⟨T, 0, none⟩)) (w : World) (a b c d e f g : Value) (hb : Blk w T 82 [a, b, c, d, e, f, g]) :
    (results fn tmps).run Tryz.prog w = .ok (.agg #[a, b, c, d, e, f, g]) w := by
  have c0 := hb.cell 0
  have c1 := hb.cell 1
  have c2 := hb.cell 2
  have c3 := hb.cell 3
  have c4 := hb.cell 4
  have c5 := hb.cell 5
  have c6 := hb.cell 6
  simp only [List.getElem?_cons_zero, List.getElem?_cons_succ] at c0 c1 c2 c3 c4 c5 c6
  have h2' : tmps[n]?.getD undef = .pointer (some ⟨T, 0, none⟩) := by simpa using h2
  simp [results, h, h2', go_sem, c0, c1, c2, c3, c4, c5, c6]

theorem conv16 (i : Int) (w : World) : (convert 2 58 (.int .i64 i)).run Tryz.prog w = .ok (.int .u16 (i % 65536)) w := by
  have h : IntKind.u16.wrap i = i % 65536 := by simp [IntKind.wrap, IntKind.bits, IntKind.signed]
  have k : (convert 2 58 (.int .i64 i)).run Tryz.prog w = .ok (.int .u16 (IntKind.u16.wrap i)) w := by kernel_rfl
  rw [k, h]

set_option maxRecDepth 100000 in
set_option maxHeartbeats 1000000 in
theorem tag_any (P g : Nat) (s : PS) (w : World) (h : PR w P g s) :
    Calls Tryz.prog 59 #[.pointer (some ⟨P, 0, none⟩)] w fun e w' => e = .returned (.int .u16 (PM.tag s).1) ∧ PR w' P g (PM.tag s).2 ∧ Fr [some P] w w' := by
  obtain ⟨off, cap, hat⟩ := h.at
  obtain ⟨c0, c1, c2, c3, f0, f1, f2, f3, t0, t1, t2, t3, hcap, hpos, hlim⟩ := hat
  have HP := Lib.hid h
  clear h f0 f1 f2 f3 c1 c2 c3 t1 t3
  have hpi : (0 : Int) < (s.l.length : Int) := by omega
  obtain ⟨k, hk⟩ : ∃ k, s.now.kind = k := ⟨_, rfl⟩
  obtain ⟨i, hi⟩ : ∃ i, s.now.int = i := ⟨_, rfl⟩
  rw [hk] at t0
  rw [hi] at t2
  by_cases hb : k = 3 ∧ 65535 < i
  · have hm : PM.tag s = ((PM.word 3 (PM.fails 3 s)).1.int % 65536, (PM.word 3 (PM.fails 3 s)).2) := by
      rw [PM.tag, if_pos (by rw [hk, hi]; exact hb)]
    have HM := Lib.hid hm
    obtain ⟨hk3, hi3⟩ := hb
    have e1 : (k == 3) = true := by rw [hk3]; rfl
    clear hm hk hi hk3
    go_enter Tryz.func59, Tryz.ntmps59
    go_wp2_with fail
    refine (fails_any P g s 3 w HP.out).mono ?_
    rintro e w1 ⟨rfl, h1, hf1⟩
    have H1 := Lib.hid h1
    have HF1 := Lib.hid hf1
    clear h1 hf1
    go_wp2_with fail
    refine (word_any P g (PM.fails 3 s) 3 (by decide) w1 H1.out).mono ?_
    rintro e w2 ⟨rfl, h2, hf2⟩
    obtain ⟨⟨t, s'⟩, hws⟩ : ∃ x, PM.word 3 (PM.fails 3 s) = x := ⟨_, rfl⟩
    rw [hws] at h2 HM ⊢
    have H2 := Lib.hid h2
    have HF2 : Hid (Fr [some P] w w2) := HF1.out.trans hf2
    clear h2 hf2 hws
    simp only [tokV, tokA]
    have hfd := fun w => field_int t.kind t.int t.pos ⟨t.text.toArray⟩ w
    have hcv := fun w => conv16 t.int w
    go_wp2_with fail
    go_ret
    rw [HM.out]
    exact ⟨rfl, H2.out, HF2.out⟩
  · have hm : PM.tag s = ((PM.word 3 s).1.int % 65536, (PM.word 3 s).2) := by
      rw [PM.tag, if_neg (by rw [hk, hi]; exact hb)]
    have HM := Lib.hid hm
    have hor : (k == 3) = false ∨ ((k == 3) = true ∧ i ≤ 65535) := by
      by_cases h1 : k = 3
      · right
        refine ⟨by rw [h1]; rfl, ?_⟩
        rcases (by omega : i ≤ 65535 ∨ 65535 < i) with h | h
        · exact h
        · exact absurd ⟨h1, h⟩ hb
      · left
        rw [beq_eq_false_iff_ne]
        exact h1
    clear hm hk hi hb
    rcases hor with e1 | ⟨e1, e2⟩
    all_goals
      go_enter Tryz.func59, Tryz.ntmps59
      go_wp2_with fail
      refine (word_any P g s 3 (by decide) w HP.out).mono ?_
      rintro e w2 ⟨rfl, h2, hf2⟩
      obtain ⟨⟨t, s'⟩, hws⟩ : ∃ x, PM.word 3 s = x := ⟨_, rfl⟩
      rw [hws] at h2 HM ⊢
      have H2 := Lib.hid h2
      have HF2 := Lib.hid hf2
      clear h2 hf2 hws
      simp only [tokV, tokA]
      have hfd := fun w => field_int t.kind t.int t.pos ⟨t.text.toArray⟩ w
      have hcv := fun w => conv16 t.int w
      go_wp2_with fail
      go_ret
      rw [HM.out]
      exact ⟨rfl, H2.out, HF2.out⟩

def put7 (w : World) (T : Nat) (a b c d e f g : Value) : World := ((((((w.setCell ⟨T, 0, none⟩ a).setCell ⟨T, 1, none⟩ b).setCell ⟨T, 2, none⟩ c).setCell ⟨T, 3, none⟩ d).setCell ⟨T, 4, none⟩ e).setCell ⟨T, 5, none⟩ f).setCell ⟨T, 6, none⟩ g
theorem frPut7 {X : List (Option Nat)} {z w : World} {T : Nat} (h : Fr X z w) (hT : some T ∈ X ∨ z.heap.size ≤ T) (a b c d e f g : Value) : Fr X z (put7 w T a b c d e f g) :=
  ((((((h.setCell (p := ⟨T, 0, none⟩) hT a).setCell (p := ⟨T, 1, none⟩) hT b).setCell (p := ⟨T, 2, none⟩) hT c).setCell (p := ⟨T, 3, none⟩) hT d).setCell (p := ⟨T, 4, none⟩) hT e).setCell (p := ⟨T, 5, none⟩) hT f).setCell (p := ⟨T, 6, none⟩) hT g
theorem blkPut7 {w : World} {T : Nat} {l : List Value} (h : Blk w T 82 l) (hl : l.length = 7) (a b c d e f g : Value) : Blk (put7 w T a b c d e f g) T 82 [a, b, c, d, e, f, g] := by
  obtain ⟨x0, x1, x2, x3, x4, x5, x6, rfl⟩ : ∃ x0 x1 x2 x3 x4 x5 x6, l = [x0, x1, x2, x3, x4, x5, x6] := by
    rcases l with _ | ⟨x0, _ | ⟨x1, _ | ⟨x2, _ | ⟨x3, _ | ⟨x4, _ | ⟨x5, _ | ⟨x6, _ | _⟩⟩⟩⟩⟩⟩⟩ <;> simp at hl
    exact ⟨x0, x1, x2, x3, x4, x5, x6, rfl⟩
  exact ((((((h.set 0 a).set 1 b).set 2 c).set 3 d).set 4 e).set 5 f).set 6 g
/-- what a walk is told of seven cells -/
structure C7 (w : World) (T : Nat) (a b c d e f g : Value) : Prop where
  c0 : w.cell? ⟨T, 0, none⟩ = some a
  c1 : w.cell? ⟨T, 1, none⟩ = some b
  c2 : w.cell? ⟨T, 2, none⟩ = some c
  c3 : w.cell? ⟨T, 3, none⟩ = some d
  c4 : w.cell? ⟨T, 4, none⟩ = some e
  c5 : w.cell? ⟨T, 5, none⟩ = some f
  c6 : w.cell? ⟨T, 6, none⟩ = some g
  f0 : w.frozen? ⟨T, 0, none⟩ = false
  f1 : w.frozen? ⟨T, 1, none⟩ = false
  f2 : w.frozen? ⟨T, 2, none⟩ = false
  f3 : w.frozen? ⟨T, 3, none⟩ = false
  f4 : w.frozen? ⟨T, 4, none⟩ = false
  f5 : w.frozen? ⟨T, 5, none⟩ = false
  f6 : w.frozen? ⟨T, 6, none⟩ = false
theorem c7_of {w : World} {T : Nat} {a b c d e f g : Value} (h : Blk w T 82 [a, b, c, d, e, f, g]) : C7 w T a b c d e f g :=
  ⟨h.cell 0, h.cell 1, h.cell 2, h.cell 3, h.cell 4, h.cell 5, h.cell 6, h.free 0, h.free 1, h.free 2, h.free 3, h.free 4, h.free 5, h.free 6⟩

/-- the column's cells: a block known whole -/
def colCells (t n : B) : List Value := [.int .i64 2, .int .i64 0, .int .i64 0, .string ⟨#[]⟩, .string ⟨t.toArray⟩, .string ⟨n.toArray⟩, .slice none 0 0]
theorem col_rep (A : Nat → Prop) (w : World) (t n : B) : Rep.E 82 A w (PM.colEx t n) (colCells t n) := .mk 2 0 0 [] t n [] _ Rep.Es.nil

set_option maxRecDepth 100000 in
set_option maxHeartbeats 1000000 in
theorem column_any (P g b : Nat) (s : PS) (w : World) (h : PR w P g s) :
    Calls Tryz.prog 108 #[.pointer (some ⟨P, 0, none⟩)] w fun e w' => ExR b w' e (PM.column s).1 ∧ PR w' P g (PM.column s).2 ∧ Fr [some P] w w' := by
  have hPl := h.lt
  have hgP := h.ne
  have HP := Lib.hid h
  clear h
  go_enter Tryz.func108, Tryz.ntmps108
  go_wp2_with fail
  refine (name_any P g s _ (HP.out.alloc _)).mono ?_
  rintro e w1 ⟨rfl, h1, hf1⟩
  obtain ⟨⟨n, s1⟩, hn⟩ : ∃ x, PM.name s = x := ⟨_, rfl⟩
  rw [hn] at h1 ⊢
  have HB1 := Lib.hid ((Blk.new w 82 z7).keep hf1 (by simp; omega))
  have HF1 : Hid (Fr [some P] w w1) := ((Fr.refl [some P] w).alloc _).trans hf1
  have H1 := Lib.hid h1
  have HN := Lib.hid hn
  have hl1 := h1.lt
  have hl2 := HB1.out.lt
  clear h1 hf1 hn
  go_wp2_with fail
  refine (skips_any P g s1 [46] _ (H1.out.alloc _)).mono ?_
  rintro e w2 ⟨rfl, h2, hf2⟩
  have HX2 := Lib.hid ((Blk.new w1 82 (colCells [] n)).keep hf2 (by simp; omega))
  have HB2 := Lib.hid ((Blk.alloc HB1.out _).keep hf2 (by simp; omega))
  have HF2 : Hid (Fr [some P] w w2) := (HF1.out.alloc _).trans hf2
  have H2 := Lib.hid h2
  have hs1 := hf2.size
  have hl3 := HX2.out.lt
  have hl4 := HB2.out.lt
  have hl5 := h2.lt
  clear h2 hf2
  have hne1 : ¬ w1.heap.size = w.heap.size := by omega
  have hne2 : ¬ w.heap.size = w1.heap.size := by omega
  obtain ⟨x0, x1, x2, x3, x4, x5, x6, g0, g1, g2, g3, g4, g5, g6⟩ := c7_of HX2.out
  obtain ⟨y0, y1, y2, y3, y4, y5, y6, k0, k1, k2, k3, k4, k5, k6⟩ := c7_of HB2.out
  cases hi : PM.is [46] s1
  · have e1 : skipd [46] s1 = s1 := by rw [skipd, hi]; rfl
    have hm : PM.column s = (PM.colEx [] n, s1) := by
      rw [PM.column, HN.out]
      simp only [hi, Bool.false_eq_true, if_false]
    rw [e1] at H2
    have HM := Lib.hid hm
    clear hm e1
    go_wp2_with fail
    refine bodyPost_ret (ret_cell7 rfl _ w.heap.size rfl _ _ _ _ _ _ _ _ (blkPut7 HB2.out rfl _ _ _ _ _ _ _)) rfl ⟨?_, ?_, frPut7 HF2.out (.inr (Nat.le_refl _)) _ _ _ _ _ _ _⟩
    all_goals rw [HM.out]
    · exact ⟨colCells [] n, rfl, col_rep _ _ [] n⟩
    · exact H2.out.keep (frPut7 (Fr.refl [some w.heap.size] _) (.inl (by simp)) _ _ _ _ _ _ _) (by simp; omega) (by simp; omega)
  · have e1 : skipd [46] s1 = PM.skip s1 := by rw [skipd, hi]; rfl
    obtain ⟨⟨m, s2⟩, hmn⟩ : ∃ x, PM.name (PM.skip s1) = x := ⟨_, rfl⟩
    have hm : PM.column s = (PM.colEx n m, s2) := by
      rw [PM.column, HN.out]
      simp only [hi, if_true, hmn]
    rw [e1] at H2
    have HM := Lib.hid hm
    have HMN := Lib.hid hmn
    have H2D : Hid (PR w2.drew P g (PM.skip s1)) := H2.out.keep (Fr.drew (Fr.refl [] w2)) (by simp) (by simp)
    have HX2D : Hid (Blk w2.drew w1.heap.size 82 (colCells [] n)) := HX2.out
    have HB2D : Hid (Blk w2.drew w.heap.size 82 z7) := HB2.out
    have HF2D : Hid (Fr [some P] w w2.drew) := HF2.out.drew
    have HLS : Hid (P < w1.heap.size ∧ P < w.heap.size ∧ g < P ∧ w.heap.size < w1.heap.size) := ⟨by omega, by omega, by omega, by omega⟩
    clear hm e1 hmn hi y0 y1 y2 y3 y4 y5 y6 k0 k1 k2 k3 k4 k5 k6
    go_wp2_with fail
    go_region_with (
      go_at_call 53
      refine (name_any P g (PM.skip s1) _ ?_).mono ?_
      exact H2D.out
      rintro e w3 ⟨rfl, h3, hf3⟩
      rw [HMN.out] at h3 ⊢
      have H3 := Lib.hid h3
      have HF3 := Lib.hid (HF2D.out.trans hf3)
      have HX3 := Lib.hid (HX2D.out.keep hf3 (by simp; have := HLS.out; omega))
      have HB3 := Lib.hid (HB2D.out.keep hf3 (by simp; have := HLS.out; omega))
      obtain ⟨v0, v1, v2, v3, v4, v5, v6, r0, r1, r2, r3, r4, r5, r6⟩ := c7_of HX3.out
      clear h3 hf3)
    all_goals
      have hls := HLS.out
      have hs3 := HF3.out.size
      have hl6 := HX3.out.lt
      have hl7 := HB3.out.lt
      obtain ⟨y0, y1, y2, y3, y4, y5, y6, k0, k1, k2, k3, k4, k5, k6⟩ := c7_of HB3.out
      have hp1 : ¬ P = w1.heap.size := by omega
      have hp2 : ¬ P = w.heap.size := by omega
      go_wp2_with fail
      refine bodyPost_ret (ret_cell7 rfl _ w.heap.size rfl _ _ _ _ _ _ _ _ (blkPut7 ((HB3.out.keep (frSet (P := w1.heap.size) _) (by simp; omega)).keep (frSet (P := w1.heap.size) _) (by simp; omega)) rfl _ _ _ _ _ _ _)) rfl ⟨?_, ?_, ?_⟩
      all_goals try rw [HM.out]
      · exact ⟨colCells n m, rfl, col_rep _ _ n m⟩
      · refine ((H3.out.keep (frSet (P := w1.heap.size) _) (by simp; omega) (by simp; omega)).keep (frSet (P := w1.heap.size) _) (by simp; omega) (by simp; omega)).keep (frPut7 (Fr.refl [some w.heap.size] _) (.inl (by simp)) _ _ _ _ _ _ _) (by simp; omega) (by simp; omega)
      · exact frPut7 ((HF3.out.trans' (frSet (P := w1.heap.size) _) (fun i hi => .inr (by simp at hi; omega))).trans' (frSet (P := w1.heap.size) _) (fun i hi => .inr (by simp at hi; omega))) (.inr (Nat.le_refl _)) _ _ _ _ _ _ _
end Px
end Go.Proofs.YtmdnhinpaflamaaGreatDoor
namespace Go.Proofs.YtmdnhinpaflamaaGreatDoor
open Go.RowKit

namespace Px
open LexM (Tok)
open PM (PS B Ex)

theorem fails_deep (x : Int) (s : PS) : (PM.fails x s).deep = s.deep := by unfold PM.fails; split <;> rfl
theorem need_deep (w : B) (s : PS) : (PM.need w s).deep = s.deep := by
  unfold PM.need
  split
  · rfl
  · exact fails_deep 5 s
theorem needs_deep (l : List B) (s : PS) : (PM.needs l s).deep = s.deep := by
  induction l generalizing s with
  | nil => rfl
  | cons a r ih => rw [PM.needs, ih, need_deep]
/-- an expression's seven cells, written out -/
theorem ex_cells {b : Nat} {w : World} {e : Ending} {x : Ex} (h : ExR b w e x) : ∃ (op kind int : Int) (t tb n : B) (a : Option Addr) (len cap : Nat), e = .returned (.agg #[.int .i64 op, .int .i64 kind, .int .i64 int, .string ⟨t.toArray⟩, .string ⟨tb.toArray⟩, .string ⟨n.toArray⟩, .slice a len cap]) ∧
    Rep.E 82 (fun g => b ≤ g) w x [.int .i64 op, .int .i64 kind, .int .i64 int, .string ⟨t.toArray⟩, .string ⟨tb.toArray⟩, .string ⟨n.toArray⟩, .slice a len cap] := by
  obtain ⟨cs, rfl, hr⟩ := h
  have hr' := hr
  cases hr with
  | mk op kind int t tb n args v hv =>
    obtain ⟨a, len, cap, rfl⟩ : ∃ a len cap, v = .slice a len cap := by
      cases hv with
      | mk _ _ xs h1 h2 h3 =>
        rcases h2.form with ⟨rfl, _, _⟩ | ⟨g, off, cap, rfl, _, _⟩
        · exact ⟨_, _, _, rfl⟩
        · exact ⟨_, _, _, rfl⟩
    exact ⟨op, kind, int, t, tb, n, a, len, cap, rfl, hr'⟩

/-- what a reader of an expression does, where its words are fewer than so many -/
def Reads (P g : Nat) (w : World) (k : Nat) (args : Array Value) (n : Nat) (f : PS → Ex × PS) : Prop :=
  ∀ (w' : World) (s : PS), Fr [some P] w w' → PR w' P g s → s.l.length ≤ n → 0 ≤ s.deep → s.deep ≤ 64 →
    Calls Tryz.prog k args w' fun e w'' => ExR w'.heap.size w'' e (f s).1 ∧ PR w'' P g (f s).2 ∧ Fr [some P] w' w''

set_option maxRecDepth 100000 in
set_option maxHeartbeats 1000000 in
theorem nests_any (P g : Nat) (s : PS) (sg : B) (k : Nat) (fst cap : Array Value) (n : Nat) (f : PS → Ex × PS) (w : World) (h : PR w P g s) (h0 : 0 ≤ s.deep) (h64 : s.deep ≤ 64)
    (hrun : ∀ w : World, Sem.run Tryz.prog (callFunc k (fst ++ cap)) w = .ok (.enter k (fst ++ cap)) w) (hf : Reads P g w k (fst ++ cap) n f) (hn : (PM.needs [sg] s).l.length ≤ n) (hdp : ∀ s, (f s).2.deep = s.deep) :
    Calls Tryz.prog 148 #[.pointer (some ⟨P, 0, none⟩), .string ⟨sg.toArray⟩, .func (.func k) fst cap] w fun e w' => ExR w.heap.size w' e (PM.nests sg f s).1 ∧ PR w' P g (PM.nests sg f s).2 ∧ Fr [some P] w w' := by
  have hPl := h.lt
  have hgP := h.ne
  obtain ⟨off, cp, hat⟩ := h.at
  obtain ⟨c0, c1, c2, c3, f0, f1, f2, f3, t0, t1, t2, t3, hcap, hpos, hlim⟩ := hat
  have HP := Lib.hid h
  have HRUN := Lib.hid hrun
  have HREAD := Lib.hid hf
  have HN := Lib.hid hn
  have HDP := Lib.hid hdp
  have HBZ : Hid (∀ o : Obj, Blk ((w.alloc (.cells z7.toArray 82)).alloc o) w.heap.size 82 z7) := fun o => Blk.alloc (Blk.new w 82 z7) o
  clear h hrun hf hn hdp c0 c2 c3 f0 f2 f3 t0 t1 t2 t3
  obtain ⟨d, hd⟩ : ∃ d, s.deep = d := ⟨_, rfl⟩
  rw [hd] at c1 h0 h64
  have HD := Lib.hid hd
  clear hd
  by_cases hd : d = 64
  · have hdb : (d == 64) = true := by rw [hd]; rfl
    have hm : PM.nests sg f s = (PM.Ex.zero, PM.fails 6 s) := by rw [PM.nests, if_pos (HD.out.trans hd)]
    have HM := Lib.hid hm
    clear hm hd
    go_enter Tryz.func148, Tryz.ntmps148
    go_wp2_with fail
    refine (fails_any P g s 6 _ (HP.out.alloc (.cells z7.toArray 82))).mono ?_
    rintro e w1 ⟨rfl, h1, hf1⟩
    have HB1 := Lib.hid ((Blk.new w 82 z7).keep hf1 (by simp; omega))
    have HF1 : Hid (Fr [some P] w w1) := ((Fr.refl [some P] w).alloc _).trans hf1
    have H1 := Lib.hid h1
    obtain ⟨y0, y1, y2, y3, y4, y5, y6, k0, k1, k2, k3, k4, k5, k6⟩ := c7_of HB1.out
    clear h1 hf1
    go_wp2_with fail
    refine bodyPost_ret (ret_cell7 rfl _ w.heap.size rfl _ _ _ _ _ _ _ _ (blkPut7 HB1.out rfl _ _ _ _ _ _ _)) rfl ⟨?_, ?_, frPut7 HF1.out (.inr (Nat.le_refl _)) _ _ _ _ _ _ _⟩
    all_goals rw [HM.out]
    · exact ⟨z7, rfl, .mk 0 0 0 [] [] [] [] _ Rep.Es.nil⟩
    · exact H1.out.keep (frPut7 (Fr.refl [some w.heap.size] _) (.inl (by simp)) _ _ _ _ _ _ _) (by simp; omega) (by simp; omega)
  · have hdb : (d == 64) = false := by simp [hd]
    have h63 : d ≤ 63 := by omega
    have HM : Hid (PM.nests sg f s = ((f { PM.needs [sg] s with deep := d + 1 }).1, { (f { PM.needs [sg] s with deep := d + 1 }).2 with deep := d })) := by
      rw [Hid, PM.nests, if_neg (by rw [HD.out]; exact hd)]
      simp only [needs_deep, HD.out]
      rw [HDP.out]
      simp only [Int.add_sub_cancel]
    have HST : Hid (Strs ((w.alloc (.cells z7.toArray 82)).alloc (.cells #[.string ⟨sg.toArray⟩] 9)) (w.heap.size + 1) 0 [sg]) := by
      intro j hj
      obtain rfl : j = 0 := by simp at hj; omega
      have := (Blk.new (w.alloc (.cells z7.toArray 82)) 9 [.string ⟨sg.toArray⟩]).cell 0
      rw [show (w.alloc (.cells z7.toArray 82)).heap.size = w.heap.size + 1 by simp] at this
      exact this
    have HW : Hid (PR ((w.alloc (.cells z7.toArray 82)).alloc (.cells #[.string ⟨sg.toArray⟩] 9)) P g s) := (HP.out.alloc _).alloc _
    have HND := Lib.hid (needs_any P g s [sg] (w.heap.size + 1) 0 1 _ HW.out (by simp) HST.out (by omega) (by simp))
    clear hd
    go_enter Tryz.func148, Tryz.ntmps148
    go_wp2_with fail
    refine HND.out.mono ?_
    rintro e w1 ⟨rfl, h1, hf1⟩
    have hsd : (PM.needs [sg] s).deep = d := (needs_deep _ _).trans HD.out
    obtain ⟨s1, hs1⟩ : ∃ s1, PM.needs [sg] s = s1 := ⟨_, rfl⟩
    rw [hs1] at h1 HM hsd HN
    have HB1 := Lib.hid ((HBZ.out (.cells #[.string ⟨sg.toArray⟩] 9)).keep hf1 (by simp; omega))
    have HF1 : Hid (Fr [some P] w w1) := (((Fr.refl [some P] w).alloc _).alloc _).trans hf1
    obtain ⟨off1, cp1, hat1⟩ := h1.at
    obtain ⟨d0, d1, d2, d3, g0, g1, g2, g3, -, -, -, -, -, -, -⟩ := hat1
    have H1 := Lib.hid h1
    rw [hsd] at d1
    clear h1 hf1 hs1 d0 d2 d3 g0 g2 g3 HND HST HW
    have H2 : Hid (PR (w1.setCell ⟨P, 1, none⟩ (.int .i64 (d + 1))) P g { s1 with deep := d + 1 }) := H1.out.setDeep (d + 1)
    have HF2 : Hid (Fr [some P] w (w1.setCell ⟨P, 1, none⟩ (.int .i64 (d + 1)))) := HF1.out.trans (frSet _)
    have HB2 : Hid (Blk (w1.setCell ⟨P, 1, none⟩ (.int .i64 (d + 1))) w.heap.size 82 z7) := HB1.out.keep (frSet (P := P) _) (by simp; omega)
    have HCALL := Lib.hid (HREAD.out _ _ HF2.out H2.out HN.out (by show 0 ≤ d + 1; omega) (by show d + 1 ≤ 64; omega))
    go_wp2_with fail
    rw [HRUN.out, Oper.upon_enter]
    refine HCALL.out.mono ?_
    rintro e w3 ⟨hx, h3, hf3⟩
    obtain ⟨op, kind, int, t, tb, nm, va, vl, vc, rfl, hrep⟩ := ex_cells hx
    have HREP := Lib.hid hrep
    have hd3 : (f { s1 with deep := d + 1 }).2.deep = d + 1 := HDP.out _
    obtain ⟨y, s3, hy⟩ : ∃ y s3, f { s1 with deep := d + 1 } = (y, s3) := ⟨_, _, rfl⟩
    rw [hy] at h3 HREP HM hd3
    obtain ⟨off3, cp3, hat3⟩ := h3.at
    obtain ⟨d0, d1', d2, d3, g0, g1', g2, g3, -, -, -, -, -, -, -⟩ := hat3
    simp only [] at hd3
    rw [hd3] at d1'
    have HB3 := Lib.hid (HB2.out.keep hf3 (by simp; omega))
    have HF3 : Hid (Fr [some P] w w3) := HF2.out.trans hf3
    have H3 := Lib.hid h3
    have hl3 := h3.lt
    have hl4 := HB3.out.lt
    clear hx h3 hf3 hrep hy d0 d2 d3 g0 g2 g3 d1 g1 HCALL
    have hq1 : ¬ P = w3.heap.size := by omega
    have hq2 : ¬ w3.heap.size = P := by omega
    have hq3 : ¬ w.heap.size = w3.heap.size := by omega
    have hq4 : ¬ w3.heap.size = w.heap.size := by omega
    have hq5 : ¬ P = w.heap.size := by omega
    have hq6 : ¬ w.heap.size = P := by omega
    obtain ⟨y0, y1, y2, y3, y4, y5, y6, k0, k1, k2, k3, k4, k5, k6⟩ := c7_of HB3.out
    have hsz2 : w.heap.size + 1 ≤ (w1.setCell ⟨P, 1, none⟩ (.int .i64 (d + 1))).heap.size := by
      have := HB2.out.lt
      omega
    have HSZ := Lib.hid hsz2
    have HPL := Lib.hid hPl
    clear hsz2
    go_wp2_with fail
    refine bodyPost_ret (ret_cell7 rfl _ w.heap.size rfl _ _ _ _ _ _ _ _ (Blk.alloc (blkPut7 (HB3.out.keep (frSet (P := P) _) (by simp; omega)) rfl _ _ _ _ _ _ _) _)) rfl ⟨?_, ?_, ?_⟩
    · rw [HM.out]
      have hfr : Fr [some P, some w.heap.size] w3 ((put7 (w3.setCell ⟨P, 1, none⟩ (.int .i64 d)) w.heap.size (.int .i64 op) (.int .i64 kind) (.int .i64 int) (.string ⟨t.toArray⟩) (.string ⟨tb.toArray⟩) (.string ⟨nm.toArray⟩) (.slice va vl vc)).alloc (.cells #[.int .i64 op, .int .i64 kind, .int .i64 int, .string ⟨t.toArray⟩, .string ⟨tb.toArray⟩, .string ⟨nm.toArray⟩, .slice va vl vc] 82)) :=
        (frPut7 ((Fr.refl [some P, some w.heap.size] w3).setCell (p := ⟨P, 1, none⟩) (.inl (by simp)) _) (.inl (by simp)) _ _ _ _ _ _ _).alloc _
      refine ⟨_, rfl, ?_⟩
      refine Rep.E.mono (fun g hg => Nat.le_trans (Nat.le_of_succ_le HSZ.out) hg) (Rep.E.keep hfr (fun g hg => ?_) HREP.out)
      have h1 := HSZ.out
      have h2 := HPL.out
      simp
      omega
    · rw [HM.out]
      exact ((H3.out.setDeep d).keep (frPut7 (Fr.refl [some w.heap.size] _) (.inl (by simp)) _ _ _ _ _ _ _) (by simp; omega) (by simp; omega)).alloc _
    · exact (frPut7 (HF3.out.trans (frSet _)) (.inr (Nat.le_refl _)) _ _ _ _ _ _ _).alloc _
end Px
end Go.Proofs.YtmdnhinpaflamaaGreatDoor
namespace Go.Proofs.YtmdnhinpaflamaaGreatDoor
open Go.RowKit

namespace Px
open LexM (Tok)
open PM (PS B Ex)

/-- what a map of operations answers, wherever it is asked -/
def Asks (P : Nat) (w : World) (mv : Value) (ops : B → Option Int) : Prop :=
  ∀ (w' : World) (wd : B), Fr [some P] w w' → (Instr.lookup 103 mv (.string ⟨wd.toArray⟩) true).run Tryz.prog w' = .ok (.tuple #[.int .i64 ((ops wd).getD 0), .bool (ops wd).isSome]) w'

/-- the words left, as the parser's cell tells them -/
def meaL (P : Nat) (w : World) : Nat := match w.cell? ⟨P, 0, none⟩ with | some (.slice _ n _) => n | _ => 0
theorem meaL_of {w : World} {P g : Nat} {s : PS} (h : PR w P g s) : meaL P w = s.l.length := by
  obtain ⟨off, cap, hat⟩ := h.at
  rw [meaL, hat.c0]
/-- what the loop keeps -/
def RwI (w : World) (P g X n : Nat) (f : PS → Ex × PS) (ops : B → Option Int) (res : Ex × PS) (wr : World) : Prop :=
  ∃ (fuel : Nat) (x : Ex) (s' : PS) (op kind int : Int) (t tb nm : B) (va : Option Addr) (vl vc : Nat),
    Hid (PM.rowsF f ops fuel x s' = res) ∧ s'.l.length ≤ fuel ∧ s'.l.length ≤ n ∧ 0 ≤ s'.deep ∧ s'.deep ≤ 64 ∧ Hid (PR wr P g s') ∧
    Hid (Blk wr X 82 [.int .i64 op, .int .i64 kind, .int .i64 int, .string ⟨t.toArray⟩, .string ⟨tb.toArray⟩, .string ⟨nm.toArray⟩, .slice va vl vc]) ∧
    Hid (Rep.E 82 (fun b => w.heap.size < b ∧ b ≠ X) wr x [.int .i64 op, .int .i64 kind, .int .i64 int, .string ⟨t.toArray⟩, .string ⟨tb.toArray⟩, .string ⟨nm.toArray⟩, .slice va vl vc]) ∧
    Hid (Blk wr w.heap.size 82 z7) ∧ Hid (Fr [some P] w wr)

theorem RwI.step {w w3 : World} {P g X n z fu : Nat} {f : PS → Ex × PS} {ops : B → Option Int} {res : Ex × PS} {o : Int} {x y : Ex} {s2 : PS} {xs ys : List Value} (hres : PM.rowsF f ops fu (PM.two o x y) s2 = res) (hfu : s2.l.length ≤ fu) (hn : s2.l.length ≤ n) (hd : 0 ≤ s2.deep) (hd2 : s2.deep ≤ 64)
    (hP : PR w3 P g s2) (hXl : ∃ l, Blk w3 X 82 l ∧ l.length = 7) (hB : Blk w3 w.heap.size 82 z7) (hx : Rep.E 82 (fun b => w.heap.size < b ∧ b ≠ X) w3 x xs) (hy : Rep.E 82 (fun b => z ≤ b) w3 y ys) (hF : Fr [some P] w w3)
    (hPw : P < w.heap.size) (hRX : w.heap.size < X) (hXz : X < z) :
    RwI w P g X n f ops res ((put7 w3 X (.int .i64 o) (.int .i64 0) (.int .i64 0) (.string ⟨#[]⟩) (.string ⟨#[]⟩) (.string ⟨#[]⟩) (.slice (some ⟨w3.heap.size, 0, none⟩) 2 2)).alloc (.cells (xs ++ ys).toArray 82)) ∧
    meaL P ((put7 w3 X (.int .i64 o) (.int .i64 0) (.int .i64 0) (.string ⟨#[]⟩) (.string ⟨#[]⟩) (.string ⟨#[]⟩) (.slice (some ⟨w3.heap.size, 0, none⟩) 2 2)).alloc (.cells (xs ++ ys).toArray 82)) = s2.l.length := by
  obtain ⟨l, hX, hl⟩ := hXl
  have hXlt := hX.lt
  have hgP := hP.ne
  have h1 : Fr [some X] w3 (put7 w3 X (.int .i64 o) (.int .i64 0) (.int .i64 0) (.string ⟨#[]⟩) (.string ⟨#[]⟩) (.string ⟨#[]⟩) (.slice (some ⟨w3.heap.size, 0, none⟩) 2 2)) := frPut7 (Fr.refl [some X] w3) (.inl (by simp)) _ _ _ _ _ _ _
  have hsz : (put7 w3 X (.int .i64 o) (.int .i64 0) (.int .i64 0) (.string ⟨#[]⟩) (.string ⟨#[]⟩) (.string ⟨#[]⟩) (.slice (some ⟨w3.heap.size, 0, none⟩) 2 2)).heap.size = w3.heap.size := by simp [put7, World.setCell]
  have hnew := Blk.new (put7 w3 X (.int .i64 o) (.int .i64 0) (.int .i64 0) (.string ⟨#[]⟩) (.string ⟨#[]⟩) (.string ⟨#[]⟩) (.slice (some ⟨w3.heap.size, 0, none⟩) 2 2)) 82 (xs ++ ys)
  rw [hsz] at hnew
  have h2 := h1.alloc (.cells (xs ++ ys).toArray 82)
  have ex := hx.length
  have ey := hy.length
  refine ⟨?_, meaL_of (hP.keep h2 (by simp; omega) (by simp; omega))⟩
  refine ⟨fu, PM.two o x y, s2, o, 0, 0, [], [], [], some ⟨w3.heap.size, 0, none⟩, 2, 2, hres, hfu, hn, hd, hd2, hP.keep h2 (by simp; omega) (by simp; omega), Blk.alloc (blkPut7 hX hl _ _ _ _ _ _ _) _, ?_, hB.keep h2 (by simp; omega), hF.trans' h2 (fun i hi => .inr (by simp at hi; omega))⟩
  refine .mk o 0 0 [] [] [] [x, y] _ (.mk [x, y] _ (xs ++ (ys ++ [])) (.cons x [y] xs _ (Rep.E.keep h2 (fun g hg => by have := hg.2; simp; exact this) hx) (.cons y [] ys [] (Rep.E.mono (fun g hg => ⟨by omega, by omega⟩) (Rep.E.keep h2 (fun g hg => by simp; omega) hy)) .nil)) ?_ ?_)
  · rw [List.append_nil]
    refine ⟨by simp [ex, ey], .inr ⟨w3.heap.size, 0, 2, xs ++ ys, rfl, hnew, by simp, by unfold maxLen; simp, by simp [ex, ey], ?_⟩⟩
    rw [List.drop_zero, List.take_of_length_le (by simp [ex, ey])]
  · intro g hg
    simp only [Value.ownBlock, Option.some.injEq] at hg
    subst hg
    have := hF.size
    exact ⟨by omega, by omega⟩

set_option maxRecDepth 100000 in
set_option maxHeartbeats 2000000 in
theorem rows_any (P g : Nat) (s : PS) (k : Nat) (fst cap : Array Value) (n : Nat) (f : PS → Ex × PS) (mv : Value) (ops : B → Option Int) (w : World) (h : PR w P g s) (h0 : 0 ≤ s.deep) (h64 : s.deep ≤ 64) (hn : s.l.length ≤ n)
    (hrun : ∀ w : World, Sem.run Tryz.prog (callFunc k (fst ++ cap)) w = .ok (.enter k (fst ++ cap)) w) (hf : Reads P g w k (fst ++ cap) n f) (hdp : ∀ s, (f s).2.deep = s.deep) (hln : ∀ s, (f s).2.l.length ≤ s.l.length) (hm : Asks P w mv ops) (hops : ops [] = none) :
    Calls Tryz.prog 104 #[.pointer (some ⟨P, 0, none⟩), .func (.func k) fst cap, mv] w fun e w' => ExR w.heap.size w' e (PM.rows f ops s).1 ∧ PR w' P g (PM.rows f ops s).2 ∧ Fr [some P] w w' := by
  have HPL := Lib.hid h.lt
  have HP := Lib.hid h
  have HRUN := Lib.hid hrun
  have HREAD := Lib.hid hf
  have HLN := Lib.hid hln
  have HDP := Lib.hid hdp
  have HASK := Lib.hid hm
  have HW0 : Hid (PR (w.alloc (.cells z7.toArray 82)) P g s) := HP.out.alloc _
  have HFW0 : Hid (Fr [some P] w (w.alloc (.cells z7.toArray 82))) := (Fr.refl [some P] w).alloc _
  have HCALL := Lib.hid (hf _ s HFW0.out HW0.out hn h0 h64)
  clear h hrun hf hln hdp hm
  go_enter Tryz.func104, Tryz.ntmps104
  go_wp2_with fail
  rw [HRUN.out, Oper.upon_enter]
  refine HCALL.out.mono ?_
  rintro e w1 ⟨hx, h1, hf1⟩
  obtain ⟨op, kind, int, t, tb, nm, va, vl, vc, rfl, hrep⟩ := ex_cells hx
  have HREP := Lib.hid hrep
  have H1 := Lib.hid h1
  have HF1 : Hid (Fr [some P] w w1) := HFW0.out.trans hf1
  have hf1' := hf1
  clear hx h1 hf1 hrep HCALL
  have HB1 : Hid (Blk w1 w.heap.size 82 z7) := (Blk.new w 82 z7).keep hf1' (by have := HPL.out; simp; omega)
  have hRl := HB1.out.lt
  have hPl := H1.out.lt
  have hln1 : (f s).2.l.length ≤ n := Nat.le_trans (HLN.out s) hn
  have hd1 : (f s).2.deep = s.deep := HDP.out s
  go_wp2_with fail
  go_loopw [] (fun wr => RwI w P g w1.heap.size n f ops (PM.rows f ops s) wr) (fun wr => meaL P wr)
  case atStart =>
    refine ⟨(f s).2.l.length, (f s).1, (f s).2, op, kind, int, t, tb, nm, va, vl, vc, rfl, Nat.le_refl _, hln1, by rw [hd1]; exact h0, by rw [hd1]; exact h64, H1.out.alloc _, Blk.new w1 82 _, ?_, Blk.alloc HB1.out _, HF1.out.alloc _⟩
    have h1 := Rep.E.keep (w := w1) ((Fr.refl [] w1).alloc (.cells #[.int .i64 op, .int .i64 kind, .int .i64 int, .string ⟨t.toArray⟩, .string ⟨tb.toArray⟩, .string ⟨nm.toArray⟩, .slice va vl vc] 82)) (fun g _ => by simp) HREP.out.live
    refine Rep.E.mono (fun g hg => ?_) h1
    obtain ⟨h2, h3⟩ := hg
    simp at h2
    exact ⟨by omega, by omega⟩
  case round =>
    clear HREP
    obtain ⟨fuel, x, s', op, kind, int, t, tb, nm, va, vl, vc, HRES, hfu, hnn, hd0, hd64, HR, HX, HE, HB, HF⟩ := hrel
    have hl1 := HX.out.lt
    have hl2 := HB.out.lt
    have hl3 := HR.out.lt
    have hpl := HPL.out
    have hpos := HR.out.wf.pos
    obtain ⟨fu, rfl⟩ : ∃ fu, fuel = fu + 1 := ⟨fuel - 1, by omega⟩
    go_wp2_with fail
    refine (sign_any P g s' wr HR.out).mono ?_
    rintro e w2 ⟨rfl, h2, hf2⟩
    obtain ⟨sg, hsg⟩ : ∃ sg, PM.sign s' = sg := ⟨_, rfl⟩
    rw [hsg]
    have HF2 : Hid (Fr [some P] w w2) := HF.out.trans' hf2 (by simp)
    have hask := HASK.out w2 sg HF2.out
    have HX2 := Lib.hid (HX.out.keep hf2 (by simp))
    have HB2 := Lib.hid (HB.out.keep hf2 (by simp))
    have HE2 := Lib.hid (Rep.E.keep hf2 (fun g _ => by simp) HE.out)
    have H2 := Lib.hid h2
    have hs2 := hf2.size
    clear h2 hf2
    cases ho : ops sg with
    | none =>
      rw [ho] at hask
      simp only [Option.getD_none, Option.isSome_none] at hask
      have HRS : Hid ((x, s') = PM.rows f ops s) := by
        have := HRES.out
        rw [PM.rowsF, hsg, ho] at this
        exact this
      have hq1 : ¬ w1.heap.size = w.heap.size := by omega
      have hq2 : ¬ w.heap.size = w1.heap.size := by omega
      obtain ⟨x0, x1, x2, x3, x4, x5, x6, g0, g1, g2, g3, g4, g5, g6⟩ := c7_of HX2.out
      obtain ⟨y0, y1, y2, y3, y4, y5, y6, k0, k1, k2, k3, k4, k5, k6⟩ := c7_of HB2.out
      clear ho hsg
      go_wp2_with fail
      refine bodyPost_ret (ret_cell7 rfl _ w.heap.size rfl _ _ _ _ _ _ _ _ (blkPut7 HB2.out rfl _ _ _ _ _ _ _)) rfl ⟨?_, ?_, frPut7 HF2.out (.inr (Nat.le_refl _)) _ _ _ _ _ _ _⟩
      all_goals rw [← HRS.out]
      · refine ⟨_, rfl, Rep.E.mono (fun g hg => Nat.le_of_lt hg.1) (Rep.E.keep (frPut7 (Fr.refl [some w.heap.size] _) (.inl (by simp)) _ _ _ _ _ _ _) (fun g hg => ?_) HE2.out)⟩
        have := hg.1
        simp
        omega
      · exact H2.out.keep (frPut7 (Fr.refl [some w.heap.size] _) (.inl (by simp)) _ _ _ _ _ _ _) (by simp; omega) (by have := H2.out.ne; simp; omega)
    | some o =>
      rw [ho] at hask
      simp only [Option.getD_some, Option.isSome_some] at hask
      have hk6 : s'.now.kind ≠ 6 := by
        intro h6
        have : PM.sign s' = [] := by
          rw [PM.sign, PM.wordy, h6]
          simp
        rw [hsg] at this
        rw [this, hops] at ho
        cases ho
      have h2l := WF.two H2.out.wf hk6
      obtain ⟨off, cp, hat⟩ := H2.out.at
      obtain ⟨c0, c1, c2, c3, f0, f1, f2, f3, t0, t1, t2, t3, hcap, hpos2, hlim⟩ := hat
      have HS : Hid (PR (w2.setCell ⟨P, 0, none⟩ (.slice (some ⟨g, off + 4, none⟩) (s'.l.length - 1) (cp - 1))) P g (PM.skip s')) := H2.out.setSkip c0 hk6
      have HRS : Hid (PM.rowsF f ops fu (PM.two o x (f (PM.skip s')).1) (f (PM.skip s')).2 = PM.rows f ops s) := by
        have := HRES.out
        rw [PM.rowsF, hsg, ho] at this
        exact this
      have hls : (PM.skip s').l.length = s'.l.length - 1 := by simp [PM.skip]
      obtain ⟨wS, hwS⟩ : ∃ wS, w2.setCell ⟨P, 0, none⟩ (.slice (some ⟨g, off + 4, none⟩) (s'.l.length - 1) (cp - 1)) = wS := ⟨_, rfl⟩
      have hfS : Fr [some P] w2 wS := by rw [← hwS]; exact frSet _
      rw [hwS] at HS
      have HFS : Hid (Fr [some P] w wS.drew) := (HF2.out.trans hfS).drew
      have HSD : Hid (PR wS.drew P g (PM.skip s')) := HS.out.keep (Fr.drew (Fr.refl [] wS)) (by simp) (by simp)
      have HC6 := Lib.hid (HREAD.out wS.drew (PM.skip s') HFS.out HSD.out (by rw [hls]; omega) hd0 hd64)
      have HXS := Lib.hid (HX2.out.keep hfS (by simp; omega))
      have HBS := Lib.hid (HB2.out.keep hfS (by simp; omega))
      have HES := Lib.hid (Rep.E.keep hfS (fun g hg => by have := hg.1; simp; omega) HE2.out)
      obtain ⟨x0, x1, x2, x3, x4, x5, x6, g0, g1, g2, g3, g4, g5, g6⟩ := c7_of HXS.out
      have hpi : (1 : Int) < (s'.l.length : Int) := by omega
      have hci : (s'.l.length : Int) ≤ (cp : Int) := by omega
      have hc1 : ¬ cp = 1 := by omega
      clear ho hsg c1 c2 c3 f1 f2 f3 t0 t1 t2 t3 hk6
      go_wp2_with fail
      clear hwS c0 f0 hfS hask
      go_region_with (
        rw [HRUN.out, Oper.upon_enter]
        refine HC6.out.mono ?_
        rintro e w3 ⟨hx3, h3, hf3⟩
        obtain ⟨op2, kind2, int2, t2, tb2, nm2, va2, vl2, vc2, rfl, hrep3⟩ := ex_cells hx3
        have HREP3 := Lib.hid hrep3
        have H3 := Lib.hid h3
        have HF3 := Lib.hid hf3
        have HX3 := Lib.hid (Blk.keep (w := wS.drew) HXS.out hf3 (by simp; omega))
        obtain ⟨v0, v1, v2, v3, v4, v5, v6, r0, r1, r2, r3, r4, r5, r6⟩ := c7_of HX3.out
        have hl9 := HX3.out.lt
        have hq1 : ¬ w1.heap.size = w3.heap.size := by omega
        have hq2 : ¬ w3.heap.size = w1.heap.size := by omega
        clear hx3 h3 hf3 hrep3)
      all_goals
        have hsz3 := HF3.out.size
        have hszS : w1.heap.size < wS.heap.size := HXS.out.lt
        have hd3 : (f (PM.skip s')).2.deep = s'.deep := HDP.out _
        have hl9' : (f (PM.skip s')).2.l.length ≤ s'.l.length - 1 := by have := HLN.out (PM.skip s'); rw [hls] at this; exact this
        obtain ⟨hst1, hst2⟩ := (RwI.step (w := w) (X := w1.heap.size) (n := n) (z := wS.heap.size) HRS.out (by omega) (by omega) (by rw [hd3]; exact hd0) (by rw [hd3]; exact hd64) H3.out ⟨_, HX3.out, rfl⟩ (Blk.keep (w := wS.drew) HBS.out HF3.out (by simp; omega)) (Rep.E.keep HF3.out (fun g hg => by have := hg.1; simp; omega) (Rep.E.keep (Fr.drew (Fr.refl [] wS)) (fun g _ => by simp) HES.out)) HREP3.out (HFS.out.trans HF3.out) HPL.out (by omega) (by omega))
        have HSTEP := Lib.hid hst1
        have HST2 := Lib.hid hst2
        clear hst1 hst2
        have hmea : meaL P wr = s'.l.length := meaL_of HR.out
        have HMEA := Lib.hid hmea
        clear hmea
        go_wp2_with fail
        go_roundw
        case rel => exact HSTEP.out
        case measure =>
          show meaL P _ < meaL P _
          refine Nat.lt_of_le_of_lt (Nat.le_of_eq HST2.out) ?_
          rw [HMEA.out]
          omega
end Px
end Go.Proofs.YtmdnhinpaflamaaGreatDoor
namespace Go.Proofs.YtmdnhinpaflamaaGreatDoor

namespace PM
/-- as deep as before, no more words than before -/
def Good {α : Type} (f : PS → α × PS) : Prop := ∀ s, (f s).2.deep = s.deep ∧ (f s).2.l.length ≤ s.l.length
def Calm (f : PS → PS) : Prop := ∀ s, (f s).deep = s.deep ∧ (f s).l.length ≤ s.l.length
theorem calm_fails (x : Int) : Calm (fails x) := fun s => by unfold fails; split <;> exact ⟨rfl, Nat.le_refl _⟩
theorem calm_skip : Calm skip := fun s => ⟨rfl, by simp [skip]⟩
theorem calm_need (w : B) : Calm (need w) := fun s => by
  unfold need
  split
  · exact calm_skip s
  · exact calm_fails 5 s
theorem calm_needs (l : List B) : Calm (needs l) := by
  induction l with
  | nil => exact fun s => ⟨rfl, Nat.le_refl _⟩
  | cons a r ih =>
    intro s
    rw [needs]
    have h1 := calm_need a s
    have h2 := ih (need a s)
    exact ⟨h2.1.trans h1.1, Nat.le_trans h2.2 h1.2⟩
theorem good_word (k : Int) : Good (word k) := fun s => by
  unfold word
  split
  · exact calm_fails 5 s
  · exact calm_skip s
theorem good_name : Good name := fun s => good_word 1 s
theorem good_tag : Good tag := fun s => by
  unfold tag
  split
  · have h1 := calm_fails 3 s
    have h2 := good_word 3 (fails 3 s)
    exact ⟨h2.1.trans h1.1, Nat.le_trans h2.2 h1.2⟩
  · exact good_word 3 s
theorem good_column : Good column := fun s => by
  have h1 := good_name s
  unfold column
  revert h1
  rcases name s with ⟨n, s1⟩
  intro h1
  simp only [] at h1 ⊢
  split
  · have h2 := calm_skip s1
    have h3 := good_name (skip s1)
    exact ⟨h3.1.trans (h2.1.trans h1.1), Nat.le_trans h3.2 (Nat.le_trans h2.2 h1.2)⟩
  · exact h1
theorem good_nests (sg : B) {f : PS → Ex × PS} (hf : Good f) : Good (nests sg f) := fun s => by
  unfold nests
  split
  · exact calm_fails 6 s
  · have h1 := calm_needs [sg] s
    have h2 := hf { needs [sg] s with deep := (needs [sg] s).deep + 1 }
    refine ⟨?_, Nat.le_trans h2.2 h1.2⟩
    show (f { needs [sg] s with deep := (needs [sg] s).deep + 1 }).2.deep - 1 = s.deep
    rw [h2.1, h1.1]
    exact Int.add_sub_cancel ..
theorem good_rowsF {f : PS → Ex × PS} (hf : Good f) (ops : B → Option Int) : ∀ (n : Nat) (x : Ex) (s : PS), (rowsF f ops n x s).2.deep = s.deep ∧ (rowsF f ops n x s).2.l.length ≤ s.l.length
  | 0, x, s => ⟨rfl, Nat.le_refl _⟩
  | n + 1, x, s => by
    rw [rowsF]
    split
    · exact ⟨rfl, Nat.le_refl _⟩
    · rename_i op _
      have h1 := calm_skip s
      have h2 := hf (skip s)
      have h3 := good_rowsF hf ops n (two op x (f (skip s)).1) (f (skip s)).2
      exact ⟨h3.1.trans (h2.1.trans h1.1), Nat.le_trans h3.2 (Nat.le_trans h2.2 h1.2)⟩
theorem good_rows {f : PS → Ex × PS} (hf : Good f) (ops : B → Option Int) : Good (rows f ops) := fun s => by
  have h1 := hf s
  have h2 := good_rowsF hf ops (f s).2.l.length (f s).1 (f s).2
  exact ⟨h2.1.trans h1.1, Nat.le_trans h2.2 h1.2⟩
theorem good_expr {nt : PS → Ex × PS} (h : Good nt) : Good (exprF nt) := good_rows (good_rows h opAnd) opOr
theorem good_sum {u : PS → Ex × PS} (h : Good u) : Good (sumF u) := good_rows (good_rows h opTerm) opSum
theorem good_comp {u : PS → Ex × PS} (h : Good u) : Good (compF u) := fun s => by
  have h1 := good_sum h s
  unfold compF
  revert h1
  rcases sumF u s with ⟨x, s1⟩
  intro h1
  simp only [] at h1 ⊢
  split
  · exact h1
  · have h2 := calm_skip s1
    have h3 := good_sum h (skip s1)
    exact ⟨h3.1.trans (h2.1.trans h1.1), Nat.le_trans h3.2 (Nat.le_trans h2.2 h1.2)⟩
theorem good_not {u nt : PS → Ex × PS} (hu : Good u) (hn : Good nt) : Good (notF u nt) := fun s => by
  unfold notF
  split
  · exact good_nests _ (f := fun s => ((un 4 (nt s).1), (nt s).2)) (fun s => hn s) s
  · exact good_comp hu s
theorem good_unary {u nt : PS → Ex × PS} (hu : Good u) (hn : Good nt) : Good (unaryF u nt) := fun s => by
  unfold unaryF
  split
  · exact good_nests _ (f := fun s => ((un 3 (u s).1), (u s).2)) (fun s => hu s) s
  · split
    · refine good_nests _ (f := fun s => ((exprF nt s).1, needs _ (exprF nt s).2)) (fun s => ?_) s
      have h1 := good_expr hn s
      have h2 := calm_needs [[41]] (exprF nt s).2
      exact ⟨h2.1.trans h1.1, Nat.le_trans h2.2 h1.2⟩
    · split
      · exact good_word 3 s
      · split
        · exact good_word 4 s
        · exact good_column s
theorem good_lev : ∀ n, Good (lev n).1 ∧ Good (lev n).2
  | 0 => ⟨fun s => ⟨rfl, Nat.le_refl _⟩, fun s => ⟨rfl, Nat.le_refl _⟩⟩
  | n + 1 => by
    obtain ⟨h1, h2⟩ := good_lev n
    exact ⟨good_unary h1 h2, good_not (good_unary h1 h2) h2⟩
theorem good_exprN (n : Nat) : Good (expr n) := good_expr (good_lev n).2
end PM
end Go.Proofs.YtmdnhinpaflamaaGreatDoor
namespace Go.Proofs.YtmdnhinpaflamaaGreatDoor
open Go.RowKit
namespace Px
open PM (PS B Ex)

/-- a map's entries, in the order in which they were put -/
def ents : List (B × Int) → Nat → List MapEntry
  | [], _ => []
  | (k, v) :: r, n => { key := .string ⟨k.toArray⟩, val := .int .i64 v, born := n } :: ents r (n + 1)
def mapObj (l : List (B × Int)) : Obj := .map (ents l 0).toArray l.length
theorem ents_snoc (l : List (B × Int)) (k : B) (v : Int) (n : Nat) : ents (l ++ [(k, v)]) n = ents l n ++ [{ key := .string ⟨k.toArray⟩, val := .int .i64 v, born := n + l.length }] := by
  induction l generalizing n with
  | nil => simp [ents]
  | cons a r ih =>
    obtain ⟨a, b⟩ := a
    simp only [List.cons_append, ents, ih, List.length_cons]
    rw [show n + 1 + r.length = n + (r.length + 1) by omega]
theorem ents_key (l : List (B × Int)) (n : Nat) : ∀ x ∈ ents l n, ∃ p ∈ l, x.key = .string ⟨p.1.toArray⟩ := by
  induction l generalizing n with
  | nil => simp [ents]
  | cons a r ih =>
    obtain ⟨a, b⟩ := a
    intro x hx
    simp only [ents, List.mem_cons] at hx
    rcases hx with rfl | hx
    · exact ⟨(a, b), by simp, rfl⟩
    · obtain ⟨p, hp, e⟩ := ih (n + 1) x hx
      exact ⟨p, by simp [hp], e⟩
theorem ents_isKey (l : List (B × Int)) (n : Nat) : ∀ x ∈ ents l n, MapKept.IsKey .string x.key := by
  intro x hx
  obtain ⟨p, _, e⟩ := ents_key l n x hx
  rw [e]
  trivial
/-- what a list of pairs answers -/
def find : List (B × Int) → B → Option Int
  | [], _ => none
  | (k, v) :: r, w => if w = k then some v else find r w
theorem bytes_inj {a b : B} (h : (Value.string ⟨a.toArray⟩) = .string ⟨b.toArray⟩) : a = b := by
  simpa using h
theorem find_now (l : List (B × Int)) (n i : Nat) (w : B) : ∃ r, Instr.findNow .string (.string ⟨w.toArray⟩) (ents l n) i = some r ∧ r.map (·.2) = (find l w).map (Value.int .i64) := by
  induction l generalizing n i with
  | nil => exact ⟨none, rfl, rfl⟩
  | cons a r ih =>
    obtain ⟨k, v⟩ := a
    by_cases h : w = k
    · subst h
      refine ⟨some (i, .int .i64 v), ?_, by simp [find]⟩
      have : ((⟨w.toArray⟩ : ByteArray) == ⟨w.toArray⟩) = true := (MapKept.bytes_beq _ _).2 rfl
      simp [ents, Instr.findNow, Instr.sameNow, this]
    · obtain ⟨r', h1, h2⟩ := ih (n + 1) (i + 1)
      refine ⟨r', ?_, by simp [find, h, h2]⟩
      have : ((⟨w.toArray⟩ : ByteArray) == ⟨k.toArray⟩) = false := by
        rw [Bool.eq_false_iff]
        intro e
        have := (MapKept.bytes_beq _ _).1 e
        exact h (by simpa using this)
      simp [ents, Instr.findNow, Instr.sameNow, this, h1]

theorem map_und : Tryz.prog.underlying 103 = some (.map 9 3) := by kernel_rfl
theorem str_und : Tryz.prog.underlying 9 = some .string := by kernel_rfl

theorem push_set (a : Array Obj) (x y : Obj) : (a.push x).setIfInBounds a.size y = a.push y := by
  apply Array.ext_getElem?
  intro i
  rw [Array.getElem?_setIfInBounds, Array.getElem?_push, Array.getElem?_push]
  by_cases h : a.size = i
  · subst h
    simp
  · rw [if_neg h, if_neg (fun e => h e.symm), if_neg (fun e => h e.symm)]
theorem run_make (w : World) : (Instr.makeMap 103 none).run Tryz.prog w = .ok (.map (some w.heap.size)) (w.alloc (mapObj [])) := run_makeMap _ w
theorem run_put (w : World) (l : List (B × Int)) (k : B) (v : Int) (hk : ∀ p ∈ l, p.1 ≠ k) :
    (Instr.mapUpdate 103 (.map (some w.heap.size)) (.string ⟨k.toArray⟩) (.int .i64 v)).run Tryz.prog (w.alloc (mapObj l)) = .ok () (w.alloc (mapObj (l ++ [(k, v)]))) := by
  have hb : (w.alloc (mapObj l)).heap[w.heap.size]? = some (.map (ents l 0).toArray l.length) := heap_alloc_new w _
  have hK : MapKept.IsKey .string (.string ⟨k.toArray⟩) := trivial
  rcases MapKept.findNow_spec hK (ents l 0) 0 (ents_isKey l 0) with ⟨h1, _⟩ | ⟨j, e, h1, h2, h3⟩
  · simp only [Instr.mapUpdate, Sem.run_bind, run_underlying map_und, MapKept.run_getObj_map hb, MapKept.run_checkKey str_und hK, MapKept.run_findKey str_und h1, MapKept.run_setObj_map _ hb, Result.andThen]
    congr 1
    simp only [World.alloc, World.mk.injEq, and_true]
    simp only [mapObj, ents_snoc, Nat.zero_add, List.length_append, List.length_cons, List.length_nil, List.push_toArray]
    exact push_set _ _ _
  · obtain ⟨p, hp, e1⟩ := ents_key l 0 e (List.mem_of_getElem? h2)
    rw [h3] at e1
    exact absurd (bytes_inj e1).symm (hk p hp)

theorem run_look (w : World) (b : Nat) (l : List (B × Int)) (wd : B) (hb : w.heap[b]? = some (mapObj l)) :
    (Instr.lookup 103 (.map (some b)) (.string ⟨wd.toArray⟩) true).run Tryz.prog w = .ok (.tuple #[.int .i64 ((find l wd).getD 0), .bool (find l wd).isSome]) w ∧
    (Instr.lookup 103 (.map (some b)) (.string ⟨wd.toArray⟩) false).run Tryz.prog w = .ok (.int .i64 ((find l wd).getD 0)) w := by
  have hK : MapKept.IsKey .string (.string ⟨wd.toArray⟩) := trivial
  obtain ⟨r, h1, h2⟩ := find_now l 0 0 wd
  cases r with
  | none =>
    have h3 : find l wd = none := by simpa using h2.symm
    rw [h3]
    constructor
    all_goals simp [Instr.lookup, run_underlying map_und, MapKept.run_getObj_map hb, MapKept.run_checkKey str_und hK, MapKept.run_findKey str_und h1, Result.andThen]
  | some r =>
    obtain ⟨i, v⟩ := r
    obtain ⟨x, h3, rfl⟩ : ∃ x, find l wd = some x ∧ v = .int .i64 x := by
      cases hf : find l wd with
      | none => rw [hf] at h2; cases h2
      | some x => rw [hf] at h2; exact ⟨x, rfl, by simpa using h2⟩
    rw [h3]
    constructor
    all_goals simp [Instr.lookup, run_underlying map_und, MapKept.run_getObj_map hb, MapKept.run_checkKey str_und hK, MapKept.run_findKey str_und h1, Result.andThen]

/-- a map that is written out answers as its list does -/
theorem asks_of {P b : Nat} {w : World} {l : List (B × Int)} {ops : B → Option Int} (hb : w.heap[b]? = some (mapObj l)) (hbP : b ≠ P) (ho : ∀ wd, ops wd = find l wd) : Asks P w (.map (some b)) ops := by
  intro w' wd hf
  have hl : b < w.heap.size := (Array.getElem?_eq_some_iff.1 hb).1
  have := (run_look w' b l wd ((hf.blk hl (by simp; exact hbP)).trans hb)).1
  rw [ho]
  exact this
end Px
end Go.Proofs.YtmdnhinpaflamaaGreatDoor
