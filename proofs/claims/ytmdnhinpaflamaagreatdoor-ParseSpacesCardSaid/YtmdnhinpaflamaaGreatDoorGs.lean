/- What a walk through a statement that is made carries along. -/
import Derived.Test.YtmdnhinpaflamaaGreatDoorGaE
import Derived.Test.YtmdnhinpaflamaaGreatDoorGv
import Derived.Test.YtmdnhinpaflamaaGreatDoorPaF
import Derived.Test.YtmdnhinpaflamaaGreatDoorTold
import Derived.Deep.CutRange
import Derived.Deep.RegionHeld3
namespace Go.Proofs.YtmdnhinpaflamaaGreatDoor
open Go.RowKit
set_option linter.unusedVariables false
set_option linter.unusedSimpArgs false
namespace Gn
open PM (Ex B)
open Px (Ow SR SS StR ItS TagS ColS itC kIt kTag FlatS frSet ret_cell13 c13_of put13 frPut13 blkPut13 c7_of)
open CM (Pr Qs Wr Sel Im Co Cl)
section
variable {B M P b i : Nat} {w0 w w' : World} {v : Value}
structure Gd (B M P : Nat) (w0 w : World) : Prop where
 pk : PK B M w P
 fr : Fr [some P] w0 w
 lt : P < w0.heap.size
 le : B <= w0.heap.size
theorem Gd.start (h : PK B M w P) : Gd B M P w w := ⟨h, Fr.refl _ _, h.lt', h.le⟩
theorem Gd.alloc (h : Gd B M P w0 w) (o : Obj) : Gd B M P w0 (w.alloc o) := ⟨h.pk.alloc o, h.fr.alloc o, h.lt, h.le⟩
theorem Gd.drew (h : Gd B M P w0 w) : Gd B M P w0 w.drew := ⟨h.pk.drew, h.fr.drew, h.lt, h.le⟩
theorem Gd.set (h : Gd B M P w0 w) (hb : w0.heap.size <= b) : Gd B M P w0 (w.setCell ⟨b, i, none⟩ v) :=
 ⟨h.pk.keep (frSet (P := b) _) (by have := h.le; simp; omega), h.fr.setCell (p := ⟨b, i, none⟩) (.inr hb) v, h.lt, h.le⟩
theorem Gd.call (h : Gd B M P w0 w) (h' : PK B M w' P) (hf : Fr [some P] w w') : Gd B M P w0 w' := ⟨h', h.fr.trans hf, h.lt, h.le⟩
theorem Gd.call0 (h : Gd B M P w0 w) (hf : Fr [] w w') : Gd B M P w0 w' := ⟨h.pk.keep hf (by simp), h.fr.trans' hf (by simp), h.lt, h.le⟩
theorem Gd.own {o : Option Nat} (h : Gd B M P w0 w) (hf : Fr [o] w w') (ho : ∀ g, o = some g -> w0.heap.size <= g) : Gd B M P w0 w' :=
 ⟨h.pk.keep hf (fun g hg => by simp at hg; have := ho g hg.symm; have := h.le; omega), h.fr.trans' hf (fun g hg => by simp at hg; exact .inr (ho g hg.symm)), h.lt, h.le⟩
end
structure Ck (b0 b1 : Nat) (w : World) (vc vk : Value) (l : List PM.It) (ks : List Int) : Prop where
 its : ItS (fun g => b0 <= g /\ g < b1) w vc l
 ints : IntS (fun g => b0 <= g /\ g < b1) w vk ks
 ok : ∀ x ∈ l, OkIt x
 len : ks.length = l.length
 short : l.length <= 20
 has : ∀ k : Int, k = 1 \/ k = 2 -> k ∈ ks
section
variable {b0 b1 P : Nat} {w w' : World} {vc vk : Value} {l : List PM.It} {ks : List Int}
theorem Ck.keep {X : List (Option Nat)} (h : Ck b0 b1 w vc vk l ks) (hf : Fr X w w') (hX : ∀ g, b0 <= g -> g < b1 -> some g ∉ X) : Ck b0 b1 w' vc vk l ks :=
 ⟨h.its.keep hf (fun g hg => hX g hg.1 hg.2), h.ints.keep hf (fun g hg => hX g hg.1 hg.2), h.ok, h.len, h.short, h.has⟩
theorem Ck.wide {c1 : Nat} (h : Ck b0 b1 w vc vk l ks) (hc : b1 <= c1) : Ck b0 c1 w vc vk l ks :=
 ⟨h.its.mono (fun g hg => ⟨hg.1, by omega⟩), h.ints.mono (fun g hg => ⟨hg.1, by omega⟩), h.ok, h.len, h.short, h.has⟩
theorem Ck.cols (h : Ck b0 b1 w vc vk l ks) (hP : P < b0) (hb : b1 <= w.heap.size) : Cols w.heap.size P w vc vk l ks :=
 cols_of (Nat.le_refl _) (h.its.mono (fun g hg => ⟨by omega, by omega⟩)) (h.ints.mono (fun g hg => ⟨by omega, by omega⟩)) h.ok h.len h.short h.has
theorem Ck.new {n i : Nat} (h1 : ItS (fun g => n <= g) w vc (tits i)) (h2 : IntS (fun g => n <= g) w vk (tkinds i)) : Ck n w.heap.size w vc vk (tits i) (tkinds i) :=
 ⟨h1.live, h2.live, tits_ok, by rw [tits_len, tkinds_len], by rw [tits_len]; decide, tkinds_has⟩
end
theorem Sch.keep' {n : Nat} {w w' : World} {S : List (Option Nat)} (h : Sch n w) (hf : Fr S w w') (hS : ∀ g, n < g -> g < n + 5 -> some g ∉ S) : Sch n w' :=
 ⟨h.t.keep hf (hS _ (by omega) (by omega)), h.i.keep hf (hS _ (by omega) (by omega)), h.u.keep hf (hS _ (by omega) (by omega)), h.l.keep hf (hS _ (by omega) (by omega))⟩
def clOf (t n : B) : Cl := ⟨t, n⟩
theorem cl_ok' {t n : B} (h : ColTN t n) : (clOf t n).ok = true /\ (Pc.render ((clOf t n).line 0)).length <= 5 := by
 have h1 := h.lt
 have h2 := h.ln
 refine ⟨?_, ?_⟩
 ·simp only [clOf, Cl.ok, Bool.and_eq_true, Bool.or_eq_true]
  exact ⟨by rcases h.table with rfl | h; exact .inl rfl; exact .inr h, h.name⟩
 ·unfold clOf Cl.line
  split <;> simp only [CM.rlen_cons, CM.rlen_nil, CM.b_name, CM.b_sign, List.length_cons, List.length_nil] <;> omega
theorem cl_rep (A : Nat -> Prop) (w : World) (t n : B) : Rep.E 82 A w (clOf t n).ex (exC t n) := .mk 2 0 0 [] t n [] _ Rep.Es.nil
def bndS : Qs -> Nat
 |.view _ _ _ => 9000
 |.closure _ _ _ => 9000
 |_ => 8000
def OkS (q : Qs) : Prop := q.ok 64 = true /\ (Pc.render q.line).length <= bndS q
theorem OkS.len {q : Qs} (h : OkS q) : (Pc.render q.line).length <= 9000 := Nat.le_trans h.2 (by cases q <;> simp [bndS])
theorem Sz.ok64 {p : Pr} (h : Sz 6 p) : CM.okPr 64 p = true /\ (Pc.render (p.line 0)).length <= 2560 := ⟨by
 have := h.nest
 simp only [CM.okPr, Bool.and_eq_true, decide_eq_true_eq]
 exact ⟨h.ok, by omega⟩, by have := h.len; show (sh p).length <= _; omega⟩
def OkW (o : Option Pr) : Prop := ∀ p, o = some p -> Sz 6 p
theorem okW_of {o : Option Pr} (h : OkW o) : CM.okW 64 o = true /\ (Pc.render (CM.whereL o)).length <= 2600 := by
 cases o with
 |none => exact ⟨rfl, by simp [CM.whereL, CM.rlen_nil]⟩
 |some p =>
  obtain ⟨h1, h2⟩ := (h p rfl).ok64
  refine ⟨h1, ?_⟩
  simp only [CM.whereL, CM.rlen_cons, CM.rlen_gap p 1, CM.b_word, List.length_cons, List.length_nil]
  omega
def OkJ (o : Option (B × Cl × Cl)) : Prop := CM.okJ o = true /\ (Pc.render (CM.joinL o)).length <= 100
def OkO (o : Option (Cl × Bool)) : Prop := CM.okO o = true /\ (Pc.render (CM.orderL o)).length <= 100
theorem okJ_none : OkJ none := ⟨rfl, by simp [CM.joinL, CM.rlen_nil]⟩
theorem okO_none : OkO none := ⟨rfl, by simp [CM.orderL, CM.rlen_nil]⟩
theorem okJ_some {j : B} {t n t' n' : B} (hj : OkN j) (h : ColTN t n) (h' : ColTN t' n') : OkJ (some (j, clOf t n, clOf t' n')) := by
 obtain ⟨a1, a2⟩ := cl_ok' h
 obtain ⟨b1, b2⟩ := cl_ok' h'
 refine ⟨by simp only [CM.okJ, hj.1, a1, b1, Bool.and_self], ?_⟩
 have := hj.2
 simp only [CM.joinL, CM.rlen_cons, CM.rlen_app, CM.rlen_cl _ 1, CM.b_name, CM.b_sign, CM.b_word, List.length_cons, List.length_nil]
 omega
theorem okO_some {t n : B} (d : Bool) (h : ColTN t n) : OkO (some (clOf t n, d)) := by
 obtain ⟨a1, a2⟩ := cl_ok' h
 refine ⟨a1, ?_⟩
 cases d <;> simp only [CM.orderL, CM.rlen_cons, CM.rlen_app, CM.rlen_nil, CM.rlen_cl _ 1, CM.b_word, List.length_cons, List.length_nil, if_true, if_false, Bool.false_eq_true] <;> omega
def OkI (l : List Im) : Prop := l.length <= 6 /\ ∀ x ∈ l, x.ok = true /\ (Pc.render (x.line 0)).length <= 12
theorem okI_nil : OkI [] := ⟨by simp, by simp⟩
theorem OkI.snoc {l : List Im} {x : Im} (h : ∀ x ∈ l, x.ok = true /\ (Pc.render (x.line 0)).length <= 12) (hx : x.ok = true /\ (Pc.render (x.line 0)).length <= 12) : ∀ y ∈ l ++ [x], y.ok = true /\ (Pc.render (y.line 0)).length <= 12 := fun y hy => by
 rcases List.mem_append.1 hy with h1 | h1
 ·exact h y h1
 ·rw [List.mem_singleton.1 h1]; exact hx
theorem im_agg {k : Nat} {t n : B} (hk : k < 3) (h : ColTN t n) : (Im.agg k (clOf t n)).ok = true /\ (Pc.render ((Im.agg k (clOf t n)).line 0)).length <= 12 := by
 obtain ⟨a1, a2⟩ := cl_ok' h
 have hl : (CM.aggW k).length <= 3 := by unfold CM.aggW; split <;> decide
 refine ⟨by simp [Im.ok, hk, a1], ?_⟩
 simp only [Im.line, CM.rlen_cons, CM.rlen_app, CM.rlen_nil, CM.b_word, CM.b_sign, List.length_cons, List.length_nil]
 omega
theorem im_count : Im.count.ok = true /\ (Pc.render (Im.count.line 0)).length <= 12 := ⟨rfl, by decide⟩
theorem im_col {t n : B} (h : ColTN t n) : (Im.col (clOf t n)).ok = true /\ (Pc.render ((Im.col (clOf t n)).line 0)).length <= 12 := by
 obtain ⟨a1, a2⟩ := cl_ok' h
 exact ⟨a1, by show (Pc.render ((clOf t n).line 0)).length <= 12; omega⟩
theorem rlen_im (x : Im) : (Pc.render (x.line 1)).length = (Pc.render (x.line 0)).length + 1 := by
 cases x with
 |col c => exact CM.rlen_cl c 1
 |count => rfl
 |agg k c => simp only [Im.line, CM.rlen_cons]; omega
theorem rlen_ims : ∀ (l : List Im), (∀ x ∈ l, x.ok = true /\ (Pc.render (x.line 0)).length <= 12) -> (Pc.render (CM.lines Im.line l)).length <= 14 * l.length
 |[], _ => by simp [CM.lines, CM.rlen_nil]
 |x :: r, h => by
  have h1 := (h x (by simp)).2
  have h2 := rlen_ims r (fun y hy => h y (by simp [hy]))
  simp only [CM.lines, CM.rlen_cons, CM.rlen_app, rlen_im, CM.b_sign, List.length_cons, List.length_nil]
  omega
theorem okI_of {l : List Im} (h : OkI l) : l.all Im.ok = true /\ (Pc.render (CM.itemsL l)).length <= 100 := by
 obtain ⟨h1, h2⟩ := h
 refine ⟨List.all_eq_true.2 fun x hx => (h2 x hx).1, ?_⟩
 cases l with
 |nil => decide
 |cons x r =>
  have h3 := (h2 x (by simp)).2
  have h4 := rlen_ims r (fun y hy => h2 y (by simp [hy]))
  simp only [List.length_cons] at h1
  simp only [CM.itemsL, CM.rlen_app, rlen_im]
  omega
theorem okS_sel {s : Sel} (h1 : OkI s.items) (h2 : OkN s.table) (h3 : OkJ s.join) (h4 : OkW s.wher) (h5 : OkO s.order) : OkS (.select s) := by
 obtain ⟨a1, a2⟩ := okI_of h1
 obtain ⟨c1, c2⟩ := okW_of h4
 have := h2.2
 have := h3.2
 have := h5.2
 refine ⟨by simp only [Qs.ok, Sel.ok, a1, h2.1, h3.1, c1, h5.1, Bool.and_self], ?_⟩
 show (Pc.render (s.line 0)).length <= 8000
 simp only [Sel.line, CM.rlen_cons, CM.rlen_app, CM.b_word, CM.b_name, List.length_cons, List.length_nil]
 omega
theorem tname_ok (i : Nat) : OkN (tname i) := by unfold tname; split <;> exact ⟨by decide, by decide⟩
end Gn
end Go.Proofs.YtmdnhinpaflamaaGreatDoor
