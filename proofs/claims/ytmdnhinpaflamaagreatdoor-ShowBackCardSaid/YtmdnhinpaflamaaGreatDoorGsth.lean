/- What is carried through a statement that is made; its plain facts. -/
import Derived.Test.YtmdnhinpaflamaaGreatDoorGaD
import Derived.Test.YtmdnhinpaflamaaGreatDoorSeq3
import Derived.Test.YtmdnhinpaflamaaGreatDoorLex
import Derived.BigQuiet
import Derived.Deep.RegionWith
namespace Go.Proofs.YtmdnhinpaflamaaGreatDoor
open Go.RowKit
set_option linter.unusedVariables false
set_option linter.unusedSimpArgs false
namespace Gn
open PM (Ex B)
open Px (SR SS SL StR ItS TagS ColS itC kIt kTag kEx RL FlatS frSet ret_cell13 c13_of put13 frPut13 blkPut13 c7_of)
open CM (Pr Qs Wr Sel Im Co Cl)
open Pc (render)
def OkCo (c : Co) : Prop := c.ok = true /\ (render (c.line 0)).length <= 16
theorem okCo {n r : B} {t : Bool} (hn : OkN n) (hr : r = [] \/ OkN r) : OkCo ⟨n, t, r⟩ := by
 have h1 := hn.2
 refine ⟨?_, ?_⟩
 ·simp only [Co.ok, hn.1, Bool.true_and, Bool.or_eq_true]
  rcases hr with rfl | h
  ·exact .inl rfl
  ·exact .inr h.1
 ·rcases hr with rfl | h
  ·cases t <;> simp only [Co.line, List.isEmpty_nil, if_true, Bool.false_eq_true, if_false, CM.rlen_cons, CM.rlen_nil, CM.b_name, CM.b_word, List.length_cons, List.length_nil] <;> omega
  ·have h2 := h.2
   have : r.isEmpty = true \/ r.isEmpty = false := by cases r.isEmpty <;> simp
   rcases this with e | e <;> cases t <;> simp only [Co.line, e, if_true, Bool.false_eq_true, if_false, CM.rlen_cons, CM.rlen_nil, CM.b_name, CM.b_word, List.length_cons, List.length_nil] <;> omega
theorem co_lines : ∀ l : List Co, (∀ c ∈ l, OkCo c) -> l.all Co.ok = true /\ (render (CM.lines Co.line l)).length <= 18 * l.length
 |[], _ => ⟨rfl, by simp [CM.lines, CM.rlen_nil]⟩
 |c :: l, h => by
  obtain ⟨i1, i2⟩ := co_lines l (fun x hx => h x (by simp [hx]))
  obtain ⟨h1, h2⟩ := h c (by simp)
  refine ⟨by simp [h1, i1], ?_⟩
  have e : (render (c.line 1)).length = (render (c.line 0)).length + 1 := by simp only [Co.line, CM.rlen_cons]; omega
  simp only [CM.lines, CM.rlen_cons, CM.rlen_app, e, CM.b_sign, List.length_cons, List.length_nil]
  omega
theorem okS_tab {m : B} {c : Co} {r : List Co} (hm : OkN m) (h : ∀ x ∈ c :: r, OkCo x) (hr : r.length <= 4) : OkS (.table m c r) := by
 obtain ⟨a1, a2⟩ := co_lines r (fun x hx => h x (by simp [hx]))
 obtain ⟨b1, b2⟩ := h c (by simp)
 have := hm.2
 refine ⟨by simp only [Qs.ok, hm.1, b1, a1, Bool.and_self], ?_⟩
 show (render (Qs.line (.table m c r))).length <= 8000
 simp only [Qs.line, CM.rlen_cons, CM.rlen_app, CM.rlen_nil, CM.b_word, CM.b_name, CM.b_sign, List.length_cons, List.length_nil]
 omega
theorem okS_idx {t m : B} (ht : OkN t) (hm : OkN m) : OkS (.index t m) := by
 have := hm.2
 have := ht.2
 refine ⟨by simp only [Qs.ok, ht.1, hm.1, Bool.and_self], ?_⟩
 show (render (Qs.line (.index t m))).length <= 8000
 simp only [Qs.line, CM.rlen_cons, CM.rlen_app, CM.rlen_nil, CM.b_word, CM.b_name, CM.b_sign, List.length_cons, List.length_nil]
 omega
theorem tag_len {t : Nat} (h : t <= 3) : (Pc.Pc.bytes (.num t)).length <= 1 := by
 show (Lib.decDigits t).length <= 1
 rw [Lib.decDigits, dif_pos (by omega)]
 simp
theorem tag_lines : ∀ l : List Nat, (∀ t ∈ l, t <= 3) -> l.all CM.okTag = true /\ (render (CM.lines CM.Tg l)).length <= 3 * l.length
 |[], _ => ⟨rfl, by simp [CM.lines, CM.rlen_nil]⟩
 |t :: l, h => by
  obtain ⟨i1, i2⟩ := tag_lines l (fun x hx => h x (by simp [hx]))
  have h1 := h t (by simp)
  have h2 := tag_len h1
  refine ⟨by simp only [List.all_cons, i1, Bool.and_true, CM.okTag, decide_eq_true_eq]; omega, ?_⟩
  simp only [CM.lines, CM.Tg, CM.rlen_cons, CM.rlen_app, CM.rlen_nil, CM.b_sign, List.length_cons, List.length_nil]
  omega
theorem tagsL_len {l : List Nat} (h : ∀ t ∈ l, t <= 3) (hl : l.length <= 3) : l.all CM.okTag = true /\ (render (CM.tagsL l)).length <= 12 := by
 cases l with
 |nil => exact ⟨rfl, by simp [CM.tagsL, CM.rlen_nil]⟩
 |cons t r =>
  obtain ⟨i1, i2⟩ := tag_lines r (fun x hx => h x (by simp [hx]))
  have h1 := h t (by simp)
  have h2 := tag_len h1
  simp only [List.length_cons] at hl
  refine ⟨by simp only [List.all_cons, i1, Bool.and_true, CM.okTag, decide_eq_true_eq]; omega, ?_⟩
  simp only [CM.tagsL, CM.Tg, CM.rlen_cons, CM.rlen_app, CM.rlen_nil]
  omega
theorem okS_view {m : B} {tags : List Nat} {s : Sel} (hm : OkN m) (ht : ∀ t ∈ tags, t <= 3) (hl : tags.length <= 3) (hs : OkS (.select s)) : OkS (.view m tags s) := by
 obtain ⟨a1, a2⟩ := tagsL_len ht hl
 obtain ⟨b1, b2⟩ := hs
 have b2 : (render (s.line 0)).length <= 8000 := b2
 have := hm.2
 refine ⟨by simp only [Qs.ok] at b1 ⊢; simp only [hm.1, a1, b1, Bool.and_self], ?_⟩
 show (render (Qs.line (.view m tags s))).length <= 9000
 simp only [Qs.line, CM.doorL, CM.rlen_cons, CM.rlen_app, CM.rlen_nil, CM.rlen_sel, CM.b_word, CM.b_name, CM.b_sign, List.length_cons, List.length_nil]
 omega
theorem okS_clo {m : B} {tags : List Nat} {s : Wr} (hm : OkN m) (ht : ∀ t ∈ tags, t <= 3) (hl : tags.length <= 3) (hs : OkS (.write s)) : OkS (.closure m tags s) := by
 obtain ⟨a1, a2⟩ := tagsL_len ht hl
 obtain ⟨b1, b2⟩ := hs
 have b2 : (render (s.line 0)).length <= 8000 := b2
 have := hm.2
 refine ⟨by simp only [Qs.ok] at b1 ⊢; simp only [hm.1, a1, b1, Bool.and_self], ?_⟩
 show (render (Qs.line (.closure m tags s))).length <= 9000
 simp only [Qs.line, CM.doorL, CM.rlen_cons, CM.rlen_app, CM.rlen_nil, CM.rlen_wr, CM.b_word, CM.b_name, CM.b_sign, List.length_cons, List.length_nil]
 omega
theorem okS_plain {k : Nat} (hk : k < 3) : OkS (.plain k) := by
 rcases (by omega : k = 0 \/ k = 1 \/ k = 2) with rfl | rfl | rfl <;> exact ⟨by decide, by decide⟩
theorem okS_raise {t : Nat} {r : List Nat} (ht : t <= 3) (h : ∀ t ∈ r, t <= 3) (hl : r.length <= 3) : OkS (.raise t r) := by
 obtain ⟨i1, i2⟩ := tag_lines r h
 have h2 := tag_len ht
 refine ⟨by simp only [Qs.ok, i1, Bool.and_true, CM.okTag, decide_eq_true_eq]; omega, ?_⟩
 show (render (Qs.line (.raise t r))).length <= 8000
 simp only [Qs.line, CM.Tg, CM.rlen_cons, CM.rlen_app, CM.rlen_nil, CM.b_word, List.length_cons, List.length_nil]
 omega
theorem okS_call {m : B} (hm : OkN m) : OkS (.call m) := by
 have := hm.2
 refine ⟨hm.1, ?_⟩
 show (render (Qs.line (.call m))).length <= 8000
 simp only [Qs.line, CM.rlen_cons, CM.rlen_nil, CM.b_word, CM.b_name, List.length_cons, List.length_nil]
 omega
def strs (L : List B) : List Value := L.map fun b => .string ⟨b.toArray⟩
theorem strs_get {L : List B} (h : (L.all fun b => Pc.okName b && decide (b.length <= 2)) = true) {r : Nat} (hr : r < L.length) : ∃ nm, OkN nm /\ (strs L)[r]? = some (.string ⟨nm.toArray⟩) := by
 have := List.all_eq_true.1 h L[r] (List.getElem_mem hr)
 simp only [Bool.and_eq_true, decide_eq_true_eq] at this
 exact ⟨L[r], this, by simp [strs, hr]⟩
structure Ds (B M P : Nat) (w0 w : World) : Prop where
 d : Gd B M P w0 w
 r : Blk w w0.heap.size 29 [.int .i64 0, .string ⟨#[]⟩, .string ⟨#[]⟩, .slice none 0 0, .slice none 0 0, .slice none 0 0, .slice none 0 0, .string ⟨#[]⟩, .slice none 0 0, .slice none 0 0, .slice none 0 0, .bool false, .slice none 0 0]
section
variable {B M M' P : Nat} {w0 w w' : World}
theorem Ds.lt (h : Ds B M P w0 w) : w0.heap.size < w.heap.size := h.r.lt
theorem Ds.call (h : Ds B M P w0 w) (hk : PK B M' w' P) (hf : Fr [some P] w w') : Ds B M' P w0 w' := by
 have := h.d.lt
 exact ⟨h.d.less hk hf, h.r.keep hf (by simp; omega)⟩
theorem Ds.call0 (h : Ds B M P w0 w) (hf : Fr [] w w') : Ds B M P w0 w' := ⟨h.d.call0 hf, h.r.keep hf (by simp)⟩
theorem Ds.alloc (h : Ds B M P w0 w) (o : Obj) : Ds B M P w0 (w.alloc o) := h.call0 ((Fr.refl [] w).alloc o)
theorem Ds.own {o : Option Nat} (h : Ds B M P w0 w) (hf : Fr [o] w w') (ho : ∀ g, o = some g -> w0.heap.size < g) : Ds B M P w0 w' :=
 ⟨h.d.own hf (fun g hg => by have := ho g hg; omega), h.r.keep hf (fun hm => by simp at hm; have := ho _ hm.symm; omega)⟩
theorem Ds.set {b j : Nat} {v : Value} (h : Ds B M P w0 w) (hb : w0.heap.size < b) : Ds B M P w0 (w.setCell ⟨b, j, none⟩ v) := h.own (frSet (P := b) v) (fun g hg => by cases hg; exact hb)
theorem Ds.done {q : Qs} {a0 a1 a2 a3 a4 a5 a6 a7 a8 a9 a10 a11 a12 : Value} (h : Ds B M P w0 w) (hq : OkS q) (hs : SR (fun g => w0.heap.size < g) w q.st [a0, a1, a2, a3, a4, a5, a6, a7, a8, a9, a10, a11, a12]) :
  (∃ q : Qs, OkS q /\ StR w0.heap.size (put13 w w0.heap.size a0 a1 a2 a3 a4 a5 a6 a7 a8 a9 a10 a11 a12) (.returned (.agg #[a0, a1, a2, a3, a4, a5, a6, a7, a8, a9, a10, a11, a12])) q.st) /\
   PK B M (put13 w w0.heap.size a0 a1 a2 a3 a4 a5 a6 a7 a8 a9 a10 a11 a12) P /\ Fr [some P] w0 (put13 w w0.heap.size a0 a1 a2 a3 a4 a5 a6 a7 a8 a9 a10 a11 a12) := by
 have hf := frPut13 (T := w0.heap.size) (Fr.refl [some w0.heap.size] w) (.inl (by simp)) a0 a1 a2 a3 a4 a5 a6 a7 a8 a9 a10 a11 a12
 have hd := h.d.own hf (fun g hg => by cases hg; omega)
 exact ⟨⟨q, hq, _, rfl, (hs.keep hf (fun g hg => by simp; omega)).mono (fun g hg => by omega)⟩, hd.pk, hd.fr⟩
end
theorem flat_push {α : Type} {T : TypeId} {cells : α -> List Value} {size : Nat} {b : Nat} {w w' : World} {v v' : Value} {l : List α} {x : α} (h : FlatS T cells size (fun g => b < g) w v l) (hb : b < w.heap.size) (hr : Row w' T size v' (l.length + 1) (l.flatMap cells ++ cells x))
  (ho : v'.ownBlock = v.ownBlock \/ ∃ k, w.heap.size <= k /\ v'.ownBlock = some k) : FlatS T cells size (fun g => b < g) w' v' (l ++ [x]) := by
 refine ⟨by rw [List.length_append, List.flatMap_append]; simpa using hr, fun g hg => ?_⟩
 rcases ho with o | ⟨k, k1, k2⟩
 ·exact h.2 g (by rw [<- o]; exact hg)
 ·rw [k2] at hg; cases hg; omega
theorem ss_one {A : Nat -> Prop} {w : World} {st : PM.St} {cs : List Value} (h : SR A w st cs) (hA : A w.heap.size) : SS A (w.alloc (.cells cs.toArray 29)) [st] (.slice (some ⟨w.heap.size, 0, none⟩) 1 1) := by
 have hlen : cs.length = 13 := by cases h; rfl
 have hL : SL A w [st] (cs ++ []) := .cons _ _ _ _ h .nil
 rw [List.append_nil] at hL
 refine .mk [st] _ cs (Px.SL.keep ((Fr.refl [] w).alloc _) (fun g h => by simp) hL) ⟨by simp [hlen], .inr ⟨w.heap.size, 0, 1, cs, rfl, Blk.new w _ cs, Nat.le_refl _, by simp [maxLen], by omega, ?_⟩⟩ (fun g hg => ?_)
 ·rw [List.drop_zero]
  exact List.take_of_length_le (by simp [hlen])
 ·simp only [Value.ownBlock, Option.some.injEq] at hg
  subst hg
  exact hA
mutual
theorem SR_live {A : Nat -> Prop} {w : World} {e : PM.St} {cs : List Value} : SR A w e cs -> SR (fun g => A g /\ g < w.heap.size) w e cs
 |.mk kind table name cols tags values items join on wher order desc inner v3 v4 v5 v6 v8 v9 v10 v12 h3 h4 h5 h6 h8 h9 h10 h12 =>
  .mk kind table name cols tags values items join on wher order desc inner v3 v4 v5 v6 v8 v9 v10 v12 h3.live h4.live (Rep.Es.live h5) h6.live (Rep.Es.live h8) (Rep.Es.live h9) (Rep.Es.live h10) (SS_live h12)
theorem SL_live {A : Nat -> Prop} {w : World} {l : List PM.St} {cs : List Value} : SL A w l cs -> SL (fun g => A g /\ g < w.heap.size) w l cs
 |.nil => .nil
 |.cons e r xs ys h k => .cons e r xs ys (SR_live h) (SL_live k)
theorem SS_live {A : Nat -> Prop} {w : World} {l : List PM.St} {v : Value} : SS A w l v -> SS (fun g => A g /\ g < w.heap.size) w l v
 |.mk l v xs h k hk => .mk l v xs (SL_live h) k (fun g hg => ⟨hk g hg, k.block_lt hg⟩)
end
def meaC (P b : Nat) (w : World) : Nat := left w P + (match w.cell? ⟨b, 0, none⟩ with | some (.int _ k) => if k = 6 then 1 else 0 | _ => 0)
theorem meaC_le (P b : Nat) (w : World) : meaC P b w <= left w P + 1 := by
 unfold meaC
 split
 ·split <;> omega
 ·omega
theorem meaC_6 {P b : Nat} {w : World} (h : w.cell? ⟨b, 0, none⟩ = some (.int .i64 6)) : meaC P b w = left w P + 1 := by unfold meaC; rw [h]; rfl
theorem meaC_8 {P b : Nat} {w : World} (h : w.cell? ⟨b, 0, none⟩ = some (.int .i64 8)) : meaC P b w = left w P := by unfold meaC; rw [h]; rfl
theorem wr_of {A : Nat -> Prop} {w : World} {q : Qs} {kind : Int} {cs : List Value} (hq : IsD q) (hs : SR A w q.st (.int .i64 kind :: cs)) (hk : kind ≠ 6) : ∃ x : Wr, q = .write x := by
 rcases hq with ⟨s, rfl⟩ | h
 ·exfalso
  cases hs with
  |mk => exact hk rfl
 ·exact h
end Gn
end Go.Proofs.YtmdnhinpaflamaaGreatDoor
namespace Go.Proofs.YtmdnhinpaflamaaGreatDoor
open Go.RowKit
set_option linter.unusedVariables false
namespace Sx
open PM (Ex B)
theorem es_form {A : Nat -> Prop} {w : World} {l : List Ex} {v : Value} (h : Rep.Es 82 A w l v) : ∃ a c, v = .slice a l.length c /\ l.length <= maxLen := by
 cases h with
 |mk _ _ xs hl hr hb =>
  rcases hr.form with ⟨rfl, h1, h2⟩ | ⟨g, off, cap, rfl, h1, h2⟩
  ·exact ⟨none, 0, by rw [h1], by omega⟩
  ·exact ⟨_, _, rfl, by omega⟩
end Sx
end Go.Proofs.YtmdnhinpaflamaaGreatDoor
