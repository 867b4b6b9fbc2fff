/- What is carried through data that are made. -/
import Derived.Test.YtmdnhinpaflamaaGreatDoorGs
import Derived.Test.YtmdnhinpaflamaaGreatDoorGaR
namespace Go.Proofs.YtmdnhinpaflamaaGreatDoor
open Go.RowKit
set_option linter.unusedVariables false
set_option linter.unusedSimpArgs false
namespace Gn
open PM (Ex B)
open Px (Ow SR SS StR ItS TagS ColS itC kIt kTag kEx RL FlatS frSet ret_cell13 c13_of put13 frPut13 blkPut13 c7_of)
open CM (Pr Qs Wr Sel Im Co Cl)
def IsD (q : Qs) : Prop := (∃ s, q = .select s) \/ ∃ x, q = .write x
theorem Gd.less {B M M' P : Nat} {w0 w w' : World} (h : Gd B M P w0 w) (h' : PK B M' w' P) (hf : Fr [some P] w w') : Gd B M' P w0 w' := ⟨h', h.fr.trans hf, h.lt, h.le⟩
theorem Sz.up {k m : Nat} {p : Pr} (h : Sz k p) (hk : k <= m) : Sz m p := by
 have h1 := h.nest
 have h2 := h.len
 have h3 : 2 ^ k <= 2 ^ m := Nat.pow_le_pow_right (by decide) hk
 exact ⟨h.ok, by omega, by omega⟩
theorem okS_ins {t : B} {x : Pr} {r : List Pr} (ht : OkN t) (h : ∀ p ∈ x :: r, Sz 1 p) (hr : r.length <= 3) : OkS (.write (.insert t x r)) := by
 have hl : ∀ l : List Pr, (∀ p ∈ l, Sz 1 p) -> l.all (CM.okPr 64) = true /\ (Pc.render (CM.lines (fun g p => Pr.line g p) l)).length <= 70 * l.length := by
  intro l
  induction l with
  |nil => exact fun _ => ⟨rfl, by simp [CM.lines, CM.rlen_nil]⟩
  |cons p l ih =>
   intro h
   obtain ⟨i1, i2⟩ := ih (fun q hq => h q (by simp [hq]))
   have hp := h p (by simp)
   have hp1 := (hp.up (m := 6) (by decide)).ok64.1
   have hp2 : (Pc.render (p.line 0)).length + 20 <= 80 := hp.len
   refine ⟨by simp [hp1, i1], ?_⟩
   simp only [CM.lines, CM.rlen_cons, CM.rlen_app, CM.rlen_gap p 1, CM.b_sign, List.length_cons, List.length_nil]
   omega
 obtain ⟨a1, a2⟩ := hl r (fun p hp => h p (by simp [hp]))
 have hx := h x (by simp)
 have hx1 := (hx.up (m := 6) (by decide)).ok64.1
 have hx2 : (Pc.render (x.line 0)).length + 20 <= 80 := hx.len
 have := ht.2
 refine ⟨by simp only [Qs.ok, Wr.ok, ht.1, hx1, a1, Bool.and_self], ?_⟩
 show (Pc.render (Wr.line 0 (.insert t x r))).length <= 8000
 simp only [Wr.line, CM.rlen_cons, CM.rlen_app, CM.rlen_nil, CM.b_word, CM.b_name, CM.b_sign, List.length_cons, List.length_nil]
 omega
theorem okS_upd {t m : B} {x : Pr} {wh : Option Pr} (ht : OkN t) (hm : OkN m) (hx : Sz 6 x) (hw : OkW wh) : OkS (.write (.update t m x wh)) := by
 obtain ⟨a1, a2⟩ := hx.ok64
 obtain ⟨c1, c2⟩ := okW_of hw
 have := ht.2
 have := hm.2
 refine ⟨by simp only [Qs.ok, Wr.ok, ht.1, hm.1, a1, c1, Bool.and_self], ?_⟩
 show (Pc.render (Wr.line 0 (.update t m x wh))).length <= 8000
 simp only [Wr.line, CM.rlen_cons, CM.rlen_app, CM.rlen_nil, CM.rlen_gap x 1, CM.b_word, CM.b_name, CM.b_sign, List.length_cons, List.length_nil]
 omega
theorem okS_del {t : B} {wh : Option Pr} (ht : OkN t) (hw : OkW wh) : OkS (.write (.delete t wh)) := by
 obtain ⟨c1, c2⟩ := okW_of hw
 have := ht.2
 refine ⟨by simp only [Qs.ok, Wr.ok, ht.1, c1, Bool.and_self], ?_⟩
 show (Pc.render (Wr.line 0 (.delete t wh))).length <= 8000
 simp only [Wr.line, CM.rlen_cons, CM.rlen_app, CM.rlen_nil, CM.b_word, CM.b_name, CM.b_sign, List.length_cons, List.length_nil]
 omega
structure Dt (tab : List Value) (i B M P n bs bt b0 b1 : Nat) (w0 : World) (vc vk : Value) (w : World) : Prop where
 d : Gd B M P w0 w
 s : Sch n w
 r : Blk w w0.heap.size 29 [.int .i64 0, .string ⟨#[]⟩, .string ⟨#[]⟩, .slice none 0 0, .slice none 0 0, .slice none 0 0, .slice none 0 0, .string ⟨#[]⟩, .slice none 0 0, .slice none 0 0, .slice none 0 0, .bool false, .slice none 0 0]
 sc : Blk w bs 69 [.slice (some ⟨n + 4, 0, none⟩) 2 2, .slice none 0 0]
 tb : Blk w bt 75 tab
 ck : Ck b0 b1 w vc vk (tits i) (tkinds i)
 hn : w0.heap.size < n
 hs : n + 4 < bs
 ht : bs < bt
 h0 : bt < b0
 h01 : b0 <= b1
 h1 : b1 <= w.heap.size
section
variable {tab : List Value} {i B M P n bs bt b0 b1 : Nat} {w0 w w' : World} {vc vk : Value}
theorem Dt.any {X : List (Option Nat)} (h : Dt tab i B M P n bs bt b0 b1 w0 vc vk w) (hd : Gd B M P w0 w') (hf : Fr X w w') (hX : ∀ g, w0.heap.size <= g -> g < b1 -> some g ∉ X) : Dt tab i B M P n bs bt b0 b1 w0 vc vk w' := by
 have hn := h.hn
 have hs := h.hs
 have ht := h.ht
 have h0 := h.h0
 have h01 := h.h01
 have h1 := h.h1
 have h3 := hf.size
 exact ⟨hd, h.s.keep' hf (fun g g1 g2 => hX g (by omega) (by omega)), h.r.keep hf (hX _ (by omega) (by omega)), h.sc.keep hf (hX _ (by omega) (by omega)), h.tb.keep hf (hX _ (by omega) (by omega)), h.ck.keep hf (fun g g1 g2 => hX g (by omega) g2), hn, hs, ht, h0, h01, by omega⟩
theorem Dt.call (h : Dt tab i B M P n bs bt b0 b1 w0 vc vk w) (hk : PK B M w' P) (hf : Fr [some P] w w') : Dt tab i B M P n bs bt b0 b1 w0 vc vk w' := by
 have := h.d.lt
 exact h.any (h.d.call hk hf) hf (fun g g1 g2 => by simp; omega)
theorem Dt.call0 (h : Dt tab i B M P n bs bt b0 b1 w0 vc vk w) (hf : Fr [] w w') : Dt tab i B M P n bs bt b0 b1 w0 vc vk w' := h.any (h.d.call0 hf) hf (by simp)
theorem Dt.alloc (h : Dt tab i B M P n bs bt b0 b1 w0 vc vk w) (o : Obj) : Dt tab i B M P n bs bt b0 b1 w0 vc vk (w.alloc o) := h.call0 ((Fr.refl [] w).alloc o)
theorem Dt.drew (h : Dt tab i B M P n bs bt b0 b1 w0 vc vk w) : Dt tab i B M P n bs bt b0 b1 w0 vc vk w.drew := h.call0 (Fr.drew (Fr.refl [] w))
theorem Dt.lt (h : Dt tab i B M P n bs bt b0 b1 w0 vc vk w) : w0.heap.size < b1 := by
 have hn := h.hn
 have hs := h.hs
 have ht := h.ht
 have h0 := h.h0
 have h01 := h.h01
 omega
theorem Dt.set {b j : Nat} {v : Value} (h : Dt tab i B M P n bs bt b0 b1 w0 vc vk w) (hb : b1 <= b) : Dt tab i B M P n bs bt b0 b1 w0 vc vk (w.setCell ⟨b, j, none⟩ v) := by
 have := h.lt
 exact h.any (h.d.set (by omega)) (frSet (P := b) v) (fun g g1 g2 => by simp; omega)
theorem Dt.own {o : Option Nat} (h : Dt tab i B M P n bs bt b0 b1 w0 vc vk w) (hf : Fr [o] w w') (ho : ∀ g, o = some g -> b1 <= g) : Dt tab i B M P n bs bt b0 b1 w0 vc vk w' := by
 have := h.lt
 exact h.any (h.d.own hf (fun g hg => by have := ho g hg; omega)) hf (fun g g1 g2 hm => by simp at hm; have := ho g hm.symm; omega)
theorem Dt.cols (h : Dt tab i B M P n bs bt b0 b1 w0 vc vk w) : Cols w.heap.size P w vc vk (tits i) (tkinds i) := by
 have hn := h.hn
 have hs := h.hs
 have ht := h.ht
 have h0 := h.h0
 have h01 := h.h01
 have := h.d.lt
 exact h.ck.cols (by omega) h.h1
theorem Dt.done {q : Qs} {a0 a1 a2 a3 a4 a5 a6 a7 a8 a9 a10 a11 a12 : Value} (h : Dt tab i B M P n bs bt b0 b1 w0 vc vk w) (hq : OkS q) (hD : IsD q) (hs : SR (fun g => b1 <= g) w q.st [a0, a1, a2, a3, a4, a5, a6, a7, a8, a9, a10, a11, a12]) :
  (∃ q : Qs, OkS q /\ IsD q /\ StR w0.heap.size (put13 w w0.heap.size a0 a1 a2 a3 a4 a5 a6 a7 a8 a9 a10 a11 a12) (.returned (.agg #[a0, a1, a2, a3, a4, a5, a6, a7, a8, a9, a10, a11, a12])) q.st) /\
   PK B M (put13 w w0.heap.size a0 a1 a2 a3 a4 a5 a6 a7 a8 a9 a10 a11 a12) P /\ Fr [some P] w0 (put13 w w0.heap.size a0 a1 a2 a3 a4 a5 a6 a7 a8 a9 a10 a11 a12) := by
 have hl := h.lt
 have hf := frPut13 (T := w0.heap.size) (Fr.refl [some w0.heap.size] w) (.inl (by simp)) a0 a1 a2 a3 a4 a5 a6 a7 a8 a9 a10 a11 a12
 have hd := h.d.own hf (fun g hg => by cases hg; omega)
 exact ⟨⟨q, hq, hD, _, rfl, (hs.keep hf (fun g hg => by simp; omega)).mono (fun g hg => by omega)⟩, hd.pk, hd.fr⟩
end
theorem row_blk {w : World} {E : TypeId} {size n : Nat} {v : Value} {xs : List Value} (h : Row w E size v n xs) {g : Nat} (hg : v.ownBlock = some g) : ∃ cs, Blk w g E cs := by
 rcases h.2 with ⟨rfl, _⟩ | ⟨b, off, cap, cur, rfl, hb, _⟩
 ·simp [Value.ownBlock] at hg
 ·simp only [Value.ownBlock, Option.some.injEq] at hg
  subst hg
  exact ⟨cur, hb⟩
theorem blk_type {w : World} {b : Nat} {E E' : TypeId} {cs cs' : List Value} (h : Blk w b E cs) (h' : Blk w b E' cs') : E = E' := by
 unfold Blk at h h'
 rw [h] at h'
 simp at h'
 exact h'.2
section
variable {T : TypeId} {A : Nat -> Prop} {w : World}
mutual
theorem E_typed {e : Ex} {cs : List Value} : Rep.E T A w e cs -> Rep.E T (fun g => A g /\ ∃ xs, Blk w g T xs) w e cs
 |.mk op kind int text table name args v h => .mk op kind int text table name args v (Es_typed h)
theorem L_typed {l : List Ex} {cs : List Value} : Rep.L T A w l cs -> Rep.L T (fun g => A g /\ ∃ xs, Blk w g T xs) w l cs
 |.nil => .nil
 |.cons e r xs ys h k => .cons e r xs ys (E_typed h) (L_typed k)
theorem Es_typed {l : List Ex} {v : Value} : Rep.Es T A w l v -> Rep.Es T (fun g => A g /\ ∃ xs, Blk w g T xs) w l v
 |.mk l v xs h k hk => .mk l v xs (L_typed h) k (fun g hg => ⟨hk g hg, row_blk k hg⟩)
end
theorem Es_off {l : List Ex} {v : Value} {b : Nat} {E : TypeId} {cs : List Value} (h : Rep.Es T A w l v) (hb : Blk w b E cs) (hE : T ≠ E) : Rep.Es T (fun g => A g /\ g ≠ b) w l v :=
 Rep.Es.mono (fun g hg => ⟨hg.1, fun he => by
  obtain ⟨xs, hx⟩ := hg.2
  subst he
  exact hE (blk_type hx hb)⟩) (Es_typed h)
end
theorem lit_p {kind k i : Int} {t : B} (h : Lit kind k i t) : ∃ p : Pr, Sz 1 p /\ p.ex = .mk 1 k i t [] [] [] := ⟨_, Sz.lit (by decide) h⟩
theorem lit_rep (A : Nat -> Prop) (w : World) {k i : Int} {t : B} {p : Pr} (h : p.ex = .mk 1 k i t [] [] []) : kEx.E A w p.ex [.int .i64 1, .int .i64 k, .int .i64 i, .string ⟨t.toArray⟩, .string ⟨#[]⟩, .string ⟨#[]⟩, .slice none 0 0] := by
 rw [h]
 exact .mk 1 k i t [] [] [] _ Rep.Es.nil
theorem ex_info : (Tryz.prog.info? 82).map (fun i => (i.zero, i.size, i.bytes)) = some (some (.agg #[.int .i64 0, .int .i64 0, .int .i64 0, .string ⟨#[]⟩, .string ⟨#[]⟩, .string ⟨#[]⟩, .slice none 0 0]), 7, 96) := by kernel_rfl
theorem upd_es {b z : Nat} {w : World} {y : Pr} {c0 c1 c2 c3 c4 c5 c6 : Value} {n : Nat} (h : Rep.E 82 (fun g => n <= g /\ g < w.heap.size) w y.ex [c0, c1, c2, c3, c4, c5, c6]) (hz : z <= n) (hn : n <= w.heap.size) (hb : b < n) :
  Rep.Es 82 (fun g => z <= g /\ g ≠ b) (w.alloc (.cells #[c0, c1, c2, c3, c4, c5, c6] 82)) [y.ex] (.slice (some ⟨w.heap.size, 0, none⟩) 1 1) := by
 have hL := Rep.L.cons _ _ _ _ (Rep.E.mono (A' := fun g => z <= g /\ g ≠ b) (fun g hg => ⟨by omega, by omega⟩) h) .nil
 rw [List.append_nil] at hL
 exact es_new hL ⟨by omega, by omega⟩ (by simp [maxLen])
def kindOf (i k : Nat) : Int := (tkinds i).getD k 0
theorem kinds_cell {i n : Nat} {w : World} (h : Sch n w) {k : Nat} (hk : k < 3) : w.cell? ⟨if i = 0 then n + 1 else n + 3, k * 3 + 1, none⟩ = some (.int .i64 (kindOf i k)) := by
 by_cases hi : i = 0
 ·subst hi
  rcases (by omega : k = 0 \/ k = 1 \/ k = 2) with rfl | rfl | rfl
  ·exact h.t.cell 1
  ·exact h.t.cell 4
  ·exact h.t.cell 7
 ·rw [if_neg hi]
  have hkd : ∀ k, kindOf i k = ([2, 1, 1] : List Int).getD k 0 := fun k => by unfold kindOf tkinds tcols; rw [if_neg hi]; rfl
  rw [hkd]
  rcases (by omega : k = 0 \/ k = 1 \/ k = 2) with rfl | rfl | rfl
  ·exact h.u.cell 1
  ·exact h.u.cell 4
  ·exact h.u.cell 7
end Gn
end Go.Proofs.YtmdnhinpaflamaaGreatDoor
