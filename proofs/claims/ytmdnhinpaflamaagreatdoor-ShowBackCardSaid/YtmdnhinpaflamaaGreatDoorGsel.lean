/- A select that is made. -/
import Derived.Test.YtmdnhinpaflamaaGreatDoorGaD
import Derived.Test.YtmdnhinpaflamaaGreatDoorGsth
import Derived.Deep.CutBlock
import Derived.Test.YtmdnhinpaflamaaGreatDoorSeq3
namespace Go.Proofs.YtmdnhinpaflamaaGreatDoor
open Go.RowKit
set_option linter.unusedVariables false
set_option linter.unusedSimpArgs false
namespace Gn
open PM (Ex B)
open Px (SR SS StR ItS TagS ColS itC kIt kTag FlatS frSet ret_cell13 c13_of put13 frPut13 blkPut13 c7_of)
open CM (Pr Qs Wr Sel Im Co Cl)
theorem row_news {w : World} {E : TypeId} {size g off n cap : Nat} {xs : List Value} (h : Row w E size (.slice (some ⟨g, off, none⟩) n cap) n xs) : ∀ j u, xs[j]? = some u -> w.cell? ((⟨g, off, none⟩ : Addr).add j) = some u := fun j u hj => by
 have hlt := (List.getElem?_eq_some_iff.1 hj).1
 rw [Addr.add_lit, h.cells j hlt, List.getD_eq_getElem?_getD, hj]
 rfl
theorem flat_some {α : Type} {T : TypeId} {cells : α -> List Value} {size : Nat} {A : Nat -> Prop} {w : World} {v : Value} {l : List α} (h : FlatS T cells size A w v l) (hne : l.length ≠ 0) : ∃ g off cap, v = .slice (some ⟨g, off, none⟩) l.length cap /\ Row w T size (.slice (some ⟨g, off, none⟩) l.length cap) l.length (l.flatMap cells) /\ A g /\ g < w.heap.size := by
 obtain ⟨h1, h2⟩ := h
 rcases h1.form with ⟨rfl, h0, _⟩ | ⟨g, off, cap, rfl, _, _⟩
 ·exact absurd h0 hne
 ·exact ⟨g, off, cap, rfl, h1, h2 g rfl, h1.block_lt rfl⟩
theorem row_apart {w : World} {E1 E2 : TypeId} {s1 s2 n1 n2 : Nat} {v1 v2 : Value} {xs1 xs2 : List Value} (h1 : Row w E1 s1 v1 n1 xs1) (h2 : Row w E2 s2 v2 n2 xs2) (hE : E1 ≠ E2) : ∀ b, v1.ownBlock = some b -> v2.ownBlock ≠ some b := fun b hb hb2 => by
 rcases h1.2 with ⟨rfl, _⟩ | ⟨g, off, cap, cur, rfl, hbk, _⟩
 ·simp [Value.ownBlock] at hb
 ·rcases h2.2 with ⟨rfl, _⟩ | ⟨g2, off2, cap2, cur2, rfl, hbk2, _⟩
  ·simp [Value.ownBlock] at hb2
  ·simp only [Value.ownBlock, Option.some.injEq] at hb hb2
   subst hb hb2
   unfold Blk at hbk hbk2
   rw [hbk] at hbk2
   simp only [Option.some.injEq, Obj.cells.injEq] at hbk2
   exact hE hbk2.2.1
theorem Ck.app {b0 b1 : Nat} {w w' : World} {vc vk vc' vk' : Value} {l l2 : List PM.It} {ks ks2 : List Int} (h : Ck b0 b1 w vc vk l ks) (h2 : ∀ x ∈ l2, OkIt x) (hl2 : ks2.length = l2.length) (hs : l.length + l2.length <= 20) (hb : b0 <= w.heap.size)
  (hr : Row w' 60 3 vc' (l.length + l2.length) (l.flatMap itC ++ l2.flatMap itC)) (hk : Row w' 3 1 vk' (ks.length + ks2.length) (ks.flatMap intC ++ ks2.flatMap intC))
  (o1 : vc'.ownBlock = vc.ownBlock \/ ∃ k, w.heap.size <= k /\ vc'.ownBlock = some k) (o2 : vk'.ownBlock = vk.ownBlock \/ ∃ k, w.heap.size <= k /\ vk'.ownBlock = some k) : Ck b0 w'.heap.size w' vc' vk' (l ++ l2) (ks ++ ks2) := by
 refine ⟨⟨by rw [List.length_append, List.flatMap_append]; exact hr, fun g hg => ⟨?_, hr.block_lt hg⟩⟩, ⟨by rw [List.length_append, List.flatMap_append]; exact hk, fun g hg => ⟨?_, hk.block_lt hg⟩⟩, fun x hx => ?_, by rw [List.length_append, List.length_append, h.len, hl2], by rw [List.length_append]; exact hs, fun k hk => List.mem_append.2 (.inl (h.has k hk))⟩
 ·rcases o1 with o | ⟨k, k1, k2⟩
  ·exact (h.its.2 g (by rw [<- o]; exact hg)).1
  ·rw [k2] at hg; cases hg; omega
 ·rcases o2 with o | ⟨k, k1, k2⟩
  ·exact (h.ints.2 g (by rw [<- o]; exact hg)).1
  ·rw [k2] at hg; cases hg; omega
 ·rcases List.mem_append.1 hx with h' | h'
  ·exact h.ok x h'
  ·exact h2 x h'
structure Sw (tab : List Value) (B M P n : Nat) (w0 w : World) : Prop where
 d : Gd B M P w0 w
 sc : Blk w w0.heap.size 69 [.slice (some ⟨n + 4, 0, none⟩) 2 2, .slice none 0 0]
 tb : Blk w (w0.heap.size + 1) 75 tab
 r : Blk w (w0.heap.size + 1 + 1) 29 [.int .i64 0, .string ⟨#[]⟩, .string ⟨#[]⟩, .slice none 0 0, .slice none 0 0, .slice none 0 0, .slice none 0 0, .string ⟨#[]⟩, .slice none 0 0, .slice none 0 0, .slice none 0 0, .bool false, .slice none 0 0]
 s : Sch n w
 hn : n + 4 < w0.heap.size
 hP : P <= n
 sz : w0.heap.size + 4 <= w.heap.size
section
variable {tab : List Value} {B M P n : Nat} {w0 w w' : World}
theorem Sw.call (h : Sw tab B M P n w0 w) (hk : PK B M w' P) (hf : Fr [some P] w w') : Sw tab B M P n w0 w' := by
 have h1 := h.hn
 have h2 := h.hP
 exact ⟨h.d.call hk hf, h.sc.keep hf (by simp; omega), h.tb.keep hf (by simp; omega), h.r.keep hf (by simp; omega), h.s.keep hf (fun g hg => by simp at hg; omega), h1, h2, Nat.le_trans h.sz hf.size⟩
theorem Sw.call0 (h : Sw tab B M P n w0 w) (hf : Fr [] w w') : Sw tab B M P n w0 w' :=
 ⟨h.d.call0 hf, h.sc.keep hf (by simp), h.tb.keep hf (by simp), h.r.keep hf (by simp), h.s.keep hf (by simp), h.hn, h.hP, Nat.le_trans h.sz hf.size⟩
theorem Sw.own {o : Option Nat} (h : Sw tab B M P n w0 w) (hf : Fr [o] w w') (ho : ∀ g, o = some g -> w0.heap.size + 3 <= g) : Sw tab B M P n w0 w' := by
 have h1 := h.hn
 have key : ∀ b, b < w0.heap.size + 3 -> some b ∉ [o] := fun b hb hm => by
  simp at hm
  have := ho b hm.symm
  omega
 exact ⟨h.d.own hf (fun g hg => by have := ho g hg; omega), h.sc.keep hf (key _ (by omega)), h.tb.keep hf (key _ (by omega)), h.r.keep hf (key _ (by omega)), h.s.keep' hf (fun g _ _ => key g (by omega)), h1, h.hP, Nat.le_trans h.sz hf.size⟩
theorem Sw.alloc (h : Sw tab B M P n w0 w) (o : Obj) : Sw tab B M P n w0 (w.alloc o) := h.call0 ((Fr.refl [] w).alloc o)
theorem Sw.set {b i : Nat} {v : Value} (h : Sw tab B M P n w0 w) (hb : w0.heap.size + 3 <= b) : Sw tab B M P n w0 (w.setCell ⟨b, i, none⟩ v) := h.own (frSet (P := b) v) (fun g hg => by cases hg; exact hb)
end
theorem row_slice {w : World} {E : TypeId} {size n : Nat} {v : Value} {xs : List Value} (h : Row w E size v n xs) : ∃ a l c, v = .slice a l c := by
 rcases h.2 with ⟨rfl, _⟩ | ⟨g, off, cap, cur, rfl, _⟩
 ·exact ⟨none, 0, 0, rfl⟩
 ·exact ⟨_, _, _, rfl⟩
theorem its_push {b : Nat} {w w' : World} {v v' : Value} {l : List PM.It} {x : PM.It} (h : ItS (fun g => b <= g) w v l) (hb : b <= w.heap.size) (hr : Row w' 60 3 v' (l.length + 1) (l.flatMap itC ++ itC x))
  (ho : v'.ownBlock = v.ownBlock \/ ∃ k, w.heap.size <= k /\ v'.ownBlock = some k) : ItS (fun g => b <= g) w' v' (l ++ [x]) := by
 refine ⟨by rw [List.length_append, List.flatMap_append]; simpa using hr, fun g hg => ?_⟩
 rcases ho with o | ⟨k, k1, k2⟩
 ·exact h.2 g (by rw [<- o]; exact hg)
 ·rw [k2] at hg; cases hg; omega
theorem its_new {b : Nat} {w : World} {x : PM.It} (h : Blk w b 60 (itC x)) : ItS (fun g => b <= g) w (.slice (some ⟨b, 0, none⟩) 1 1) [x] := by
 refine ⟨⟨by simp [itC], .inr ⟨b, 0, 1, itC x, rfl, h, Nat.le_refl _, by simp [maxLen], by simp [itC], ?_⟩⟩, fun g hg => ?_⟩
 ·simp [itC]
 ·simp only [Value.ownBlock, Option.some.injEq] at hg
  omega
open Seq3 in
theorem wpL_append_row {P : Program} {ops : Array Oper} {Inv : World -> Prop} {Q : Exit -> Act -> World -> Prop} {held : Nat -> Bool} {qv : Nat -> Option Value} {lst : Nat -> Bool} {k : Nat} {o : Oper} {rest : List Oper} {a : Act} {w : World} (hk : held k = false) (hw : Region.wanted o (yielded ops a.tmps) = true) (s x : Operand) (t : TypeId)
  (ho : o.op = .call { callee := .builtin .append, args := #[s, x], argTypes := #[t, t] })
  (E : TypeId) (i : TypeInfo) (z : Value) (size bytes : Nat) (ht : P.underlying t = some (.slice E)) (hi : P.info? E = some i) (hz : i.zero = some z)
  (hsize : i.size = size) (hby : i.bytes = bytes) (hzs : z.cells.size = size) (hsz : 0 < size)
  (v : Value) (n : Nat) (xs : List Value) (hs : a.eval s = v) (hrow : Row w E size v n xs)
  (ad : Addr) (m c : Nat) (news : List Value) (hx : a.eval x = .slice (some ad) m c) (hl : news.length = m * size) (hnews : ∀ j u, news[j]? = some u -> w.cell? (ad.add j) = some u) (h1 : ∀ u ∈ news, u.oneCell' = true)
  (h63 : n + m <= maxLen) (hbytes : (n + m) * bytes <= 140737488355328)
  (h : ∀ v' w', Row w' E size v' (n + m) (xs ++ news) -> Fr [v.ownBlock] w w' -> (v'.ownBlock = v.ownBlock \/ ∃ k, w.heap.size <= k /\ v'.ownBlock = some k) -> (lst k = true \/ Inv w') /\ wpL P ops Inv Q held qv lst (k + 1) rest (a.put o.dst v') w') : wpL P ops Inv Q held qv lst k (o :: rest) a w :=
 wpL_act hk hw fun K hK => by
  obtain ⟨v', w', hr, h2, h3, h4, _⟩ := run_append_row (P := P) t o.type E i z size bytes ht hi hz hsize hby hzs hsz v n xs hrow ad m c news hl hnews h1 h63 hbytes
  obtain ⟨hI, hh⟩ := h v' w' h2 h3 h4
  unfold Oper.wp execOp
  simp only [ho, resolve, invoke, builtin, Sem.run_bind, Sem.run_pure, Result.andThen_ok, List.map_toArray, List.map_cons, List.map_nil, hs, hx, hr]
  exact hK _ _ hI hh
structure Sr (tab : List Value) (B M P n bc b6 : Nat) (w0 : World) (vc vk : Value) (l : List PM.It) (ks : List Int) (jo : Option (PM.B × Cl × Cl)) (wo : Option Pr) (v8 v9 v6 : Value) (its : List Im) (w : World) : Prop where
 sw : Sw tab B M P n w0 w
 ck : Ck bc b6 w vc vk l ks
 e8 : Rep.Es 82 (fun g => w0.heap.size + 3 < g /\ g < b6) w (CM.joinE jo) v8
 e9 : Rep.Es 82 (fun g => w0.heap.size + 3 < g /\ g < b6) w (CM.whE wo) v9
 it : ItS (fun g => b6 <= g) w v6 (its.map Im.it)
 hbc : w0.heap.size + 3 < bc
 hb6 : b6 <= w.heap.size
 hbb : w0.heap.size + 3 < b6
section
variable {tab : List Value} {B M P n bc b6 : Nat} {w0 w w' : World} {vc vk : Value} {l : List PM.It} {ks : List Int} {jo : Option (PM.B × Cl × Cl)} {wo : Option Pr} {v8 v9 v6 v6' : Value} {its its' : List Im}
theorem Sr.any {X : List (Option Nat)} (h : Sr tab B M P n bc b6 w0 vc vk l ks jo wo v8 v9 v6 its w) (hs : Sw tab B M P n w0 w') (hf : Fr X w w') (hX : ∀ g, w0.heap.size + 3 < g -> g < b6 -> some g ∉ X) (hi : ItS (fun g => b6 <= g) w' v6' (its'.map Im.it)) : Sr tab B M P n bc b6 w0 vc vk l ks jo wo v8 v9 v6' its' w' := by
 have h1 := h.hbc
 have h2 := h.hb6
 have h3 := hf.size
 exact ⟨hs, h.ck.keep hf (fun g g1 g2 => hX g (by omega) g2), h.e8.keep hf (fun g hg => hX g hg.1 hg.2), h.e9.keep hf (fun g hg => hX g hg.1 hg.2), hi, h1, by omega, h.hbb⟩
theorem Sr.call (h : Sr tab B M P n bc b6 w0 vc vk l ks jo wo v8 v9 v6 its w) (hk : PK B M w' P) (hf : Fr [some P] w w') : Sr tab B M P n bc b6 w0 vc vk l ks jo wo v8 v9 v6 its w' := by
 have h1 := h.sw.d.lt
 have h2 := h.hbb
 exact h.any (h.sw.call hk hf) hf (fun g g1 g2 => by simp; omega) (h.it.keep hf (fun g hg => by simp; omega))
theorem Sr.call0 (h : Sr tab B M P n bc b6 w0 vc vk l ks jo wo v8 v9 v6 its w) (hf : Fr [] w w') : Sr tab B M P n bc b6 w0 vc vk l ks jo wo v8 v9 v6 its w' :=
 h.any (h.sw.call0 hf) hf (by simp) (h.it.keep hf (by simp))
theorem Sr.alloc (h : Sr tab B M P n bc b6 w0 vc vk l ks jo wo v8 v9 v6 its w) (o : Obj) : Sr tab B M P n bc b6 w0 vc vk l ks jo wo v8 v9 v6 its (w.alloc o) := h.call0 ((Fr.refl [] w).alloc o)
theorem Sr.drew (h : Sr tab B M P n bc b6 w0 vc vk l ks jo wo v8 v9 v6 its w) : Sr tab B M P n bc b6 w0 vc vk l ks jo wo v8 v9 v6 its w.drew := h.call0 (Fr.drew (Fr.refl [] w))
theorem Sr.set {i : Nat} {v : Value} (h : Sr tab B M P n bc b6 w0 vc vk l ks jo wo v8 v9 v6 its w) : Sr tab B M P n bc b6 w0 vc vk l ks jo wo v8 v9 v6 its (w.setCell ⟨w0.heap.size + 3, i, none⟩ v) := by
 have h2 := h.hbb
 exact h.any (h.sw.set (Nat.le_refl _)) (frSet (P := w0.heap.size + 3) v) (fun g g1 g2 => by simp; omega) (h.it.keep (frSet (P := w0.heap.size + 3) v) (fun g hg => by simp; omega))
theorem Sr.grow {o : Option Nat} (h : Sr tab B M P n bc b6 w0 vc vk l ks jo wo v8 v9 v6 its w) (hf : Fr [o] w w') (ho : ∀ g, o = some g -> b6 <= g) (hi : ItS (fun g => b6 <= g) w' v6' (its'.map Im.it)) : Sr tab B M P n bc b6 w0 vc vk l ks jo wo v8 v9 v6' its' w' := by
 have h2 := h.hbb
 exact h.any (h.sw.own hf (fun g hg => by have := ho g hg; omega)) hf (fun g g1 g2 hm => by simp at hm; have := ho g hm.symm; omega) hi
theorem Sr.new (h : Sr tab B M P n bc b6 w0 vc vk l ks jo wo v8 v9 v6 its w) (hi : ItS (fun g => b6 <= g) w v6' (its'.map Im.it)) : Sr tab B M P n bc b6 w0 vc vk l ks jo wo v8 v9 v6' its' w :=
 ⟨h.sw, h.ck, h.e8, h.e9, hi, h.hbc, h.hb6, h.hbb⟩
theorem Sr.done {tn : PM.B} {jb : ByteArray} {oo : Option (Cl × Bool)} {d : Bool} {v10 : Value} (h : Sr tab B M P n bc b6 w0 vc vk l ks jo wo v8 v9 v6 its w) (htn : OkN tn) (hI : OkI its) (hJ : OkJ jo) (hjb : (⟨(CM.joinN jo).toArray⟩ : ByteArray) = jb) (hW : OkW wo) (hO : OkO oo) (hd : CM.orderD oo = d)
  (e10 : Rep.Es 82 (fun g => b6 <= g) w (CM.orderE oo) v10) :
  (∃ s : Sel, OkS (.select s) /\ StR w0.heap.size (put13 w (w0.heap.size + 1 + 1) (.int .i64 6) (.string ⟨tn.toArray⟩) (.string ⟨#[]⟩) (.slice none 0 0) (.slice none 0 0) (.slice none 0 0) v6 (.string jb) v8 v9 v10 (.bool d) (.slice none 0 0)) (.returned (.agg #[.int .i64 6, .string ⟨tn.toArray⟩, .string ⟨#[]⟩, .slice none 0 0, .slice none 0 0, .slice none 0 0, v6, .string jb, v8, v9, v10, .bool d, .slice none 0 0])) s.st) /\
   PK B M (put13 w (w0.heap.size + 1 + 1) (.int .i64 6) (.string ⟨tn.toArray⟩) (.string ⟨#[]⟩) (.slice none 0 0) (.slice none 0 0) (.slice none 0 0) v6 (.string jb) v8 v9 v10 (.bool d) (.slice none 0 0)) P /\
   Fr [some P] w0 (put13 w (w0.heap.size + 1 + 1) (.int .i64 6) (.string ⟨tn.toArray⟩) (.string ⟨#[]⟩) (.slice none 0 0) (.slice none 0 0) (.slice none 0 0) v6 (.string jb) v8 v9 v10 (.bool d) (.slice none 0 0)) := by
 subst hjb hd
 have h2 := h.hbb
 have hf := frPut13 (T := w0.heap.size + 1 + 1) (Fr.refl [some (w0.heap.size + 1 + 1)] w) (.inl (by simp)) (.int .i64 6) (.string ⟨tn.toArray⟩) (.string ⟨#[]⟩) (.slice none 0 0) (.slice none 0 0) (.slice none 0 0) v6 (.string ⟨(CM.joinN jo).toArray⟩) v8 v9 v10 (.bool (CM.orderD oo)) (.slice none 0 0)
 have hd := h.sw.d.own hf (fun g hg => by cases hg; omega)
 refine ⟨⟨⟨its, tn, jo, wo, oo⟩, okS_sel hI htn hJ hW hO, _, rfl, ?_⟩, hd.pk, hd.fr⟩
 exact .mk 6 tn [] [] [] [] (its.map Im.it) (CM.joinN jo) (CM.joinE jo) (CM.whE wo) (CM.orderE oo) (CM.orderD oo) [] _ _ _ _ _ _ _ _ .nil .nil Rep.Es.nil
  ((h.it.keep hf (fun g hg => by simp; omega)).mono (fun g hg => by omega)) ((h.e8.keep hf (fun g hg => by simp; omega)).mono (fun g hg => by omega)) ((h.e9.keep hf (fun g hg => by simp; omega)).mono (fun g hg => by omega))
  ((e10.keep hf (fun g hg => by simp; omega)).mono (fun g hg => by omega)) SS.nil
end
set_option maxRecDepth 4000000 in
set_option maxHeartbeats 16000000 in
theorem selected_any {B M n ti : Nat} (hi : ti < 2) (P : Nat) (hPn : P <= n) (w : World) (h : PK B M w P) (hs : Sch n w) :
  Calls Tryz.prog 29 #[.pointer (some ⟨P, 0, none⟩), .agg #[.slice (some ⟨n + 4, 0, none⟩) 2 2, .slice none 0 0], .agg (tabV n ti).toArray] w fun e w' => (∃ s : Sel, OkS (.select s) /\ StR w.heap.size w' e s.st) /\ PK B M w' P /\ Fr [some P] w w' := by
 obtain ⟨cb, ia, il, ic, htv⟩ : ∃ (cb : Nat) (ia : Option Addr) (il ic : Nat), tabV n ti = [.string ⟨(tname ti).toArray⟩, .slice (some ⟨cb, 0, none⟩) 3 3, .slice ia il ic] := by rcases (by omega : ti = 0 \/ ti = 1) with rfl | rfl <;> exact ⟨_, _, _, _, rfl⟩
 have HCT : Hid (∀ W, Sch n W -> _) := Hd (fun W hW => cols_tab (i := ti) (n := n) hi W hW)
 rw [htv] at HCT ⊢
 clear htv
 have hPl := h.lt'
 have hnl : n + 4 < w.heap.size := hs.l.lt
 have HW1 : Hid (Sw [.string ⟨(tname ti).toArray⟩, .slice (some ⟨cb, 0, none⟩) 3 3, .slice ia il ic] B M P n w ((((w.alloc (.cells #[.slice (some ⟨n + 4, 0, none⟩) 2 2, .slice none 0 0] 69)).alloc (.cells #[.string ⟨(tname ti).toArray⟩, .slice (some ⟨cb, 0, none⟩) 3 3, .slice ia il ic] 75)).alloc (.cells #[.int .i64 0, .string ⟨#[]⟩, .string ⟨#[]⟩, .slice none 0 0, .slice none 0 0, .slice none 0 0, .slice none 0 0, .string ⟨#[]⟩, .slice none 0 0, .slice none 0 0, .slice none 0 0, .bool false, .slice none 0 0] 29)).alloc (.cells #[.int .i64 6, .string ⟨(tname ti).toArray⟩, .string ⟨#[]⟩, .slice none 0 0, .slice none 0 0, .slice none 0 0, .slice none 0 0, .string ⟨#[]⟩, .slice none 0 0, .slice none 0 0, .slice none 0 0, .bool false, .slice none 0 0] 29))) := Hd (by
  have b0 := Blk.new w 69 [.slice (some ⟨n + 4, 0, none⟩) 2 2, .slice none 0 0]
  have b1 := Blk.new (w.alloc (.cells #[.slice (some ⟨n + 4, 0, none⟩) 2 2, .slice none 0 0] 69)) 75 [.string ⟨(tname ti).toArray⟩, .slice (some ⟨cb, 0, none⟩) 3 3, .slice ia il ic]
  have b2 := Blk.new ((w.alloc (.cells #[.slice (some ⟨n + 4, 0, none⟩) 2 2, .slice none 0 0] 69)).alloc (.cells #[.string ⟨(tname ti).toArray⟩, .slice (some ⟨cb, 0, none⟩) 3 3, .slice ia il ic] 75)) 29 [.int .i64 0, .string ⟨#[]⟩, .string ⟨#[]⟩, .slice none 0 0, .slice none 0 0, .slice none 0 0, .slice none 0 0, .string ⟨#[]⟩, .slice none 0 0, .slice none 0 0, .slice none 0 0, .bool false, .slice none 0 0]
  rw [World.size_alloc] at b1
  rw [World.size_alloc, World.size_alloc] at b2
  exact ⟨((((Gd.start h).alloc _).alloc _).alloc _).alloc _, ((b0.alloc _).alloc _).alloc _, (b1.alloc _).alloc _, b2.alloc _, hs.keep (((((Fr.refl [] w).alloc _).alloc _).alloc _).alloc _) (by simp), hnl, hPn, by simp⟩)
 have HSt1 : Hid (Blk ((((w.alloc (.cells #[.slice (some ⟨n + 4, 0, none⟩) 2 2, .slice none 0 0] 69)).alloc (.cells #[.string ⟨(tname ti).toArray⟩, .slice (some ⟨cb, 0, none⟩) 3 3, .slice ia il ic] 75)).alloc (.cells #[.int .i64 0, .string ⟨#[]⟩, .string ⟨#[]⟩, .slice none 0 0, .slice none 0 0, .slice none 0 0, .slice none 0 0, .string ⟨#[]⟩, .slice none 0 0, .slice none 0 0, .slice none 0 0, .bool false, .slice none 0 0] 29)).alloc (.cells #[.int .i64 6, .string ⟨(tname ti).toArray⟩, .string ⟨#[]⟩, .slice none 0 0, .slice none 0 0, .slice none 0 0, .slice none 0 0, .string ⟨#[]⟩, .slice none 0 0, .slice none 0 0, .slice none 0 0, .bool false, .slice none 0 0] 29)) (w.heap.size + 3) 29 [.int .i64 6, .string ⟨(tname ti).toArray⟩, .string ⟨#[]⟩, .slice none 0 0, .slice none 0 0, .slice none 0 0, .slice none 0 0, .string ⟨#[]⟩, .slice none 0 0, .slice none 0 0, .slice none 0 0, .bool false, .slice none 0 0]) := Hd (by
  have b3 := Blk.new (((w.alloc (.cells #[.slice (some ⟨n + 4, 0, none⟩) 2 2, .slice none 0 0] 69)).alloc (.cells #[.string ⟨(tname ti).toArray⟩, .slice (some ⟨cb, 0, none⟩) 3 3, .slice ia il ic] 75)).alloc (.cells #[.int .i64 0, .string ⟨#[]⟩, .string ⟨#[]⟩, .slice none 0 0, .slice none 0 0, .slice none 0 0, .slice none 0 0, .string ⟨#[]⟩, .slice none 0 0, .slice none 0 0, .slice none 0 0, .bool false, .slice none 0 0] 29)) 29 [.int .i64 6, .string ⟨(tname ti).toArray⟩, .string ⟨#[]⟩, .slice none 0 0, .slice none 0 0, .slice none 0 0, .slice none 0 0, .string ⟨#[]⟩, .slice none 0 0, .slice none 0 0, .slice none 0 0, .bool false, .slice none 0 0]
  rwa [World.size_alloc, World.size_alloc, World.size_alloc] at b3)
 have hs1 : ((((w.alloc (.cells #[.slice (some ⟨n + 4, 0, none⟩) 2 2, .slice none 0 0] 69)).alloc (.cells #[.string ⟨(tname ti).toArray⟩, .slice (some ⟨cb, 0, none⟩) 3 3, .slice ia il ic] 75)).alloc (.cells #[.int .i64 0, .string ⟨#[]⟩, .string ⟨#[]⟩, .slice none 0 0, .slice none 0 0, .slice none 0 0, .slice none 0 0, .string ⟨#[]⟩, .slice none 0 0, .slice none 0 0, .slice none 0 0, .bool false, .slice none 0 0] 29)).alloc (.cells #[.int .i64 6, .string ⟨(tname ti).toArray⟩, .string ⟨#[]⟩, .slice none 0 0, .slice none 0 0, .slice none 0 0, .slice none 0 0, .string ⟨#[]⟩, .slice none 0 0, .slice none 0 0, .slice none 0 0, .bool false, .slice none 0 0] 29)).heap.size = w.heap.size + 4 := by simp
 clear h hs
 go_enter Tryz.func29, Tryz.ntmps29
 go_wp2_with fail
 generalize (((w.alloc (.cells #[.slice (some ⟨n + 4, 0, none⟩) 2 2, .slice none 0 0] 69)).alloc (.cells #[.string ⟨(tname ti).toArray⟩, .slice (some ⟨cb, 0, none⟩) 3 3, .slice ia il ic] 75)).alloc (.cells #[.int .i64 0, .string ⟨#[]⟩, .string ⟨#[]⟩, .slice none 0 0, .slice none 0 0, .slice none 0 0, .slice none 0 0, .string ⟨#[]⟩, .slice none 0 0, .slice none 0 0, .slice none 0 0, .bool false, .slice none 0 0] 29)).alloc (.cells #[.int .i64 6, .string ⟨(tname ti).toArray⟩, .string ⟨#[]⟩, .slice none 0 0, .slice none 0 0, .slice none 0 0, .slice none 0 0, .string ⟨#[]⟩, .slice none 0 0, .slice none 0 0, .slice none 0 0, .bool false, .slice none 0 0] 29) = w1 at HW1 HSt1 hs1 ⊢
 refine (HCT.out w1 HW1.out.s).mono ?_
 rintro e w2 ⟨vc, vk, rfl, hc, hk, hf⟩
 have HW2 := Hd (HW1.out.call0 hf)
 have HSt2 := Hd (HSt1.out.keep hf (by simp))
 have HC2 : Hid (Ck w1.heap.size w2.heap.size w2 vc vk (tits ti) (tkinds ti)) := Hd (Ck.new hc hk)
 have hs2 := hf.size
 clear hc hk hf
 go_wp2_with fail
 refine (num_any P 4 (by decide) (by decide) w2 HW2.out.d.pk).mono ?_
 rintro e w3 ⟨r, rfl, hr, hk, hf⟩
 have HW3 := Hd (HW2.out.call hk hf)
 have HSt3 := Hd (HSt2.out.keep hf (by simp; omega))
 have HC3 := Hd (HC2.out.keep hf (fun g h1 h2 => by simp; omega))
 have hs3 := hf.size
 clear hk hf
 go_upto_if 36 with fail
 go_cut [8, 9, 10, 11, 12, 13, 14, 15, 16, 17] from 35 to 84 (fun s8 s9 s10 s11 s12 s13 s14 s15 s16 s17 wx => ∃ (b : Nat) (l : List PM.It) (ks : List Int) (jo : Option (PM.B × Cl × Cl)) (jb : ByteArray) (a8 : Option Addr) (l8 c8 : Nat), Hid (Ck w1.heap.size b wx s8 s9 l ks) /\ b <= wx.heap.size /\ Hid (OkJ jo) /\ Hid ((⟨(CM.joinN jo).toArray⟩ : ByteArray) = jb) /\ Hid (Blk wx (w.heap.size + 3) 29 [.int .i64 6, .string ⟨(tname ti).toArray⟩, .string ⟨#[]⟩, .slice none 0 0, .slice none 0 0, .slice none 0 0, .slice none 0 0, .string jb, .slice a8 l8 c8, .slice none 0 0, .slice none 0 0, .bool false, .slice none 0 0]) /\ Hid (Rep.Es 82 (fun g => w.heap.size + 3 < g) wx (CM.joinE jo) (.slice a8 l8 c8)) /\ Hid (Sw [.string ⟨(tname ti).toArray⟩, .slice (some ⟨cb, 0, none⟩) 3 3, .slice ia il ic] B M P n w wx))
 case first =>
  by_cases h0 : (r : Int) = 0
  case neg =>
   go_wp2_with fail
   go_meet
   exact ⟨w2.heap.size, _, _, none, _, none, 0, 0, HC3, hs3, Hd okJ_none, Hd rfl, HSt3, Hd Rep.Es.nil, HW3⟩
  case pos =>
   clear HCT
   rcases (by omega : ti = 0 \/ ti = 1) with rfl | rfl
   ·skip
    have t0 := HW3.out.s.l.cell 0
    have t1 := HW3.out.s.l.cell 1
    have t2 := HW3.out.s.l.cell 2
    have t3 := HW3.out.s.l.cell 3
    have t4 := HW3.out.s.l.cell 4
    have t5 := HW3.out.s.l.cell 5
    have u0 := HW3.out.sc.cell 0
    have u1 : _ = some (Value.string ⟨#[116]⟩) := HW3.out.tb.cell 0
    simp only [tabs, List.getElem?_cons_zero, List.getElem?_cons_succ] at t0 t1 t2 t3 t4 t5 u0 u1
    obtain ⟨k0, k1, k2, k3, k4, k5, k6, k7, k8, k9, k10, k11, k12, f0, f1, f2, f3, f4, f5, f6, f7, f8, f9, f10, f11, f12⟩ := c13_of HSt3.out
    have hl3 := HSt3.out.lt
    have hlt4 := HW3.out.s.l.lt
    have hlu := HW3.out.tb.lt
    have hsz3 := HW3.out.sz
    have hl0 := HW3.out.sc.lt
    have hn0 : ¬ w.heap.size = w3.heap.size := by omega
    have hn1 : ¬ (w.heap.size + 1) = w3.heap.size := by omega
    have hn3 : ¬ (w.heap.size + 3) = w3.heap.size := by omega
    have hn4 : ¬ (n + 4) = w3.heap.size := by omega
    go_wp2_with fail
    have hfa : Fr [some (w.heap.size + 1 + 1 + 1)] w3 ((w3.setCell ⟨w.heap.size + 1 + 1 + 1, 7, none⟩ (.string ⟨#[117]⟩)).alloc (.cells #[.string ⟨#[117]⟩, .slice (some ⟨n + 3, 0, none⟩) 3 3, .slice none 0 0] 75)) := (frSet (P := w.heap.size + 1 + 1 + 1) _).alloc _
    have HWa : Hid (Sw [.string ⟨(tname 0).toArray⟩, .slice (some ⟨cb, 0, none⟩) 3 3, .slice ia il ic] B M P n w ((w3.setCell ⟨w.heap.size + 1 + 1 + 1, 7, none⟩ (.string ⟨#[117]⟩)).alloc (.cells #[.string ⟨#[117]⟩, .slice (some ⟨n + 3, 0, none⟩) 3 3, .slice none 0 0] 75))) := Hd ((HW3.out.set (by omega)).alloc _)
    have HSta : Hid (Blk ((w3.setCell ⟨w.heap.size + 1 + 1 + 1, 7, none⟩ (.string ⟨#[117]⟩)).alloc (.cells #[.string ⟨#[117]⟩, .slice (some ⟨n + 3, 0, none⟩) 3 3, .slice none 0 0] 75)) (w.heap.size + 3) 29 [.int .i64 6, .string ⟨(tname 0).toArray⟩, .string ⟨#[]⟩, .slice none 0 0, .slice none 0 0, .slice none 0 0, .slice none 0 0, .string ⟨#[117]⟩, .slice none 0 0, .slice none 0 0, .slice none 0 0, .bool false, .slice none 0 0]) := Hd ((HSt3.out.set 7 (.string ⟨#[117]⟩)).alloc _)
    have HCa := Hd (HC3.out.keep hfa (fun g h1 h2 => by simp; omega))
    have hsa := hfa.size
    clear hfa t0 t1 t2 t3 t4 t5 u0 u1 k0 k1 k2 k3 k4 k5 k6 k7 k8 k9 k10 k11 k12 f0 f1 f2 f3 f4 f5 f6 f7 f8 f9 f10 f11 f12 hl3 hlt4 hlu hl0
    generalize (w3.setCell ⟨w.heap.size + 1 + 1 + 1, 7, none⟩ (.string ⟨#[117]⟩)).alloc (.cells #[.string ⟨#[117]⟩, .slice (some ⟨n + 3, 0, none⟩) 3 3, .slice none 0 0] 75) = wa at HWa HSta HCa hsa ⊢
    refine (cols_tab (i := 1) (n := n) (by decide) wa HWa.out.s).mono ?_
    rintro e w4 ⟨vc2, vk2, rfl, hc, hk, hf⟩
    have HW4 := Hd (HWa.out.call0 hf)
    have HSt4 := Hd (HSta.out.keep hf (by simp))
    have HC4 := Hd (HCa.out.keep hf (by simp))
    have hs4 := hf.size
    obtain ⟨g2, o2, c2, rfl, hrc, hgc, hgcl⟩ := flat_some hc (by rw [tits_len]; decide)
    obtain ⟨g3, o3, c3, rfl, hrk, hgk, hgkl⟩ := flat_some hk (by rw [tkinds_len]; decide)
    rw [tits_len] at hrc ⊢
    rw [tkinds_len] at hrk ⊢
    have HRC := Hd hrc
    have HRK := Hd hrk
    obtain ⟨i0, hi, hz0, hz1, hz2⟩ := info_parts' col_info
    obtain ⟨ik, ki, kz0, kz1, kz2⟩ := info_parts' int_info
    have HIT := Hd HC4.out.its.1
    have HIN := Hd HC4.out.ints.1
    rw [tits_len] at HIT
    rw [tkinds_len] at HIN
    have hvc : ∀ b, vc.ownBlock = some b -> w1.heap.size <= b := fun b hb => (HC4.out.its.2 b hb).1
    have hvk : ∀ b, vk.ownBlock = some b -> w1.heap.size <= b := fun b hb => (HC4.out.ints.2 b hb).1
    have hvcl : ∀ b, vc.ownBlock = some b -> b < w2.heap.size := fun b hb => (HC4.out.its.2 b hb).2
    have hvkl : ∀ b, vk.ownBlock = some b -> b < w2.heap.size := fun b hb => (HC4.out.ints.2 b hb).2
    have HV := Hd (And.intro hvc (And.intro hvk (And.intro hvcl hvkl)))
    clear hc hk hf hrc hrk hvc hvk hvcl hvkl
    have hmx : 3 + 3 <= maxLen := by unfold maxLen; omega
    go_wp2_with (at_builtin; refine wpList_append_row rfl _ _ 26 rfl 60 i0 (.agg #[.int .i64 0, .string ⟨#[]⟩, .string ⟨#[]⟩]) 3 40 Tryz.underlying26 hi hz0 hz1 hz2 rfl (by decide) vc 3 ((tits 0).flatMap itC) rfl HIT.out ⟨g2, o2, none⟩ 3 c2 ((tits 1).flatMap itC) rfl ?c1 (row_news HRC.out) ?c2 hmx (by decide) ?_)
    case c1 => decide
    case c2 => decide
    intro vc' w5 hr5 hf5 hb5
    have HIN5 := Hd (HIN.out.keep hf5 (fun b hb hm => by simp at hm; exact row_apart HIN.out HIT.out (by decide) b hb hm.symm))
    have HRK5 := Hd (HRK.out.keep hf5 (fun b hb hm => by simp at hm; simp only [Value.ownBlock, Option.some.injEq] at hb; have := HV.out.2.2.1 b hm.symm; omega))
    have HW5 := Hd (HW4.out.own hf5 (fun g hg => by have := HV.out.1 g hg; omega))
    have HSt5 := Hd (HSt4.out.keep hf5 (fun hm => by simp at hm; have := HV.out.1 _ hm.symm; omega))
    have HR5 := Hd hr5
    have HB5 := Hd hb5
    have hs5 := hf5.size
    clear hr5 hf5 hb5
    go_wp2_with (at_builtin; refine wpList_append_row rfl _ _ 105 rfl 3 ik (.int .i64 0) 1 8 Tryz.underlying105 ki kz0 kz1 kz2 rfl (by decide) vk 3 ((tkinds 0).flatMap intC) rfl HIN5.out ⟨g3, o3, none⟩ 3 c3 ((tkinds 1).flatMap intC) rfl ?c1 (row_news HRK5.out) ?c2 hmx (by decide) ?_)
    case c1 => decide
    case c2 => decide
    intro vk' w6 hr6 hf6 hb6
    have HR6 := Hd (HR5.out.keep hf6 (fun b hb hm => by simp at hm; exact row_apart HR5.out HIN5.out (by decide) b hb hm.symm))
    have HW6 := Hd (HW5.out.own hf6 (fun g hg => by have := HV.out.2.1 g hg; omega))
    have HSt6 := Hd (HSt5.out.keep hf6 (fun hm => by simp at hm; have := HV.out.2.1 _ hm.symm; omega))
    have hs6 := hf6.size
    have HC6 : Hid (Ck w1.heap.size w6.heap.size w6 vc' vk' (tits 0 ++ tits 1) (tkinds 0 ++ tkinds 1)) := Hd (HC4.out.app (w' := w6) tits_ok (by rw [tits_len, tkinds_len]) (by rw [tits_len, tits_len]; decide) (by omega) (by rw [tits_len, tits_len]; exact HR6.out) (by rw [tkinds_len, tkinds_len]; exact hr6) HB5.out (hb6.imp id (fun ⟨k, k1, k2⟩ => ⟨k, by omega, k2⟩)))
    clear hr6 hf6 hb6 HIT HIN HIN5 HRC HRK HRK5 HR5 HR6 HV HB5 HC4
    go_wp2_with fail
    refine (num_any P 2 (by decide) (by decide) w6 HW6.out.d.pk).mono ?_
    rintro e w7 ⟨r2, rfl, hr2, hk, hf⟩
    have HW7 := Hd (HW6.out.call hk hf)
    have HSt7 := Hd (HSt6.out.keep hf (by simp; omega))
    have HC7 := Hd ((HC6.out.keep hf (fun g h1 h2 => by simp; omega)))
    have hs7 := hf.size
    clear hk hf
    have hkf : 1 + (r2 : Int) = 1 \/ 1 + (r2 : Int) = 2 := by omega
    have HKF := Hd hkf
    clear hkf
    go_wp2_with fail
    refine (col_any P vc' vk' (tits 0 ++ tits 1) (tkinds 0 ++ tkinds 1) (1 + r2) HKF.out w7 HW7.out.d.pk (HC7.out.cols (by omega) (by omega))).mono ?_
    rintro e w8 ⟨t, nm, hcol, rfl, hk, hf⟩
    have HW8 := Hd (HW7.out.call hk hf)
    have HSt8 := Hd (HSt7.out.keep hf (by simp; omega))
    have HC8 := Hd ((HC7.out.keep hf (fun g h1 h2 => by simp; omega)))
    have hs8 := hf.size
    have HCOL := Hd hcol
    clear hk hf hcol
    unfold exC
    have HW8a := Hd (HW8.out.alloc (.cells #[.int .i64 2, .int .i64 0, .int .i64 0, .string ⟨#[]⟩, .string ⟨t.toArray⟩, .string ⟨nm.toArray⟩, .slice none 0 0] 82))
    have HSt8a := Hd (HSt8.out.alloc (.cells #[.int .i64 2, .int .i64 0, .int .i64 0, .string ⟨#[]⟩, .string ⟨t.toArray⟩, .string ⟨nm.toArray⟩, .slice none 0 0] 82))
    have HC8a := Hd (HC8.out.keep ((Fr.refl [] w8).alloc (.cells #[.int .i64 2, .int .i64 0, .int .i64 0, .string ⟨#[]⟩, .string ⟨t.toArray⟩, .string ⟨nm.toArray⟩, .slice none 0 0] 82)) (by simp))
    have HA8a := Hd (Blk.new w8 82 [.int .i64 2, .int .i64 0, .int .i64 0, .string ⟨#[]⟩, .string ⟨t.toArray⟩, .string ⟨nm.toArray⟩, .slice none 0 0])
    have hs8a : (w8.alloc (.cells #[.int .i64 2, .int .i64 0, .int .i64 0, .string ⟨#[]⟩, .string ⟨t.toArray⟩, .string ⟨nm.toArray⟩, .slice none 0 0] 82)).heap.size = w8.heap.size + 1 := by simp
    go_wp2_with fail
    generalize w8.alloc (.cells #[.int .i64 2, .int .i64 0, .int .i64 0, .string ⟨#[]⟩, .string ⟨t.toArray⟩, .string ⟨nm.toArray⟩, .slice none 0 0] 82) = wb at HW8a HSt8a HC8a HA8a hs8a ⊢
    refine (col_any P vc' vk' (tits 0 ++ tits 1) (tkinds 0 ++ tkinds 1) (1 + r2) HKF.out wb HW8a.out.d.pk (HC8a.out.cols (by omega) (by omega))).mono ?_
    rintro e w9 ⟨t2, nm2, hcol2, rfl, hk, hf⟩
    have HW9 := Hd (HW8a.out.call hk hf)
    have HSt9 := Hd (HSt8a.out.keep hf (by simp; omega))
    have HC9 := Hd (HC8a.out.keep hf (fun g h1 h2 => by simp; omega))
    have HA9 := Hd (HA8a.out.keep hf (by simp; omega))
    have hs9 := hf.size
    have HCOL2 := Hd hcol2
    clear hk hf hcol2
    unfold exC
    have HWB := Hd (HW9.out.alloc (.cells #[.int .i64 2, .int .i64 0, .int .i64 0, .string ⟨#[]⟩, .string ⟨t2.toArray⟩, .string ⟨nm2.toArray⟩, .slice none 0 0] 82))
    have HStB := Hd (HSt9.out.alloc (.cells #[.int .i64 2, .int .i64 0, .int .i64 0, .string ⟨#[]⟩, .string ⟨t2.toArray⟩, .string ⟨nm2.toArray⟩, .slice none 0 0] 82))
    have HCB := Hd (HC9.out.keep ((Fr.refl [] w9).alloc (.cells #[.int .i64 2, .int .i64 0, .int .i64 0, .string ⟨#[]⟩, .string ⟨t2.toArray⟩, .string ⟨nm2.toArray⟩, .slice none 0 0] 82)) (by simp))
    have HAB := Hd (HA9.out.alloc (.cells #[.int .i64 2, .int .i64 0, .int .i64 0, .string ⟨#[]⟩, .string ⟨t2.toArray⟩, .string ⟨nm2.toArray⟩, .slice none 0 0] 82))
    have HBB := Hd (Blk.new w9 82 [.int .i64 2, .int .i64 0, .int .i64 0, .string ⟨#[]⟩, .string ⟨t2.toArray⟩, .string ⟨nm2.toArray⟩, .slice none 0 0])
    have hsB : (w9.alloc (.cells #[.int .i64 2, .int .i64 0, .int .i64 0, .string ⟨#[]⟩, .string ⟨t2.toArray⟩, .string ⟨nm2.toArray⟩, .slice none 0 0] 82)).heap.size = w9.heap.size + 1 := by simp
    obtain ⟨ca0, ca1, ca2, ca3, ca4, ca5, ca6, cf0, cf1, cf2, cf3, cf4, cf5, cf6⟩ := c7_of HA9.out
    obtain ⟨k0, k1, k2, k3, k4, k5, k6, k7, k8, k9, k10, k11, k12, f0, f1, f2, f3, f4, f5, f6, f7, f8, f9, f10, f11, f12⟩ := c13_of HSt9.out
    have hl9 := HSt9.out.lt
    have hla := HA9.out.lt
    have hna : ¬ w8.heap.size = w9.heap.size := by omega
    have hnb : ¬ w.heap.size + 3 = w9.heap.size := by omega
    have hnc : ¬ w.heap.size + 3 = w9.heap.size + 1 := by omega
    have hnd : w.heap.size + 3 < w9.heap.size + 1 := by omega
    have hne : w.heap.size + 3 < w9.heap.size + 1 + 1 := by omega
    have HWE : Hid (Sw [.string ⟨(tname 0).toArray⟩, .slice (some ⟨cb, 0, none⟩) 3 3, .slice ia il ic] B M P n w (((w9.setCell ⟨w.heap.size + 3, 8, none⟩ (.slice (some ⟨w9.heap.size + 1, 0, none⟩) 2 2)).alloc (.cells #[.int .i64 2, .int .i64 0, .int .i64 0, .string ⟨#[]⟩, .string ⟨t2.toArray⟩, .string ⟨nm2.toArray⟩, .slice none 0 0] 82)).alloc (.cells #[.int .i64 2, .int .i64 0, .int .i64 0, .string ⟨#[]⟩, .string ⟨t.toArray⟩, .string ⟨nm.toArray⟩, .slice none 0 0, .int .i64 2, .int .i64 0, .int .i64 0, .string ⟨#[]⟩, .string ⟨t2.toArray⟩, .string ⟨nm2.toArray⟩, .slice none 0 0] 82))) := Hd (((HW9.out.set (by omega)).alloc _).alloc _)
    have HStE : Hid (Blk (((w9.setCell ⟨w.heap.size + 3, 8, none⟩ (.slice (some ⟨w9.heap.size + 1, 0, none⟩) 2 2)).alloc (.cells #[.int .i64 2, .int .i64 0, .int .i64 0, .string ⟨#[]⟩, .string ⟨t2.toArray⟩, .string ⟨nm2.toArray⟩, .slice none 0 0] 82)).alloc (.cells #[.int .i64 2, .int .i64 0, .int .i64 0, .string ⟨#[]⟩, .string ⟨t.toArray⟩, .string ⟨nm.toArray⟩, .slice none 0 0, .int .i64 2, .int .i64 0, .int .i64 0, .string ⟨#[]⟩, .string ⟨t2.toArray⟩, .string ⟨nm2.toArray⟩, .slice none 0 0] 82)) (w.heap.size + 3) 29 [.int .i64 6, .string ⟨(tname 0).toArray⟩, .string ⟨#[]⟩, .slice none 0 0, .slice none 0 0, .slice none 0 0, .slice none 0 0, .string ⟨#[117]⟩, (.slice (some ⟨w9.heap.size + 1, 0, none⟩) 2 2), .slice none 0 0, .slice none 0 0, .bool false, .slice none 0 0]) := Hd (((HSt9.out.set 8 (.slice (some ⟨w9.heap.size + 1, 0, none⟩) 2 2)).alloc _).alloc _)
    have HCE := Hd (HC9.out.keep (((frSet (P := w.heap.size + 3) (i := 8) (.slice (some ⟨w9.heap.size + 1, 0, none⟩) 2 2)).alloc (.cells #[.int .i64 2, .int .i64 0, .int .i64 0, .string ⟨#[]⟩, .string ⟨t2.toArray⟩, .string ⟨nm2.toArray⟩, .slice none 0 0] 82)).alloc (.cells #[.int .i64 2, .int .i64 0, .int .i64 0, .string ⟨#[]⟩, .string ⟨t.toArray⟩, .string ⟨nm.toArray⟩, .slice none 0 0, .int .i64 2, .int .i64 0, .int .i64 0, .string ⟨#[]⟩, .string ⟨t2.toArray⟩, .string ⟨nm2.toArray⟩, .slice none 0 0] 82)) (fun g h1 h2 => by simp; omega))
    have HEsE : Hid (Rep.Es 82 (fun g => w.heap.size + 3 < g) (((w9.setCell ⟨w.heap.size + 3, 8, none⟩ (.slice (some ⟨w9.heap.size + 1, 0, none⟩) 2 2)).alloc (.cells #[.int .i64 2, .int .i64 0, .int .i64 0, .string ⟨#[]⟩, .string ⟨t2.toArray⟩, .string ⟨nm2.toArray⟩, .slice none 0 0] 82)).alloc (.cells #[.int .i64 2, .int .i64 0, .int .i64 0, .string ⟨#[]⟩, .string ⟨t.toArray⟩, .string ⟨nm.toArray⟩, .slice none 0 0, .int .i64 2, .int .i64 0, .int .i64 0, .string ⟨#[]⟩, .string ⟨t2.toArray⟩, .string ⟨nm2.toArray⟩, .slice none 0 0] 82)) (CM.joinE (some (tname 1, clOf t nm, clOf t2 nm2))) (.slice (some ⟨w9.heap.size + 1, 0, none⟩) 2 2)) := Hd (by
     have hq := es_new (A := fun g => w.heap.size + 3 < g) (Rep.L.cons _ _ _ _ (cl_rep (fun g => w.heap.size + 3 < g) ((w9.setCell ⟨w.heap.size + 3, 8, none⟩ (.slice (some ⟨w9.heap.size + 1, 0, none⟩) 2 2)).alloc (.cells #[.int .i64 2, .int .i64 0, .int .i64 0, .string ⟨#[]⟩, .string ⟨t2.toArray⟩, .string ⟨nm2.toArray⟩, .slice none 0 0] 82)) t nm) (Rep.L.cons _ _ _ _ (cl_rep (fun g => w.heap.size + 3 < g) ((w9.setCell ⟨w.heap.size + 3, 8, none⟩ (.slice (some ⟨w9.heap.size + 1, 0, none⟩) 2 2)).alloc (.cells #[.int .i64 2, .int .i64 0, .int .i64 0, .string ⟨#[]⟩, .string ⟨t2.toArray⟩, .string ⟨nm2.toArray⟩, .slice none 0 0] 82)) t2 nm2) .nil)) (by simp; omega) (by simp [maxLen])
     rw [World.size_alloc, World.size_setCell] at hq
     exact hq)
    have hsE : w6.heap.size <= (((w9.setCell ⟨w.heap.size + 3, 8, none⟩ (.slice (some ⟨w9.heap.size + 1, 0, none⟩) 2 2)).alloc (.cells #[.int .i64 2, .int .i64 0, .int .i64 0, .string ⟨#[]⟩, .string ⟨t2.toArray⟩, .string ⟨nm2.toArray⟩, .slice none 0 0] 82)).alloc (.cells #[.int .i64 2, .int .i64 0, .int .i64 0, .string ⟨#[]⟩, .string ⟨t.toArray⟩, .string ⟨nm.toArray⟩, .slice none 0 0, .int .i64 2, .int .i64 0, .int .i64 0, .string ⟨#[]⟩, .string ⟨t2.toArray⟩, .string ⟨nm2.toArray⟩, .slice none 0 0] 82)).heap.size := by simp; omega
    go_wp2_with fail
    go_meet
    exact ⟨w6.heap.size, _, _, some (tname 1, clOf t nm, clOf t2 nm2), _, _, 2, 2, HCE, hsE, Hd (okJ_some (tname_ok 1) HCOL.out HCOL2.out), Hd rfl, HStE, HEsE, HWE⟩
   ·skip
    have t0 := HW3.out.s.l.cell 0
    have t1 := HW3.out.s.l.cell 1
    have t2 := HW3.out.s.l.cell 2
    have t3 := HW3.out.s.l.cell 3
    have t4 := HW3.out.s.l.cell 4
    have t5 := HW3.out.s.l.cell 5
    have u0 := HW3.out.sc.cell 0
    have u1 : _ = some (Value.string ⟨#[117]⟩) := HW3.out.tb.cell 0
    simp only [tabs, List.getElem?_cons_zero, List.getElem?_cons_succ] at t0 t1 t2 t3 t4 t5 u0 u1
    obtain ⟨k0, k1, k2, k3, k4, k5, k6, k7, k8, k9, k10, k11, k12, f0, f1, f2, f3, f4, f5, f6, f7, f8, f9, f10, f11, f12⟩ := c13_of HSt3.out
    have hl3 := HSt3.out.lt
    have hlt4 := HW3.out.s.l.lt
    have hlu := HW3.out.tb.lt
    have hsz3 := HW3.out.sz
    have hl0 := HW3.out.sc.lt
    have hn0 : ¬ w.heap.size = w3.heap.size := by omega
    have hn1 : ¬ (w.heap.size + 1) = w3.heap.size := by omega
    have hn3 : ¬ (w.heap.size + 3) = w3.heap.size := by omega
    have hn4 : ¬ (n + 4) = w3.heap.size := by omega
    go_wp2_with fail
    have hfa : Fr [some (w.heap.size + 1 + 1 + 1)] w3 ((w3.setCell ⟨w.heap.size + 1 + 1 + 1, 7, none⟩ (.string ⟨#[116]⟩)).alloc (.cells #[.string ⟨#[116]⟩, .slice (some ⟨n + 1, 0, none⟩) 3 3, .slice (some ⟨n + 2, 0, none⟩) 1 1] 75)) := (frSet (P := w.heap.size + 1 + 1 + 1) _).alloc _
    have HWa : Hid (Sw [.string ⟨(tname 1).toArray⟩, .slice (some ⟨cb, 0, none⟩) 3 3, .slice ia il ic] B M P n w ((w3.setCell ⟨w.heap.size + 1 + 1 + 1, 7, none⟩ (.string ⟨#[116]⟩)).alloc (.cells #[.string ⟨#[116]⟩, .slice (some ⟨n + 1, 0, none⟩) 3 3, .slice (some ⟨n + 2, 0, none⟩) 1 1] 75))) := Hd ((HW3.out.set (by omega)).alloc _)
    have HSta : Hid (Blk ((w3.setCell ⟨w.heap.size + 1 + 1 + 1, 7, none⟩ (.string ⟨#[116]⟩)).alloc (.cells #[.string ⟨#[116]⟩, .slice (some ⟨n + 1, 0, none⟩) 3 3, .slice (some ⟨n + 2, 0, none⟩) 1 1] 75)) (w.heap.size + 3) 29 [.int .i64 6, .string ⟨(tname 1).toArray⟩, .string ⟨#[]⟩, .slice none 0 0, .slice none 0 0, .slice none 0 0, .slice none 0 0, .string ⟨#[116]⟩, .slice none 0 0, .slice none 0 0, .slice none 0 0, .bool false, .slice none 0 0]) := Hd ((HSt3.out.set 7 (.string ⟨#[116]⟩)).alloc _)
    have HCa := Hd (HC3.out.keep hfa (fun g h1 h2 => by simp; omega))
    have hsa := hfa.size
    clear hfa t0 t1 t2 t3 t4 t5 u0 u1 k0 k1 k2 k3 k4 k5 k6 k7 k8 k9 k10 k11 k12 f0 f1 f2 f3 f4 f5 f6 f7 f8 f9 f10 f11 f12 hl3 hlt4 hlu hl0
    generalize (w3.setCell ⟨w.heap.size + 1 + 1 + 1, 7, none⟩ (.string ⟨#[116]⟩)).alloc (.cells #[.string ⟨#[116]⟩, .slice (some ⟨n + 1, 0, none⟩) 3 3, .slice (some ⟨n + 2, 0, none⟩) 1 1] 75) = wa at HWa HSta HCa hsa ⊢
    refine (cols_tab (i := 0) (n := n) (by decide) wa HWa.out.s).mono ?_
    rintro e w4 ⟨vc2, vk2, rfl, hc, hk, hf⟩
    have HW4 := Hd (HWa.out.call0 hf)
    have HSt4 := Hd (HSta.out.keep hf (by simp))
    have HC4 := Hd (HCa.out.keep hf (by simp))
    have hs4 := hf.size
    obtain ⟨g2, o2, c2, rfl, hrc, hgc, hgcl⟩ := flat_some hc (by rw [tits_len]; decide)
    obtain ⟨g3, o3, c3, rfl, hrk, hgk, hgkl⟩ := flat_some hk (by rw [tkinds_len]; decide)
    rw [tits_len] at hrc ⊢
    rw [tkinds_len] at hrk ⊢
    have HRC := Hd hrc
    have HRK := Hd hrk
    obtain ⟨i0, hi, hz0, hz1, hz2⟩ := info_parts' col_info
    obtain ⟨ik, ki, kz0, kz1, kz2⟩ := info_parts' int_info
    have HIT := Hd HC4.out.its.1
    have HIN := Hd HC4.out.ints.1
    rw [tits_len] at HIT
    rw [tkinds_len] at HIN
    have hvc : ∀ b, vc.ownBlock = some b -> w1.heap.size <= b := fun b hb => (HC4.out.its.2 b hb).1
    have hvk : ∀ b, vk.ownBlock = some b -> w1.heap.size <= b := fun b hb => (HC4.out.ints.2 b hb).1
    have hvcl : ∀ b, vc.ownBlock = some b -> b < w2.heap.size := fun b hb => (HC4.out.its.2 b hb).2
    have hvkl : ∀ b, vk.ownBlock = some b -> b < w2.heap.size := fun b hb => (HC4.out.ints.2 b hb).2
    have HV := Hd (And.intro hvc (And.intro hvk (And.intro hvcl hvkl)))
    clear hc hk hf hrc hrk hvc hvk hvcl hvkl
    have hmx : 3 + 3 <= maxLen := by unfold maxLen; omega
    go_wp2_with (at_builtin; refine wpList_append_row rfl _ _ 26 rfl 60 i0 (.agg #[.int .i64 0, .string ⟨#[]⟩, .string ⟨#[]⟩]) 3 40 Tryz.underlying26 hi hz0 hz1 hz2 rfl (by decide) vc 3 ((tits 1).flatMap itC) rfl HIT.out ⟨g2, o2, none⟩ 3 c2 ((tits 0).flatMap itC) rfl ?c1 (row_news HRC.out) ?c2 hmx (by decide) ?_)
    case c1 => decide
    case c2 => decide
    intro vc' w5 hr5 hf5 hb5
    have HIN5 := Hd (HIN.out.keep hf5 (fun b hb hm => by simp at hm; exact row_apart HIN.out HIT.out (by decide) b hb hm.symm))
    have HRK5 := Hd (HRK.out.keep hf5 (fun b hb hm => by simp at hm; simp only [Value.ownBlock, Option.some.injEq] at hb; have := HV.out.2.2.1 b hm.symm; omega))
    have HW5 := Hd (HW4.out.own hf5 (fun g hg => by have := HV.out.1 g hg; omega))
    have HSt5 := Hd (HSt4.out.keep hf5 (fun hm => by simp at hm; have := HV.out.1 _ hm.symm; omega))
    have HR5 := Hd hr5
    have HB5 := Hd hb5
    have hs5 := hf5.size
    clear hr5 hf5 hb5
    go_wp2_with (at_builtin; refine wpList_append_row rfl _ _ 105 rfl 3 ik (.int .i64 0) 1 8 Tryz.underlying105 ki kz0 kz1 kz2 rfl (by decide) vk 3 ((tkinds 1).flatMap intC) rfl HIN5.out ⟨g3, o3, none⟩ 3 c3 ((tkinds 0).flatMap intC) rfl ?c1 (row_news HRK5.out) ?c2 hmx (by decide) ?_)
    case c1 => decide
    case c2 => decide
    intro vk' w6 hr6 hf6 hb6
    have HR6 := Hd (HR5.out.keep hf6 (fun b hb hm => by simp at hm; exact row_apart HR5.out HIN5.out (by decide) b hb hm.symm))
    have HW6 := Hd (HW5.out.own hf6 (fun g hg => by have := HV.out.2.1 g hg; omega))
    have HSt6 := Hd (HSt5.out.keep hf6 (fun hm => by simp at hm; have := HV.out.2.1 _ hm.symm; omega))
    have hs6 := hf6.size
    have HC6 : Hid (Ck w1.heap.size w6.heap.size w6 vc' vk' (tits 1 ++ tits 0) (tkinds 1 ++ tkinds 0)) := Hd (HC4.out.app (w' := w6) tits_ok (by rw [tits_len, tkinds_len]) (by rw [tits_len, tits_len]; decide) (by omega) (by rw [tits_len, tits_len]; exact HR6.out) (by rw [tkinds_len, tkinds_len]; exact hr6) HB5.out (hb6.imp id (fun ⟨k, k1, k2⟩ => ⟨k, by omega, k2⟩)))
    clear hr6 hf6 hb6 HIT HIN HIN5 HRC HRK HRK5 HR5 HR6 HV HB5 HC4
    go_wp2_with fail
    refine (num_any P 2 (by decide) (by decide) w6 HW6.out.d.pk).mono ?_
    rintro e w7 ⟨r2, rfl, hr2, hk, hf⟩
    have HW7 := Hd (HW6.out.call hk hf)
    have HSt7 := Hd (HSt6.out.keep hf (by simp; omega))
    have HC7 := Hd ((HC6.out.keep hf (fun g h1 h2 => by simp; omega)))
    have hs7 := hf.size
    clear hk hf
    have hkf : 1 + (r2 : Int) = 1 \/ 1 + (r2 : Int) = 2 := by omega
    have HKF := Hd hkf
    clear hkf
    go_wp2_with fail
    refine (col_any P vc' vk' (tits 1 ++ tits 0) (tkinds 1 ++ tkinds 0) (1 + r2) HKF.out w7 HW7.out.d.pk (HC7.out.cols (by omega) (by omega))).mono ?_
    rintro e w8 ⟨t, nm, hcol, rfl, hk, hf⟩
    have HW8 := Hd (HW7.out.call hk hf)
    have HSt8 := Hd (HSt7.out.keep hf (by simp; omega))
    have HC8 := Hd ((HC7.out.keep hf (fun g h1 h2 => by simp; omega)))
    have hs8 := hf.size
    have HCOL := Hd hcol
    clear hk hf hcol
    unfold exC
    have HW8a := Hd (HW8.out.alloc (.cells #[.int .i64 2, .int .i64 0, .int .i64 0, .string ⟨#[]⟩, .string ⟨t.toArray⟩, .string ⟨nm.toArray⟩, .slice none 0 0] 82))
    have HSt8a := Hd (HSt8.out.alloc (.cells #[.int .i64 2, .int .i64 0, .int .i64 0, .string ⟨#[]⟩, .string ⟨t.toArray⟩, .string ⟨nm.toArray⟩, .slice none 0 0] 82))
    have HC8a := Hd (HC8.out.keep ((Fr.refl [] w8).alloc (.cells #[.int .i64 2, .int .i64 0, .int .i64 0, .string ⟨#[]⟩, .string ⟨t.toArray⟩, .string ⟨nm.toArray⟩, .slice none 0 0] 82)) (by simp))
    have HA8a := Hd (Blk.new w8 82 [.int .i64 2, .int .i64 0, .int .i64 0, .string ⟨#[]⟩, .string ⟨t.toArray⟩, .string ⟨nm.toArray⟩, .slice none 0 0])
    have hs8a : (w8.alloc (.cells #[.int .i64 2, .int .i64 0, .int .i64 0, .string ⟨#[]⟩, .string ⟨t.toArray⟩, .string ⟨nm.toArray⟩, .slice none 0 0] 82)).heap.size = w8.heap.size + 1 := by simp
    go_wp2_with fail
    generalize w8.alloc (.cells #[.int .i64 2, .int .i64 0, .int .i64 0, .string ⟨#[]⟩, .string ⟨t.toArray⟩, .string ⟨nm.toArray⟩, .slice none 0 0] 82) = wb at HW8a HSt8a HC8a HA8a hs8a ⊢
    refine (col_any P vc' vk' (tits 1 ++ tits 0) (tkinds 1 ++ tkinds 0) (1 + r2) HKF.out wb HW8a.out.d.pk (HC8a.out.cols (by omega) (by omega))).mono ?_
    rintro e w9 ⟨t2, nm2, hcol2, rfl, hk, hf⟩
    have HW9 := Hd (HW8a.out.call hk hf)
    have HSt9 := Hd (HSt8a.out.keep hf (by simp; omega))
    have HC9 := Hd (HC8a.out.keep hf (fun g h1 h2 => by simp; omega))
    have HA9 := Hd (HA8a.out.keep hf (by simp; omega))
    have hs9 := hf.size
    have HCOL2 := Hd hcol2
    clear hk hf hcol2
    unfold exC
    have HWB := Hd (HW9.out.alloc (.cells #[.int .i64 2, .int .i64 0, .int .i64 0, .string ⟨#[]⟩, .string ⟨t2.toArray⟩, .string ⟨nm2.toArray⟩, .slice none 0 0] 82))
    have HStB := Hd (HSt9.out.alloc (.cells #[.int .i64 2, .int .i64 0, .int .i64 0, .string ⟨#[]⟩, .string ⟨t2.toArray⟩, .string ⟨nm2.toArray⟩, .slice none 0 0] 82))
    have HCB := Hd (HC9.out.keep ((Fr.refl [] w9).alloc (.cells #[.int .i64 2, .int .i64 0, .int .i64 0, .string ⟨#[]⟩, .string ⟨t2.toArray⟩, .string ⟨nm2.toArray⟩, .slice none 0 0] 82)) (by simp))
    have HAB := Hd (HA9.out.alloc (.cells #[.int .i64 2, .int .i64 0, .int .i64 0, .string ⟨#[]⟩, .string ⟨t2.toArray⟩, .string ⟨nm2.toArray⟩, .slice none 0 0] 82))
    have HBB := Hd (Blk.new w9 82 [.int .i64 2, .int .i64 0, .int .i64 0, .string ⟨#[]⟩, .string ⟨t2.toArray⟩, .string ⟨nm2.toArray⟩, .slice none 0 0])
    have hsB : (w9.alloc (.cells #[.int .i64 2, .int .i64 0, .int .i64 0, .string ⟨#[]⟩, .string ⟨t2.toArray⟩, .string ⟨nm2.toArray⟩, .slice none 0 0] 82)).heap.size = w9.heap.size + 1 := by simp
    obtain ⟨ca0, ca1, ca2, ca3, ca4, ca5, ca6, cf0, cf1, cf2, cf3, cf4, cf5, cf6⟩ := c7_of HA9.out
    obtain ⟨k0, k1, k2, k3, k4, k5, k6, k7, k8, k9, k10, k11, k12, f0, f1, f2, f3, f4, f5, f6, f7, f8, f9, f10, f11, f12⟩ := c13_of HSt9.out
    have hl9 := HSt9.out.lt
    have hla := HA9.out.lt
    have hna : ¬ w8.heap.size = w9.heap.size := by omega
    have hnb : ¬ w.heap.size + 3 = w9.heap.size := by omega
    have hnc : ¬ w.heap.size + 3 = w9.heap.size + 1 := by omega
    have hnd : w.heap.size + 3 < w9.heap.size + 1 := by omega
    have hne : w.heap.size + 3 < w9.heap.size + 1 + 1 := by omega
    have HWE : Hid (Sw [.string ⟨(tname 1).toArray⟩, .slice (some ⟨cb, 0, none⟩) 3 3, .slice ia il ic] B M P n w (((w9.setCell ⟨w.heap.size + 3, 8, none⟩ (.slice (some ⟨w9.heap.size + 1, 0, none⟩) 2 2)).alloc (.cells #[.int .i64 2, .int .i64 0, .int .i64 0, .string ⟨#[]⟩, .string ⟨t2.toArray⟩, .string ⟨nm2.toArray⟩, .slice none 0 0] 82)).alloc (.cells #[.int .i64 2, .int .i64 0, .int .i64 0, .string ⟨#[]⟩, .string ⟨t.toArray⟩, .string ⟨nm.toArray⟩, .slice none 0 0, .int .i64 2, .int .i64 0, .int .i64 0, .string ⟨#[]⟩, .string ⟨t2.toArray⟩, .string ⟨nm2.toArray⟩, .slice none 0 0] 82))) := Hd (((HW9.out.set (by omega)).alloc _).alloc _)
    have HStE : Hid (Blk (((w9.setCell ⟨w.heap.size + 3, 8, none⟩ (.slice (some ⟨w9.heap.size + 1, 0, none⟩) 2 2)).alloc (.cells #[.int .i64 2, .int .i64 0, .int .i64 0, .string ⟨#[]⟩, .string ⟨t2.toArray⟩, .string ⟨nm2.toArray⟩, .slice none 0 0] 82)).alloc (.cells #[.int .i64 2, .int .i64 0, .int .i64 0, .string ⟨#[]⟩, .string ⟨t.toArray⟩, .string ⟨nm.toArray⟩, .slice none 0 0, .int .i64 2, .int .i64 0, .int .i64 0, .string ⟨#[]⟩, .string ⟨t2.toArray⟩, .string ⟨nm2.toArray⟩, .slice none 0 0] 82)) (w.heap.size + 3) 29 [.int .i64 6, .string ⟨(tname 1).toArray⟩, .string ⟨#[]⟩, .slice none 0 0, .slice none 0 0, .slice none 0 0, .slice none 0 0, .string ⟨#[116]⟩, (.slice (some ⟨w9.heap.size + 1, 0, none⟩) 2 2), .slice none 0 0, .slice none 0 0, .bool false, .slice none 0 0]) := Hd (((HSt9.out.set 8 (.slice (some ⟨w9.heap.size + 1, 0, none⟩) 2 2)).alloc _).alloc _)
    have HCE := Hd (HC9.out.keep (((frSet (P := w.heap.size + 3) (i := 8) (.slice (some ⟨w9.heap.size + 1, 0, none⟩) 2 2)).alloc (.cells #[.int .i64 2, .int .i64 0, .int .i64 0, .string ⟨#[]⟩, .string ⟨t2.toArray⟩, .string ⟨nm2.toArray⟩, .slice none 0 0] 82)).alloc (.cells #[.int .i64 2, .int .i64 0, .int .i64 0, .string ⟨#[]⟩, .string ⟨t.toArray⟩, .string ⟨nm.toArray⟩, .slice none 0 0, .int .i64 2, .int .i64 0, .int .i64 0, .string ⟨#[]⟩, .string ⟨t2.toArray⟩, .string ⟨nm2.toArray⟩, .slice none 0 0] 82)) (fun g h1 h2 => by simp; omega))
    have HEsE : Hid (Rep.Es 82 (fun g => w.heap.size + 3 < g) (((w9.setCell ⟨w.heap.size + 3, 8, none⟩ (.slice (some ⟨w9.heap.size + 1, 0, none⟩) 2 2)).alloc (.cells #[.int .i64 2, .int .i64 0, .int .i64 0, .string ⟨#[]⟩, .string ⟨t2.toArray⟩, .string ⟨nm2.toArray⟩, .slice none 0 0] 82)).alloc (.cells #[.int .i64 2, .int .i64 0, .int .i64 0, .string ⟨#[]⟩, .string ⟨t.toArray⟩, .string ⟨nm.toArray⟩, .slice none 0 0, .int .i64 2, .int .i64 0, .int .i64 0, .string ⟨#[]⟩, .string ⟨t2.toArray⟩, .string ⟨nm2.toArray⟩, .slice none 0 0] 82)) (CM.joinE (some (tname 0, clOf t nm, clOf t2 nm2))) (.slice (some ⟨w9.heap.size + 1, 0, none⟩) 2 2)) := Hd (by
     have hq := es_new (A := fun g => w.heap.size + 3 < g) (Rep.L.cons _ _ _ _ (cl_rep (fun g => w.heap.size + 3 < g) ((w9.setCell ⟨w.heap.size + 3, 8, none⟩ (.slice (some ⟨w9.heap.size + 1, 0, none⟩) 2 2)).alloc (.cells #[.int .i64 2, .int .i64 0, .int .i64 0, .string ⟨#[]⟩, .string ⟨t2.toArray⟩, .string ⟨nm2.toArray⟩, .slice none 0 0] 82)) t nm) (Rep.L.cons _ _ _ _ (cl_rep (fun g => w.heap.size + 3 < g) ((w9.setCell ⟨w.heap.size + 3, 8, none⟩ (.slice (some ⟨w9.heap.size + 1, 0, none⟩) 2 2)).alloc (.cells #[.int .i64 2, .int .i64 0, .int .i64 0, .string ⟨#[]⟩, .string ⟨t2.toArray⟩, .string ⟨nm2.toArray⟩, .slice none 0 0] 82)) t2 nm2) .nil)) (by simp; omega) (by simp [maxLen])
     rw [World.size_alloc, World.size_setCell] at hq
     exact hq)
    have hsE : w6.heap.size <= (((w9.setCell ⟨w.heap.size + 3, 8, none⟩ (.slice (some ⟨w9.heap.size + 1, 0, none⟩) 2 2)).alloc (.cells #[.int .i64 2, .int .i64 0, .int .i64 0, .string ⟨#[]⟩, .string ⟨t2.toArray⟩, .string ⟨nm2.toArray⟩, .slice none 0 0] 82)).alloc (.cells #[.int .i64 2, .int .i64 0, .int .i64 0, .string ⟨#[]⟩, .string ⟨t.toArray⟩, .string ⟨nm.toArray⟩, .slice none 0 0, .int .i64 2, .int .i64 0, .int .i64 0, .string ⟨#[]⟩, .string ⟨t2.toArray⟩, .string ⟨nm2.toArray⟩, .slice none 0 0] 82)).heap.size := by simp; omega
    go_wp2_with fail
    go_meet
    exact ⟨w6.heap.size, _, _, some (tname 0, clOf t nm, clOf t2 nm2), _, _, 2, 2, HCE, hsE, Hd (okJ_some (tname_ok 0) HCOL.out HCOL2.out), Hd rfl, HStE, HEsE, HWE⟩
 case rest =>
  obtain ⟨b, l, ks, jo, jb, a8, l8, c8, HC, hb, HJ, HJB, HSt, HEs, HW⟩ := hcut
  have hlSt := HSt.out.lt
  go_wp2_with fail
  refine (where_gen P u8 u9 l ks wc HW.out.d.pk (HC.out.cols (by omega) hb)).mono ?_
  rintro e w4 ⟨wo, v, rfl, hwo, hE, hk, hf⟩
  obtain ⟨a9, l9, c9, rfl⟩ : ∃ a n c, v = .slice a n c := by obtain ⟨a, c, h, _⟩ := Sx.es_form hE; exact ⟨a, _, c, h⟩
  have HOW := Hd hwo
  have hs4 := hf.size
  obtain ⟨b6, hb6⟩ : ∃ z, z = w4.heap.size := ⟨_, rfl⟩
  have x1 := HW.out.call hk hf
  have x2 := (HC.out.keep hf (fun g h1 h2 => by simp; omega)).wide (c1 := b6) (by omega)
  have x3 := Rep.Es.keep hf (fun g hg => by simp; omega) (Rep.Es.live HEs.out)
  have x3 := Rep.Es.mono (A' := fun g => w.heap.size + 3 < g /\ g < b6) (fun g hg => ⟨hg.1, by omega⟩) x3
  have x4 := Rep.Es.mono (A' := fun g => w.heap.size + 3 < g /\ g < b6) (fun g hg => ⟨by omega, by omega⟩) (Rep.Es.live hE)
  have HX4 : Hid (Sr [.string ⟨(tname ti).toArray⟩, .slice (some ⟨cb, 0, none⟩) 3 3, .slice ia il ic] B M P n w1.heap.size b6 w u8 u9 l ks jo wo (.slice a8 l8 c8) (.slice a9 l9 c9) (.slice none 0 0) [] w4) := Hd ⟨x1, x2, x3, x4, .nil, by omega, by omega, by omega⟩
  clear x1 x2 x3 x4
  have HSt4 := Hd (HSt.out.keep hf (by simp; omega))
  clear hwo hE hk hf HC HEs HSt HW
  obtain ⟨k0, k1, k2, k3, k4, k5, k6, k7, k8, k9, k10, k11, k12, f0, f1, f2, f3, f4, f5, f6, f7, f8, f9, f10, f11, f12⟩ := c13_of HSt4.out
  have hlS := HSt4.out.lt
  have hn3 : ¬ w.heap.size + 3 = w4.heap.size := by omega
  go_wp2_with fail
  have HX4a : Hid (Sr [.string ⟨(tname ti).toArray⟩, .slice (some ⟨cb, 0, none⟩) 3 3, .slice ia il ic] B M P n w1.heap.size b6 w u8 u9 l ks jo wo (.slice a8 l8 c8) (.slice a9 l9 c9) (.slice none 0 0) [] (w4.setCell ⟨w.heap.size + 1 + 1 + 1, 9, none⟩ (.slice a9 l9 c9))) := Hd HX4.out.set
  have HSt4a : Hid (Blk (w4.setCell ⟨w.heap.size + 1 + 1 + 1, 9, none⟩ (.slice a9 l9 c9)) (w.heap.size + 3) 29 [.int .i64 6, .string ⟨(tname ti).toArray⟩, .string ⟨#[]⟩, .slice none 0 0, .slice none 0 0, .slice none 0 0, .slice none 0 0, .string jb, .slice a8 l8 c8, .slice a9 l9 c9, .slice none 0 0, .bool false, .slice none 0 0]) := Hd (HSt4.out.set 9 (.slice a9 l9 c9))
  have hs4a : w4.heap.size = (w4.setCell ⟨w.heap.size + 1 + 1 + 1, 9, none⟩ (.slice a9 l9 c9)).heap.size := by simp
  clear k0 k1 k2 k3 k4 k5 k6 k7 k8 k9 k10 k11 k12 f0 f1 f2 f3 f4 f5 f6 f7 f8 f9 f10 f11 f12
  generalize w4.setCell ⟨w.heap.size + 1 + 1 + 1, 9, none⟩ (.slice a9 l9 c9) = w5 at HX4a HSt4a hs4a ⊢
  have HX5 := HX4a
  have HSt5 := HSt4a
  clear HX4 HSt4 HX4a HSt4a
  refine (num_any P 4 (by decide) (by decide) w5 HX5.out.sw.d.pk).mono ?_
  rintro e w6 ⟨r4, rfl, hr4, hk, hf⟩
  have HX6 := Hd (HX5.out.call hk hf)
  have HSt6 := Hd (HSt5.out.keep hf (by simp; omega))
  have hs6 := hf.size
  clear hk hf
  go_upto_block 0 with fail
  go_cut [18, 19, 20, 21, 22, 23] from 91 to 151 (fun s18 s19 s20 s21 s22 s23 wx => ∃ (its : List Im) (a6 : Option Addr) (l6 c6 : Nat), Hid (OkI its) /\ Hid (Blk wx (w.heap.size + 3) 29 [.int .i64 6, .string ⟨(tname ti).toArray⟩, .string ⟨#[]⟩, .slice none 0 0, .slice none 0 0, .slice none 0 0, .slice a6 l6 c6, .string jb, .slice a8 l8 c8, .slice a9 l9 c9, .slice none 0 0, .bool false, .slice none 0 0]) /\ Hid (Sr [.string ⟨(tname ti).toArray⟩, .slice (some ⟨cb, 0, none⟩) 3 3, .slice ia il ic] B M P n w1.heap.size b6 w u8 u9 l ks jo wo (.slice a8 l8 c8) (.slice a9 l9 c9) (.slice a6 l6 c6) its wx))
  case first =>
   by_cases h0 : (r4 : Int) = 0
   case pos =>
    obtain ⟨k0, k1, k2, k3, k4, k5, k6, k7, k8, k9, k10, k11, k12, f0, f1, f2, f3, f4, f5, f6, f7, f8, f9, f10, f11, f12⟩ := c13_of HSt6.out
    have hlS := HSt6.out.lt
    have hn3 : ¬ w.heap.size + 3 = w6.heap.size := by omega
    go_wp2_with fail
    have HSt7 : Hid (Blk ((w6.setCell ⟨w.heap.size + 1 + 1 + 1, 6, none⟩ (.slice (some ⟨w6.heap.size, 0, none⟩) 1 1)).alloc (.cells #[.int .i64 1, .string ⟨#[]⟩, .string ⟨#[]⟩] 60)) (w.heap.size + 3) 29 [.int .i64 6, .string ⟨(tname ti).toArray⟩, .string ⟨#[]⟩, .slice none 0 0, .slice none 0 0, .slice none 0 0, (.slice (some ⟨w6.heap.size, 0, none⟩) 1 1), .string jb, .slice a8 l8 c8, .slice a9 l9 c9, .slice none 0 0, .bool false, .slice none 0 0]) := Hd ((HSt6.out.set 6 (.slice (some ⟨w6.heap.size, 0, none⟩) 1 1)).alloc _)
    have HX7 : Hid (Sr [.string ⟨(tname ti).toArray⟩, .slice (some ⟨cb, 0, none⟩) 3 3, .slice ia il ic] B M P n w1.heap.size b6 w u8 u9 l ks jo wo (.slice a8 l8 c8) (.slice a9 l9 c9) (.slice (some ⟨w6.heap.size, 0, none⟩) 1 1) [.count] ((w6.setCell ⟨w.heap.size + 1 + 1 + 1, 6, none⟩ (.slice (some ⟨w6.heap.size, 0, none⟩) 1 1)).alloc (.cells #[.int .i64 1, .string ⟨#[]⟩, .string ⟨#[]⟩] 60))) := Hd ((HX6.out.set.alloc _).new (by
     have hq := its_new (x := ⟨1, [], []⟩) (Blk.new (w6.setCell ⟨w.heap.size + 1 + 1 + 1, 6, none⟩ (.slice (some ⟨w6.heap.size, 0, none⟩) 1 1)) 60 (itC ⟨1, [], []⟩))
     rw [World.size_setCell] at hq
     exact hq.mono (fun g hg => by omega)))
    clear k0 k1 k2 k3 k4 k5 k6 k7 k8 k9 k10 k11 k12 f0 f1 f2 f3 f4 f5 f6 f7 f8 f9 f10 f11 f12
    have hs7 : ((w6.setCell ⟨w.heap.size + 1 + 1 + 1, 6, none⟩ (.slice (some ⟨w6.heap.size, 0, none⟩) 1 1)).alloc (.cells #[.int .i64 1, .string ⟨#[]⟩, .string ⟨#[]⟩] 60)).heap.size = w6.heap.size + 1 := by simp
    generalize (w6.setCell ⟨w.heap.size + 1 + 1 + 1, 6, none⟩ (.slice (some ⟨w6.heap.size, 0, none⟩) 1 1)).alloc (.cells #[.int .i64 1, .string ⟨#[]⟩, .string ⟨#[]⟩] 60) = w7 at HSt7 HX7 hs7 ⊢
    obtain ⟨a6, l6, c6, ha6⟩ : ∃ a l c, (.slice (some ⟨w6.heap.size, 0, none⟩) 1 1) = Value.slice a l c := ⟨_, _, _, rfl⟩
    rw [ha6] at HSt7 HX7
    clear ha6
    refine (num_any P 3 (by decide) (by decide) w7 HX7.out.sw.d.pk).mono ?_
    rintro e w8 ⟨r6, rfl, hr6, hk, hf⟩
    have HX8 := Hd (HX7.out.call hk hf)
    have HSt8 := Hd (HSt7.out.keep hf (by simp; omega))
    have hs8 := hf.size
    clear hk hf
    go_wp2_with fail
    go_loopw [18, 19, 20] (fun i _ _ wr => ∃ (k : Nat) (its : List Im) (a6 : Option Addr) (l6 c6 : Nat), i = .int .i64 ((k : Int)) /\ k <= r6 /\ its.length + k <= 5 /\ Hid (∀ x ∈ its, x.ok = true /\ (Pc.render (x.line 0)).length <= 12) /\ Hid (Blk wr (w.heap.size + 3) 29 [.int .i64 6, .string ⟨(tname ti).toArray⟩, .string ⟨#[]⟩, .slice none 0 0, .slice none 0 0, .slice none 0 0, .slice a6 l6 c6, .string jb, .slice a8 l8 c8, .slice a9 l9 c9, .slice none 0 0, .bool false, .slice none 0 0]) /\ Hid (Sr [.string ⟨(tname ti).toArray⟩, .slice (some ⟨cb, 0, none⟩) 3 3, .slice ia il ic] B M P n w1.heap.size b6 w u8 u9 l ks jo wo (.slice a8 l8 c8) (.slice a9 l9 c9) (.slice a6 l6 c6) its wr)) (fun i _ _ _ => (intOf i).toNat)
    case atStart => exact ⟨r6, [.count], a6, l6, c6, rfl, Nat.le_refl _, by simp; omega, Hd (fun x hx => by rw [List.mem_singleton.1 hx]; exact im_count), HSt8, HX8⟩
    case round =>
     obtain ⟨k, its, a6, l6, c6, rfl, hk, hkl, HI, HStr, HXr⟩ := hrel
     by_cases hk0 : k = 0
     ·subst hk0
      obtain ⟨k0, k1, k2, k3, k4, k5, k6, k7, k8, k9, k10, k11, k12, f0, f1, f2, f3, f4, f5, f6, f7, f8, f9, f10, f11, f12⟩ := c13_of HStr.out
      obtain ⟨q0, q1, q2, q3, q4, q5, q6, q7, q8, q9, q10, q11, q12, g0, g1, g2, g3, g4, g5, g6, g7, g8, g9, g10, g11, g12⟩ := c13_of HXr.out.sw.r
      have hlS := HStr.out.lt
      have hnSR : ¬ w.heap.size + 3 = w.heap.size + 2 := by omega
      have hnRS : ¬ w.heap.size + 2 = w.heap.size + 3 := by omega
      go_wp2_with fail
      refine bodyPost_ret (ret_cell13 rfl _ (w.heap.size + 1 + 1) rfl _ _ _ _ _ _ _ _ _ _ _ _ _ _ (blkPut13 HXr.out.sw.r _ _ _ _ _ _ _ _ _ _ _ _ _)) rfl ?_
      exact HXr.out.done (tn := (tname ti)) (tname_ok ti) ⟨by omega, HI.out⟩ HJ.out HJB.out HOW.out okO_none rfl Rep.Es.nil
     ·have hk1 : (0 : Int) < k := by omega
      have hk3 : (k : Int) <= r6 := by omega
      go_wp2_with fail
      refine (col_any P u8 u9 l ks 1 (.inl rfl) wr HXr.out.sw.d.pk (HXr.out.ck.cols (by omega) HXr.out.hb6)).mono ?_
      rintro e w9 ⟨t, nm, hcol, rfl, hk', hf⟩
      have HX9 := Hd (HXr.out.call hk' hf)
      have HSt9 := Hd (HStr.out.keep hf (by simp; omega))
      have hs9 := hf.size
      have HCOL := Hd hcol
      clear hk' hf hcol
      unfold exC
      go_upto_region 22 with fail
      have HXq := Hd (HX9.out.alloc (.cells #[.int .i64 2, .int .i64 0, .int .i64 0, .string ⟨#[]⟩, .string ⟨t.toArray⟩, .string ⟨nm.toArray⟩, .slice none 0 0] 82))
      have HStq := Hd (HSt9.out.alloc (.cells #[.int .i64 2, .int .i64 0, .int .i64 0, .string ⟨#[]⟩, .string ⟨t.toArray⟩, .string ⟨nm.toArray⟩, .slice none 0 0] 82))
      have HAq := Hd (Blk.new w9 82 [.int .i64 2, .int .i64 0, .int .i64 0, .string ⟨#[]⟩, .string ⟨t.toArray⟩, .string ⟨nm.toArray⟩, .slice none 0 0])
      have hsq : w9.heap.size < (w9.alloc (.cells #[.int .i64 2, .int .i64 0, .int .i64 0, .string ⟨#[]⟩, .string ⟨t.toArray⟩, .string ⟨nm.toArray⟩, .slice none 0 0] 82)).heap.size := by simp
      generalize w9.alloc (.cells #[.int .i64 2, .int .i64 0, .int .i64 0, .string ⟨#[]⟩, .string ⟨t.toArray⟩, .string ⟨nm.toArray⟩, .slice none 0 0] 82) = wq at HXq HStq HAq hsq ⊢
      have hown : ∀ g, (Value.slice a6 l6 c6).ownBlock = some g -> b6 <= g /\ g < w9.heap.size := fun g hg => ⟨HX9.out.it.2 g hg, HX9.out.it.1.block_lt hg⟩
      have hb3 := HXq.out.hbb
      have hPw := HXq.out.sw.d.lt
      have hb4 := HX9.out.hb6
      have HKEY : Hid (∀ W, Fr [some P, (Value.slice a6 l6 c6).ownBlock] wq W -> W.cell? ⟨w.heap.size + 3, 6, none⟩ = some (.slice a6 l6 c6) /\ W.cell? ⟨w9.heap.size, 4, none⟩ = some (.string ⟨t.toArray⟩) /\ W.cell? ⟨w9.heap.size, 5, none⟩ = some (.string ⟨nm.toArray⟩)) := Hd (fun W hW => by
       have n1 : some (w.heap.size + 3) ∉ [some P, (Value.slice a6 l6 c6).ownBlock] := fun hm => by simp only [List.mem_cons, Option.some.injEq, List.not_mem_nil, or_false] at hm; rcases hm with h | h; omega; have := hown _ h.symm; omega
       have n2 : some w9.heap.size ∉ [some P, (Value.slice a6 l6 c6).ownBlock] := fun hm => by simp only [List.mem_cons, Option.some.injEq, List.not_mem_nil, or_false] at hm; rcases hm with h | h; omega; have := hown _ h.symm; omega
       exact ⟨(HStq.out.keep hW n1).cell 6, (HAq.out.keep hW n2).cell 4, (HAq.out.keep hW n2).cell 5⟩)
      have HOWN := Hd hown
      have hfq : Fr [some P, (Value.slice a6 l6 c6).ownBlock] wq wq.drew := Fr.drew (Fr.refl _ wq)
      have hI0 := HKEY.out _ hfq
      clear hown hb3
      refine Seq3.wp_region_text (fun i => i != 3 && i != 10 && i != 11 && i != 13) (fun _ => none) (fun i => i == 13) (fun w' => w'.cell? ⟨w.heap.size + 3, 6, none⟩ = some (.slice a6 l6 c6) /\ w'.cell? ⟨w9.heap.size, 4, none⟩ = some (.string ⟨t.toArray⟩) /\ w'.cell? ⟨w9.heap.size, 5, none⟩ = some (.string ⟨nm.toArray⟩)) (by kernel_rfl) (by kernel_rfl) hI0 ?_
      (refine Seq3.wpL_quiet rfl rfl rfl (fun K hK => ?_); go_big_quiet_op; (first | refine hK _ ?_ | refine ⟨_, by intros; rfl, hK _ ?_⟩); clear hK K)
      refine Seq3.wpL_held (v := .slice a6 l6 c6) rfl rfl (fun w' hI => ?_) ?_
      ·have hI' : w'.cell? ⟨w.heap.size + 3, 6, none⟩ = some (.slice a6 l6 c6) := hI.1
       simp [go_sem, execOp, hI']
      simp only [Act.put, List.setIfInBounds_toArray, List.set_cons_succ, List.set_cons_zero]
      (refine Seq3.wpL_quiet rfl rfl rfl (fun K hK => ?_); go_big_quiet_op; (first | refine hK _ ?_ | refine ⟨_, by intros; rfl, hK _ ?_⟩); clear hK K)
      refine Seq3.wpL_call rfl rfl (by kernel_rfl) (num_any P 3 (by decide) (by decide) wq.drew HXq.out.drew.sw.d.pk) ?_
      rintro e wx ⟨r7, rfl, hr7, hk', hf⟩
      have hf1 := hfq.trans' hf (by simp)
      refine ⟨_, rfl, HKEY.out _ hf1, ?_⟩
      simp only [Act.put, List.setIfInBounds_toArray, List.set_cons_succ, List.set_cons_zero]
      have HXx := Hd (HXq.out.drew.call hk' hf)
      have HStx := Hd (HStq.out.drew.keep hf (by simp; omega))
      have hsx := hf.size
      simp only [World.size_drew] at hsx
      clear hk' hf
      have hwr : IntKind.i64.wrap (2 + (r7 : Int)) = 2 + (r7 : Int) := IntWalk.i64_in _ (by omega)
      iterate 2 (refine Seq3.wpL_quiet rfl rfl rfl (fun K hK => ?_); go_big_quiet_op; (first | refine hK _ ?_ | refine ⟨_, by intros; rfl, hK _ ?_⟩); clear hK K)
      refine Seq3.wpL_held (v := .string ⟨t.toArray⟩) rfl rfl (fun w' hI => ?_) ?_
      ·have hI' : w'.cell? ⟨w9.heap.size, 4, none⟩ = some (.string ⟨t.toArray⟩) := hI.2.1
       simp [go_sem, execOp, hI']
      simp only [Act.put, List.setIfInBounds_toArray, List.set_cons_succ, List.set_cons_zero]
      (refine Seq3.wpL_quiet rfl rfl rfl (fun K hK => ?_); go_big_quiet_op; (first | refine hK _ ?_ | refine ⟨_, by intros; rfl, hK _ ?_⟩); clear hK K)
      refine Seq3.wpL_held (v := .string ⟨nm.toArray⟩) rfl rfl (fun w' hI => ?_) ?_
      ·have hI' : w'.cell? ⟨w9.heap.size, 5, none⟩ = some (.string ⟨nm.toArray⟩) := hI.2.2
       simp [go_sem, execOp, hI']
      simp only [Act.put, List.setIfInBounds_toArray, List.set_cons_succ, List.set_cons_zero]
      refine Seq3.wpL_held (v := .agg #[.int .i64 (2 + (r7 : Int)), .string ⟨t.toArray⟩, .string ⟨nm.toArray⟩]) rfl rfl (fun w' hI => by first | rfl | kernel_rfl) ?_
      simp only [Act.put, List.setIfInBounds_toArray, List.set_cons_succ, List.set_cons_zero]
      have hf2 := hf1.alloc (.cells #[.int .i64 (2 + (r7 : Int)), .string ⟨t.toArray⟩, .string ⟨nm.toArray⟩] 60)
      refine Seq3.wpL_val (v := .slice (some ⟨wx.heap.size, 0, none⟩) 1 1) (w' := wx.alloc (.cells #[.int .i64 (2 + (r7 : Int)), .string ⟨t.toArray⟩, .string ⟨nm.toArray⟩] 60)) rfl rfl (by simp [go_sem, execOp]) (HKEY.out _ hf2) ?_
      simp only [Act.put, List.setIfInBounds_toArray, List.set_cons_succ, List.set_cons_zero]
      have HXy := Hd (HXx.out.alloc (.cells #[.int .i64 (2 + (r7 : Int)), .string ⟨t.toArray⟩, .string ⟨nm.toArray⟩] 60))
      have HSty := Hd (HStx.out.alloc (.cells #[.int .i64 (2 + (r7 : Int)), .string ⟨t.toArray⟩, .string ⟨nm.toArray⟩] 60))
      have hmx : (its.map Im.it).length + 1 <= maxLen := by rw [List.length_map]; unfold maxLen; omega
      have hby : ((its.map Im.it).length + 1) * 40 <= 140737488355328 := by rw [List.length_map]; omega
      obtain ⟨i0, hi, hz0, hz1, hz2⟩ := info_parts' col_info
      refine wpL_append_row rfl rfl _ _ 26 rfl 60 i0 (.agg #[.int .i64 0, .string ⟨#[]⟩, .string ⟨#[]⟩]) 3 40 Tryz.underlying26 hi hz0 hz1 hz2 rfl (by decide) (.slice a6 l6 c6) (its.map Im.it).length ((its.map Im.it).flatMap itC) rfl HXy.out.it.1 ⟨wx.heap.size, 0, none⟩ 1 1 [.int .i64 (2 + (r7 : Int)), .string ⟨t.toArray⟩, .string ⟨nm.toArray⟩] rfl rfl (Lx.four_new wx 60 [.int .i64 (2 + (r7 : Int)), .string ⟨t.toArray⟩, .string ⟨nm.toArray⟩]) (by simp [Value.oneCell']) hmx hby ?_
      intro v' wv hrv hfv hov
      refine ⟨.inr (HKEY.out _ (hf2.trans' hfv (fun g hg => .inl (by simp only [List.mem_cons, List.not_mem_nil, or_false] at hg ⊢; exact .inr hg)))), ?_⟩
      simp only [Act.put, List.setIfInBounds_toArray, List.set_cons_succ, List.set_cons_zero]
      obtain ⟨a6', l6', c6', rfl⟩ := row_slice hrv
      have HXv : Hid (Sr [.string ⟨(tname ti).toArray⟩, .slice (some ⟨cb, 0, none⟩) 3 3, .slice ia il ic] B M P n w1.heap.size b6 w u8 u9 l ks jo wo (.slice a8 l8 c8) (.slice a9 l9 c9) (.slice a6' l6' c6') (its ++ [(.agg r7 (clOf t nm))]) wv) := Hd (HXy.out.grow hfv (fun g hg => HXy.out.it.2 g hg) (by rw [List.map_append]; exact its_push (x := Im.it (.agg r7 (clOf t nm))) HXy.out.it HXy.out.hb6 (by first | exact hrv | (rw [List.length_map]; exact hrv)) (by first | exact hov | (rw [World.size_alloc]; exact hov))))
      have HStv := Hd (HSty.out.keep hfv (fun hm => by simp only [List.mem_cons, List.not_mem_nil, or_false] at hm; have := HOWN.out _ hm.symm; have := HXv.out.hbb; omega))
      clear hrv hfv hov hmx hby
      (refine Seq3.wpL_quiet rfl rfl rfl (fun K hK => ?_); go_big_quiet_op; (first | refine hK _ ?_ | refine ⟨_, by intros; rfl, hK _ ?_⟩); clear hK K)
      have k6 : wv.cell? ⟨w.heap.size + 1 + 1 + 1, 6, none⟩ = some (.slice a6 l6 c6) := HStv.out.cell 6
      have k6n : wv.cell? ⟨w.heap.size + 3, 6, none⟩ = some (.slice a6 l6 c6) := HStv.out.cell 6
      have f6 := HStv.out.free 6
      refine Seq3.wpL_lasts (w' := wv.setCell ⟨w.heap.size + 3, 6, none⟩ (.slice a6' l6' c6')) rfl rfl rfl (by simp [go_sem, execOp, k6, k6n, f6]) ?_
      simp only [Act.put, List.setIfInBounds_toArray, List.set_cons_succ, List.set_cons_zero]
      refine Seq3.wpL_nil ?_
      have HXz := Hd (HXv.out.set (i := 6) (v := .slice a6' l6' c6'))
      have HStz := Hd (HStv.out.set 6 (.slice a6' l6' c6'))
      generalize wv.setCell ⟨w.heap.size + 3, 6, none⟩ (.slice a6' l6' c6') = wz at HXz HStz ⊢
      clear hI0 hfq hf1 hf2 k6 k6n f6 hwr
      go_wp2_with fail
      go_roundw
      case rel => exact ⟨k - 1, its ++ [(.agg r7 (clOf t nm))], a6', l6', c6', by go_num, by omega, by simp; omega, Hd (OkI.snoc HI.out (im_agg (by omega) HCOL.out)), HStz, HXz⟩
      case measure => simp only [intOf]; omega
   case neg =>
    by_cases h1 : (r4 : Int) = 1
    case neg =>
     go_wp2_with fail
     go_meet
     exact ⟨[], none, 0, 0, Hd okI_nil, HSt6, HX6⟩
    case pos =>
     go_wp2_with fail
     refine (num_any P 3 (by decide) (by decide) w6 HX6.out.sw.d.pk).mono ?_
     rintro e w8 ⟨r6, rfl, hr6, hk, hf⟩
     have HX8 := Hd (HX6.out.call hk hf)
     have HSt8 := Hd (HSt6.out.keep hf (by simp; omega))
     have hs8 := hf.size
     clear hk hf
     go_wp2_with fail
     go_loopw [21, 22, 23] (fun i _ _ wr => ∃ (k : Nat) (its : List Im) (a6 : Option Addr) (l6 c6 : Nat), i = .int .i64 ((k : Int) - 1) /\ k <= r6 + 1 /\ its.length + k <= 5 /\ Hid (∀ x ∈ its, x.ok = true /\ (Pc.render (x.line 0)).length <= 12) /\ Hid (Blk wr (w.heap.size + 3) 29 [.int .i64 6, .string ⟨(tname ti).toArray⟩, .string ⟨#[]⟩, .slice none 0 0, .slice none 0 0, .slice none 0 0, .slice a6 l6 c6, .string jb, .slice a8 l8 c8, .slice a9 l9 c9, .slice none 0 0, .bool false, .slice none 0 0]) /\ Hid (Sr [.string ⟨(tname ti).toArray⟩, .slice (some ⟨cb, 0, none⟩) 3 3, .slice ia il ic] B M P n w1.heap.size b6 w u8 u9 l ks jo wo (.slice a8 l8 c8) (.slice a9 l9 c9) (.slice a6 l6 c6) its wr)) (fun i _ _ _ => (intOf i + 1).toNat)
     case atStart => exact ⟨r6 + 1, [], none, 0, 0, by congr 1; omega, Nat.le_refl _, by simp; omega, Hd (by simp), HSt8, HX8⟩
     case round =>
      obtain ⟨k, its, a6, l6, c6, rfl, hk, hkl, HI, HStr, HXr⟩ := hrel
      by_cases hk0 : k = 0
      ·subst hk0
       go_wp2_with fail
       go_meet
       exact ⟨its, a6, l6, c6, Hd ⟨by omega, HI.out⟩, HStr, HXr⟩
      ·have hk1 : (0 : Int) < k := by omega
       have hk3 : (k : Int) <= r6 + 1 := by omega
       go_wp2_with fail
       refine (num_any P 2 (by decide) (by decide) wr HXr.out.sw.d.pk).mono ?_
       rintro e wk ⟨r8, rfl, hr8, hk', hf⟩
       have HXk := Hd (HXr.out.call hk' hf)
       have HStk := Hd (HStr.out.keep hf (by simp; omega))
       have hso := hf.size
       have hkf : 1 + (r8 : Int) = 1 \/ 1 + (r8 : Int) = 2 := by omega
       have HKF := Hd hkf
       clear hk' hf hkf
       go_wp2_with fail
       refine (col_any P u8 u9 l ks (1 + r8) HKF.out wk HXk.out.sw.d.pk (HXk.out.ck.cols (by omega) HXk.out.hb6)).mono ?_
       rintro e w9 ⟨t, nm, hcol, rfl, hk', hf⟩
       have HX9 := Hd (HXk.out.call hk' hf)
       have HSt9 := Hd (HStk.out.keep hf (by simp; omega))
       have hs9 := hf.size
       have HCOL := Hd hcol
       clear hk' hf hcol
       unfold exC
       go_upto_region 29 with fail
       have HXq := Hd (HX9.out.alloc (.cells #[.int .i64 2, .int .i64 0, .int .i64 0, .string ⟨#[]⟩, .string ⟨t.toArray⟩, .string ⟨nm.toArray⟩, .slice none 0 0] 82))
       have HStq := Hd (HSt9.out.alloc (.cells #[.int .i64 2, .int .i64 0, .int .i64 0, .string ⟨#[]⟩, .string ⟨t.toArray⟩, .string ⟨nm.toArray⟩, .slice none 0 0] 82))
       have HAq := Hd (Blk.new w9 82 [.int .i64 2, .int .i64 0, .int .i64 0, .string ⟨#[]⟩, .string ⟨t.toArray⟩, .string ⟨nm.toArray⟩, .slice none 0 0])
       have hsq : w9.heap.size < (w9.alloc (.cells #[.int .i64 2, .int .i64 0, .int .i64 0, .string ⟨#[]⟩, .string ⟨t.toArray⟩, .string ⟨nm.toArray⟩, .slice none 0 0] 82)).heap.size := by simp
       generalize w9.alloc (.cells #[.int .i64 2, .int .i64 0, .int .i64 0, .string ⟨#[]⟩, .string ⟨t.toArray⟩, .string ⟨nm.toArray⟩, .slice none 0 0] 82) = wq at HXq HStq HAq hsq ⊢
       have hown : ∀ g, (Value.slice a6 l6 c6).ownBlock = some g -> b6 <= g /\ g < w9.heap.size := fun g hg => ⟨HX9.out.it.2 g hg, HX9.out.it.1.block_lt hg⟩
       have HOWN := Hd hown
       clear hown
       obtain ⟨k0, k1, k2, k3, k4, k5, k6, k7, k8, k9, k10, k11, k12, f0, f1, f2, f3, f4, f5, f6, f7, f8, f9, f10, f11, f12⟩ := c13_of HStq.out
       obtain ⟨ca0, ca1, ca2, ca3, ca4, ca5, ca6, cf0, cf1, cf2, cf3, cf4, cf5, cf6⟩ := c7_of HAq.out
       have hlS := HStq.out.lt
       have hlA := HAq.out.lt
       have n1 : ¬ w.heap.size + 3 = wq.heap.size := by omega
       have n2 : ¬ w9.heap.size = wq.heap.size := by omega
       have HXy := Hd (HXq.out.alloc (.cells #[.int .i64 0, .string ⟨t.toArray⟩, .string ⟨nm.toArray⟩] 60))
       have HSty := Hd (HStq.out.alloc (.cells #[.int .i64 0, .string ⟨t.toArray⟩, .string ⟨nm.toArray⟩] 60))
       have hmx : (its.map Im.it).length + 1 <= maxLen := by rw [List.length_map]; unfold maxLen; omega
       have hby : ((its.map Im.it).length + 1) * 40 <= 140737488355328 := by rw [List.length_map]; omega
       obtain ⟨i0, hi, hz0, hz1, hz2⟩ := info_parts' col_info
       go_wp2_with (at_builtin; go_loud (refine wpList_append_row rfl _ _ 26 rfl 60 i0 (.agg #[.int .i64 0, .string ⟨#[]⟩, .string ⟨#[]⟩]) 3 40 Tryz.underlying26 hi hz0 hz1 hz2 rfl (by decide) (.slice a6 l6 c6) (its.map Im.it).length ((its.map Im.it).flatMap itC) rfl HXy.out.it.1 ⟨wq.heap.size, 0, none⟩ 1 1 [.int .i64 0, .string ⟨t.toArray⟩, .string ⟨nm.toArray⟩] rfl rfl (Lx.four_new wq 60 [.int .i64 0, .string ⟨t.toArray⟩, .string ⟨nm.toArray⟩]) (by simp [Value.oneCell']) hmx hby ?_))
       intro v' wv hrv hfv hov
       obtain ⟨a6', l6', c6', rfl⟩ := row_slice hrv
       have HXv : Hid (Sr [.string ⟨(tname ti).toArray⟩, .slice (some ⟨cb, 0, none⟩) 3 3, .slice ia il ic] B M P n w1.heap.size b6 w u8 u9 l ks jo wo (.slice a8 l8 c8) (.slice a9 l9 c9) (.slice a6' l6' c6') (its ++ [(.col (clOf t nm))]) wv) := Hd (HXy.out.grow hfv (fun g hg => HXy.out.it.2 g hg) (by rw [List.map_append]; exact its_push (x := Im.it (.col (clOf t nm))) HXy.out.it HXy.out.hb6 (by first | exact hrv | (rw [List.length_map]; exact hrv)) (by first | exact hov | (rw [World.size_alloc]; exact hov))))
       have HStv := Hd (HSty.out.keep hfv (fun hm => by simp only [List.mem_cons, List.not_mem_nil, or_false] at hm; have := HOWN.out _ hm.symm; have := HXv.out.hbb; omega))
       clear k0 k1 k2 k3 k4 k5 k6 k7 k8 k9 k10 k11 k12 f0 f1 f2 f3 f4 f5 f6 f7 f8 f9 f10 f11 f12
       clear hrv hfv hov hmx hby ca0 ca1 ca2 ca3 ca4 ca5 ca6 cf0 cf1 cf2 cf3 cf4 cf5 cf6
       obtain ⟨k0, k1, k2, k3, k4, k5, k6, k7, k8, k9, k10, k11, k12, f0, f1, f2, f3, f4, f5, f6, f7, f8, f9, f10, f11, f12⟩ := c13_of HStv.out
       have HXz := Hd (HXv.out.set (i := 6) (v := .slice a6' l6' c6'))
       have HStz := Hd (HStv.out.set 6 (.slice a6' l6' c6'))
       go_wp2_with fail
       go_roundw
       case rel => exact ⟨k - 1, its ++ [(.col (clOf t nm))], a6', l6', c6', by congr 1; omega, by omega, by simp; omega, Hd (OkI.snoc HI.out (im_col HCOL.out)), HStz, HXz⟩
       case measure => simp only [intOf]; omega
  case rest =>
   obtain ⟨its, a6, l6, c6, HI, HSt7, HX7⟩ := hcut
   go_wp2_with fail
   refine (num_any P 3 (by decide) (by decide) _ HX7.out.sw.d.pk).mono ?_
   rintro e w8 ⟨r9, rfl, hr9, hk, hf⟩
   have HX8 := Hd (HX7.out.call hk hf)
   have HSt8 := Hd (HSt7.out.keep hf (by simp; omega))
   have hs8 := hf.size
   clear hk hf
   by_cases h1 : (r9 : Int) = 0
   case neg =>
    obtain ⟨k0, k1, k2, k3, k4, k5, k6, k7, k8, k9, k10, k11, k12, f0, f1, f2, f3, f4, f5, f6, f7, f8, f9, f10, f11, f12⟩ := c13_of HSt8.out
    obtain ⟨q0, q1, q2, q3, q4, q5, q6, q7, q8, q9, q10, q11, q12, g0, g1, g2, g3, g4, g5, g6, g7, g8, g9, g10, g11, g12⟩ := c13_of HX8.out.sw.r
    have hlS := HSt8.out.lt
    have hnSR : ¬ w.heap.size + 3 = w.heap.size + 2 := by omega
    have hnRS : ¬ w.heap.size + 2 = w.heap.size + 3 := by omega
    go_wp2_with fail
    refine bodyPost_ret (ret_cell13 rfl _ (w.heap.size + 1 + 1) rfl _ _ _ _ _ _ _ _ _ _ _ _ _ _ (blkPut13 HX8.out.sw.r _ _ _ _ _ _ _ _ _ _ _ _ _)) rfl ?_
    exact HX8.out.done (tn := (tname ti)) (tname_ok ti) HI.out HJ.out HJB.out HOW.out okO_none rfl Rep.Es.nil
   case pos =>
    go_wp2_with fail
    refine (num_any P 2 (by decide) (by decide) w8 HX8.out.sw.d.pk).mono ?_
    rintro e w9 ⟨r8, rfl, hr8, hk, hf⟩
    have HX9 := Hd (HX8.out.call hk hf)
    have HSt9 := Hd (HSt8.out.keep hf (by simp; omega))
    have hs9 := hf.size
    clear hk hf
    have hkf : 1 + (r8 : Int) = 1 \/ 1 + (r8 : Int) = 2 := by omega
    have HKF := Hd hkf
    clear hkf
    go_wp2_with fail
    refine (col_any P u8 u9 l ks (1 + r8) HKF.out w9 HX9.out.sw.d.pk (HX9.out.ck.cols (by omega) HX9.out.hb6)).mono ?_
    rintro e w10 ⟨t, nm, hcol, rfl, hk, hf⟩
    have HX10 := Hd (HX9.out.call hk hf)
    have HSt10 := Hd (HSt9.out.keep hf (by simp; omega))
    have hs10 := hf.size
    have HCOL := Hd hcol
    clear hk hf hcol
    unfold exC
    go_upto_region 32 with fail
    have HXq := Hd (HX10.out.alloc (.cells #[.int .i64 2, .int .i64 0, .int .i64 0, .string ⟨#[]⟩, .string ⟨t.toArray⟩, .string ⟨nm.toArray⟩, .slice none 0 0] 82))
    have HStq := Hd (HSt10.out.alloc (.cells #[.int .i64 2, .int .i64 0, .int .i64 0, .string ⟨#[]⟩, .string ⟨t.toArray⟩, .string ⟨nm.toArray⟩, .slice none 0 0] 82))
    have HAq := Hd (Blk.new w10 82 [.int .i64 2, .int .i64 0, .int .i64 0, .string ⟨#[]⟩, .string ⟨t.toArray⟩, .string ⟨nm.toArray⟩, .slice none 0 0])
    have hsq : w10.heap.size < (w10.alloc (.cells #[.int .i64 2, .int .i64 0, .int .i64 0, .string ⟨#[]⟩, .string ⟨t.toArray⟩, .string ⟨nm.toArray⟩, .slice none 0 0] 82)).heap.size := by simp
    generalize w10.alloc (.cells #[.int .i64 2, .int .i64 0, .int .i64 0, .string ⟨#[]⟩, .string ⟨t.toArray⟩, .string ⟨nm.toArray⟩, .slice none 0 0] 82) = wq at HXq HStq HAq hsq ⊢
    go_cut [25] from 165 to 171 (fun _ wx => ∃ (a10 : Option Addr) (l10 c10 : Nat) (d : Bool), Hid (Blk wx (w.heap.size + 3) 29 [.int .i64 6, .string ⟨(tname ti).toArray⟩, .string ⟨#[]⟩, .slice none 0 0, .slice none 0 0, .slice none 0 0, .slice a6 l6 c6, .string jb, .slice a8 l8 c8, .slice a9 l9 c9, .slice a10 l10 c10, .bool d, .slice none 0 0]) /\ Hid (Sr [.string ⟨(tname ti).toArray⟩, .slice (some ⟨cb, 0, none⟩) 3 3, .slice ia il ic] B M P n w1.heap.size b6 w u8 u9 l ks jo wo (.slice a8 l8 c8) (.slice a9 l9 c9) (.slice a6 l6 c6) its wx) /\ Hid (Rep.Es 82 (fun g => b6 <= g) wx [(clOf t nm).ex] (.slice a10 l10 c10)))
    case first =>
     have hb3 := HXq.out.hbb
     have hb4 := HX10.out.hb6
     have hlq := HStq.out.lt
     have hKEY : ∀ W, Fr [some P] wq W -> W.cell? ⟨w10.heap.size, 0, none⟩ = some (.int .i64 2) /\ W.cell? ⟨w10.heap.size, 1, none⟩ = some (.int .i64 0) /\ W.cell? ⟨w10.heap.size, 2, none⟩ = some (.int .i64 0) /\ W.cell? ⟨w10.heap.size, 3, none⟩ = some (.string ⟨#[]⟩) /\ W.cell? ⟨w10.heap.size, 4, none⟩ = some (.string ⟨t.toArray⟩) /\ W.cell? ⟨w10.heap.size, 5, none⟩ = some (.string ⟨nm.toArray⟩) /\ W.cell? ⟨w10.heap.size, 6, none⟩ = some (.slice none 0 0) /\ W.cell? ⟨w.heap.size + 3, 10, none⟩ = some (.slice none 0 0) /\ W.cell? ⟨w.heap.size + 3, 11, none⟩ = some (.bool false) := fun W hW => by
      have hA := HAq.out.keep hW (by simp; omega)
      have hS := HStq.out.keep hW (by simp; omega)
      exact ⟨hA.cell 0, hA.cell 1, hA.cell 2, hA.cell 3, hA.cell 4, hA.cell 5, hA.cell 6, hS.cell 10, hS.cell 11⟩
     have HKEY := Hd hKEY
     obtain ⟨ca0, ca1, ca2, ca3, ca4, ca5, ca6, k10, k11⟩ := hKEY _ (Fr.refl _ _)
     clear hKEY
     have n1 : ¬ w.heap.size + 3 = wq.heap.size := by omega
     have n2 : ¬ w10.heap.size = wq.heap.size := by omega
     go_region_with (
      go_at_call 25
      go_loud (refine (num_any (B := B) (M := M) P 2 (by decide) (by decide) _ ?_).mono ?_)
      go_loud (first | with_reducible exact ((HXq.out.alloc _).drew).sw.d.pk | with_reducible exact HXq.out.drew.sw.d.pk | with_reducible exact (HXq.out.drew.alloc _).sw.d.pk)
      rintro e w11 ⟨r7, rfl, hr7, hk, hf⟩
      first
       |have hfz := (Fr.drew ((Fr.refl [some P] wq).alloc (.cells #[.int .i64 2, .int .i64 0, .int .i64 0, .string ⟨#[]⟩, .string ⟨t.toArray⟩, .string ⟨nm.toArray⟩, .slice none 0 0] 82))).trans hf
        have HXz := Hd ((HXq.out.alloc (.cells #[.int .i64 2, .int .i64 0, .int .i64 0, .string ⟨#[]⟩, .string ⟨t.toArray⟩, .string ⟨nm.toArray⟩, .slice none 0 0] 82)).drew.call hk hf)
        have HStz := Hd (HStq.out.keep hfz (by simp; omega))
        have HEz := Hd (Rep.Es.keep ((Fr.drew (Fr.refl [some P] (wq.alloc (.cells #[.int .i64 2, .int .i64 0, .int .i64 0, .string ⟨#[]⟩, .string ⟨t.toArray⟩, .string ⟨nm.toArray⟩, .slice none 0 0] 82)))).trans hf) (fun g hg => by simp; omega) (es_new (A := fun g => b6 <= g) (Rep.L.cons _ _ _ _ (cl_rep (fun g => b6 <= g) wq t nm) .nil) (by omega) (by simp [maxLen])))
        have hsz := hfz.size
        obtain ⟨ca0, ca1, ca2, ca3, ca4, ca5, ca6, k10, k11⟩ := HKEY.out _ hfz
        have f10 := HStz.out.free 10
        have f11 := HStz.out.free 11
        have l3 : w.heap.size + 3 < w11.heap.size := by omega
        clear hk hf hfz
       |have hfz := (Fr.drew (Fr.refl [some P] wq)).trans hf
        have HXz := Hd (HXq.out.drew.call hk hf)
        have HStz := Hd (HStq.out.keep hfz (by simp; omega))
        have hsz := hfz.size
        obtain ⟨ca0, ca1, ca2, ca3, ca4, ca5, ca6, k10, k11⟩ := HKEY.out _ hfz
        have f10 := HStz.out.free 10
        have f11 := HStz.out.free 11
        have n3 : ¬ w.heap.size + 3 = w11.heap.size := by omega
        have l3 : w.heap.size + 3 < w11.heap.size := by omega
        have l4 : w.heap.size + 3 < w11.heap.size + 1 := by omega
        have l5 : w10.heap.size < w11.heap.size := by omega
        have n4 : ¬ w10.heap.size = w11.heap.size := by omega
        clear hk hf hfz)
     all_goals go_wp2_with fail
     all_goals go_meet
     all_goals first
      |exact ⟨_, _, _, _, Hd ((HStz.out.set 10 (.slice (some ⟨wq.heap.size, 0, none⟩) 1 1)).set 11 (.bool ((r7 : Int) == 0))), Hd (HXz.out.set (i := 10) (v := (.slice (some ⟨wq.heap.size, 0, none⟩) 1 1))).set, Hd (Rep.Es.keep ((frSet (P := w.heap.size + 3) (i := 10) (.slice (some ⟨wq.heap.size, 0, none⟩) 1 1)).setCell (p := ⟨w.heap.size + 3, 11, none⟩) (.inl (by simp)) (.bool ((r7 : Int) == 0))) (fun g hg => by simp; omega) HEz.out)⟩
      |exact ⟨_, _, _, _, Hd (((HStz.out.set 10 (.slice (some ⟨w11.heap.size, 0, none⟩) 1 1)).set 11 (.bool ((r7 : Int) == 0))).alloc _), Hd ((HXz.out.set (i := 10) (v := (.slice (some ⟨w11.heap.size, 0, none⟩) 1 1))).set.alloc _), Hd (by
        have hq := es_new (A := fun g => b6 <= g) (Rep.L.cons _ _ _ _ (cl_rep (fun g => b6 <= g) ((w11.setCell ⟨w.heap.size + 3, 10, none⟩ (.slice (some ⟨w11.heap.size, 0, none⟩) 1 1)).setCell ⟨w.heap.size + 3, 11, none⟩ (.bool ((r7 : Int) == 0))) t nm) .nil) (by simp; omega) (by simp [maxLen])
        rw [World.size_setCell, World.size_setCell] at hq
        exact hq)⟩
    case rest =>
     obtain ⟨a10, l10, c10, d, HSt12, HX12, HE12⟩ := hcut
     obtain ⟨k0, k1, k2, k3, k4, k5, k6, k7, k8, k9, k10, k11, k12, f0, f1, f2, f3, f4, f5, f6, f7, f8, f9, f10, f11, f12⟩ := c13_of HSt12.out
     obtain ⟨q0, q1, q2, q3, q4, q5, q6, q7, q8, q9, q10, q11, q12, g0, g1, g2, g3, g4, g5, g6, g7, g8, g9, g10, g11, g12⟩ := c13_of HX12.out.sw.r
     have hlS := HSt12.out.lt
     have hnSR : ¬ w.heap.size + 3 = w.heap.size + 2 := by omega
     have hnRS : ¬ w.heap.size + 2 = w.heap.size + 3 := by omega
     go_wp2_with fail
     refine bodyPost_ret (ret_cell13 rfl _ (w.heap.size + 1 + 1) rfl _ _ _ _ _ _ _ _ _ _ _ _ _ _ (blkPut13 HX12.out.sw.r _ _ _ _ _ _ _ _ _ _ _ _ _)) rfl ?_
     exact HX12.out.done (tn := (tname ti)) (tname_ok ti) HI.out HJ.out HJB.out HOW.out (okO_some d HCOL.out) rfl HE12.out
end Gn
end Go.Proofs.YtmdnhinpaflamaaGreatDoor
