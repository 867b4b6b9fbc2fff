/- The document's parser: statements. -/
import Derived.Test.YtmdnhinpaflamaaGreatDoorRfE
import Derived.Test.YtmdnhinpaflamaaGreatDoorSeq3
import Derived.Deep.RegionWith
namespace Go.Proofs.YtmdnhinpaflamaaGreatDoor
open Go.RowKit
set_option linter.unusedVariables false
set_option linter.unusedSimpArgs false
namespace Rf
open LexM (Tok)
open PM (B Ex Col It PS zeroTok wordy two un colEx)
open Px (frSet ret_cell7 ret_cell13 put13 frPut13 blkPut13 c13_of kTag TagS ColS ItS SR SS StR kEx)
open Gn (Gr)
theorem row_slice' {w : World} {E : TypeId} {size n : Nat} {v : Value} {xs : List Value} (h : Row w E size v n xs) : ∃ a l c, v = .slice a l c := by
 rcases h.2 with ⟨rfl, _⟩ | ⟨g, off, cap, cur, rfl, _⟩
 ·exact ⟨none, 0, 0, rfl⟩
 ·exact ⟨_, _, _, rfl⟩
open Seq3 in
theorem wpL_append {P : Program} {ops : Array Oper} {Inv : World -> Prop} {Q : Exit -> Act -> World -> Prop} {held : Nat -> Bool} {qv : Nat -> Option Value} {lst : Nat -> Bool} {k : Nat} {o : Oper} {rest : List Oper} {a : Act} {w : World} (hk : held k = false) (hw : Region.wanted o (yielded ops a.tmps) = true) (s x : Operand) (t : TypeId)
  (ho : o.op = .call { callee := .builtin .append, args := #[s, x], argTypes := #[t, t] })
  (E : TypeId) (i : TypeInfo) (z : Value) (size bytes : Nat) (ht : P.underlying t = some (.slice E)) (hi : P.info? E = some i) (hz : i.zero = some z)
  (hsize : i.size = size) (hby : i.bytes = bytes) (hzs : z.cells.size = size) (hsz : 0 < size)
  (v : Value) (n : Nat) (xs : List Value) (hs : a.eval s = v) (hrow : Row w E size v n xs)
  (ad : Addr) (m c : Nat) (news : List Value) (hx : a.eval x = .slice (some ad) m c) (hl : news.length = m * size) (hnews : ∀ j u, news[j]? = some u -> w.cell? (ad.add j) = some u) (h1 : ∀ u ∈ news, u.oneCell' = true)
  (h63 : n + m <= maxLen) (hbytes : (n + m) * bytes <= 140737488355328)
  (h : ∀ v' w', Row w' E size v' (n + m) (xs ++ news) -> Fr [v.ownBlock] w w' -> (v'.ownBlock = v.ownBlock \/ ∃ k, w.heap.size <= k /\ v'.ownBlock = some k) -> (lst k = true \/ Inv w') /\ wpL P ops Inv Q held qv lst (k + 1) rest (a.put o.dst v') w') : wpL P ops Inv Q held qv lst k (o :: rest) a w :=
 wpL_act hk hw fun K hK => by
  obtain ⟨v', w', hr, h2, h3, h4, _⟩ := run_append_row (P := P) t o.type E i z size bytes ht hi hz hsize hby hzs hsz v n xs hrow ad m c news hl hnews h1 h63 hbytes
  obtain ⟨hI, hh⟩ := h v' w' h2 h3 h4
  unfold Oper.wp execOp
  simp only [ho, resolve, invoke, builtin, Sem.run_bind, Sem.run_pure, Result.andThen_ok, List.map_toArray, List.map_cons, List.map_nil, hs, hx, hr]
  exact hK _ _ hI hh
theorem inf_ex : (Tryz.prog.info? 82).map (fun i => (i.zero, i.size, i.bytes)) = some (some (.agg #[.int .i64 0, .int .i64 0, .int .i64 0, .string ⟨#[]⟩, .string ⟨#[]⟩, .string ⟨#[]⟩, .slice none 0 0]), 7, 96) := by kernel_rfl
def StO (c : Int -> CM.P PM.St) (P : Nat) (s : PS) (w : World) (e : Ending) (w' : World) : Prop :=
 ∃ (x : PM.St) (s' : PS), StR w.heap.size w' e x /\ RR w' P s' /\ St c s x s' /\ Dp s s' /\ Fr [some P] w w'
theorem ng_colKind : Ng CM.colKind := ng_opt (ng_ret 1) (ng_opt (ng_ret 2) (ng_err 5))
theorem ng_col : Ng CM.col := ng_bnd ng_name fun n => ng_bnd ng_colKind fun k => ng_opt (ng_bnd ng_name fun r => ng_ret _) (ng_ret _)
theorem ng_itemR : Ng itemR := fun l b l' h => by
 unfold itemR at h
 split at h
 ·exact ng_bnd ng_column (fun c => ng_ret _) _ _ _ h
 ·exact Nat.le_trans (ng_bnd (ng_needs _) (fun _ => ng_bnd ng_column fun c => ng_bnd (ng_needs _) fun _ => ng_ret _) _ _ _ h) (tail_le l)
theorem ng_item : Ng CM.item := by
 rw [item_R]
 exact ng_opt (ng_bnd (ng_needs _) fun _ => ng_ret _) ng_itemR
theorem inf_it : (Tryz.prog.info? 60).map (fun i => (i.zero, i.size, i.bytes)) = some (some (.agg #[.int .i64 0, .string ⟨#[]⟩, .string ⟨#[]⟩]), 3, 40) := by kernel_rfl
theorem inf_col : (Tryz.prog.info? 57).map (fun i => (i.zero, i.size, i.bytes)) = some (some (.agg #[.string ⟨#[]⟩, .int .i64 0, .string ⟨#[]⟩]), 3, 40) := by kernel_rfl
def kCol' : Px.Kd Col := Px.kFlat Px.colC 3 (fun _ => rfl) (fun _ => by simp [Px.colC, Value.oneCell'])
theorem opt_need {α : Type} (w : B) (f : CM.P α) : CM.opt w f (CM.err 5) = CM.bnd (CM.need w) fun _ => f := funext fun l => by
 unfold CM.bnd CM.need CM.opt
 by_cases h : CM.is w l = true
 ·rw [if_pos h, if_pos h]; rfl
 ·rw [if_neg h, if_neg h]; rfl
theorem St.needs_of {w : B} {s s1 : PS} (h : St (fun _ => CM.need w) s () s1) : St (fun _ => CM.needs [w]) s () s1 := St.bnd (d := fun _ _ => CM.ret ()) h (St.ret () _)
theorem St.needs_2 {w v : B} {s s1 s2 : PS} (h : St (fun _ => CM.need w) s () s1) (k : St (fun _ => CM.need v) s1 () s2) : St (fun _ => CM.needs [w, v]) s () s2 := St.bnd (d := fun _ _ => CM.needs [v]) h (St.needs_of k)
section
variable {n : Nat} {s s1 s2 s3 s4 s5 s6 : PS} {m t : B} {x : Ex} {l vs : List Ex} {y : PM.St}
theorem St.deletes (h1 : St (fun _ => CM.need [102, 114, 111, 109]) s () s1) (h2 : St (fun _ => CM.name) s1 m s2) (h3 : St (fun d => CM.wheres n d) s2 l s3) : St (fun d => CM.deletes n d) s (.mk 8 m [] [] [] [] [] [] [] l [] false []) s3 :=
 St.bnd (St.needs_of h1) (St.bnd h2 (St.bnd h3 (St.ret _ _)))
theorem St.updates (h1 : St (fun _ => CM.name) s t s1) (h2 : St (fun _ => CM.need [115, 101, 116]) s1 () s2) (h3 : St (fun _ => CM.name) s2 m s3) (h4 : St (fun _ => CM.need [61]) s3 () s4) (h5 : St (CM.expr n) s4 x s5) (h6 : St (fun d => CM.wheres n d) s5 l s6) : St (fun d => CM.updates n d) s (.mk 7 t m [] [] [x] [] [] [] l [] false []) s6 :=
 St.bnd h1 (St.bnd (St.needs_of h2) (St.bnd h3 (St.bnd (St.needs_of h4) (St.bnd h5 (St.bnd h6 (St.ret _ _))))))
theorem St.inserts (h1 : St (fun _ => CM.need [105, 110, 116, 111]) s () s1) (h2 : St (fun _ => CM.name) s1 t s2) (h3 : St (fun _ => CM.need [118, 97, 108, 117, 101, 115]) s2 () s3) (h4 : St (fun _ => CM.need [40]) s3 () s4) (h5 : St (fun d => CM.list (CM.expr n d)) s4 vs s5) (h6 : St (fun _ => CM.need [41]) s5 () s6) : St (fun d => CM.inserts n d) s (.mk 5 t [] [] [] vs [] [] [] [] [] false []) s6 :=
 St.bnd (St.needs_of h1) (St.bnd h2 (St.bnd (St.needs_2 h3 h4) (St.bnd h5 (St.bnd (St.needs_of h6) (St.ret _ _)))))
theorem St.w_insert (ht : taken [105, 110, 115, 101, 114, 116] s = true) (he : s1 = skip s) (h : St (fun d => CM.inserts n d) s1 y s2) : St (fun d => CM.writes n d (CM.err 5)) s y s2 := by subst he; exact St.opt1 ht h
theorem St.w_update (h0 : taken [105, 110, 115, 101, 114, 116] s = false) (ht : taken [117, 112, 100, 97, 116, 101] s = true) (he : s1 = skip s) (h : St (fun d => CM.updates n d) s1 y s2) : St (fun d => CM.writes n d (CM.err 5)) s y s2 := by subst he; exact St.opt2 h0 (St.opt1 ht h)
theorem St.w_delete (h0 : taken [105, 110, 115, 101, 114, 116] s = false) (h1 : taken [117, 112, 100, 97, 116, 101] s = false) (h2 : St (fun _ => CM.need [100, 101, 108, 101, 116, 101]) s () s1) (h : St (fun d => CM.deletes n d) s1 y s2) : St (fun d => CM.writes n d (CM.err 5)) s y s2 := by
 refine St.opt2 h0 (St.opt2 (f := fun d => CM.updates n d) (g := fun d => CM.opt [100, 101, 108, 101, 116, 101] (CM.deletes n d) (CM.err 5)) h1 ?_)
 have e : (fun d => CM.opt [100, 101, 108, 101, 116, 101] (CM.deletes n d) (CM.err 5)) = fun d => CM.bnd (CM.need [100, 101, 108, 101, 116, 101]) fun _ => CM.deletes n d := funext fun d => opt_need _ _
 rw [e]
 exact St.bnd h2 h
end
theorem ss_mk {A : Nat -> Prop} {w : World} {x : PM.St} {cs : List Value} (h : SR A w x cs) (hn : A w.heap.size) : SS A (w.alloc (.cells cs.toArray 29)) [x] (.slice (some ⟨w.heap.size, 0, none⟩) 1 1) := by
 have hb := Blk.new w 29 cs
 have hl : cs.length = 13 := h.length
 have hL : Px.SL A (w.alloc (.cells cs.toArray 29)) [x] (cs ++ []) := .cons x [] cs [] (Px.SR.keep ((Fr.refl [] w).alloc _) (by simp) h) .nil
 rw [List.append_nil] at hL
 refine .mk [x] _ cs hL ⟨by simp [hl], .inr ⟨w.heap.size, 0, 1, cs, rfl, hb, Nat.le_refl _, by simp [maxLen], by simp [hl], ?_⟩⟩ (fun g hg => by simp only [Value.ownBlock, Option.some.injEq] at hg; subst hg; exact hn)
 rw [List.drop_zero, List.take_of_length_le (by simp [hl])]
theorem bnd_as {α β : Type} (f : CM.P α) (g : CM.P Unit) (K : α -> CM.P β) : CM.bnd (CM.bnd f fun ts => CM.bnd g fun _ => CM.ret ts) K = CM.bnd f (fun ts => CM.bnd g fun _ => K ts) := funext fun l => by
 unfold CM.bnd
 cases f l with
 |error e => rfl
 |ok r =>
  obtain ⟨a, l1⟩ := r
  dsimp only
  cases g l1 with
  |error e => rfl
  |ok r => rfl
def tagsAs : CM.P (List Int) := CM.bnd CM.tags fun ts => CM.bnd (CM.needs [[97, 115]]) fun _ => CM.ret ts
theorem as_kind {l : List Tok} (h : CM.is [97, 115] l = true) : (CM.now l).kind ≠ 3 := fun h3 => by
 simp only [CM.is, Bool.and_eq_true, PM.wordy, h3] at h
 simp at h
theorem St.tags_no {s s2 : PS} (hi : CM.is [97, 115] s.l = true) (h : St (fun _ => CM.need [97, 115]) s () s2) : St (fun _ => tagsAs) s [] s2 :=
 St.bnd (d := fun ts _ => CM.bnd (CM.needs [[97, 115]]) fun _ => CM.ret ts) (s1 := s) (St.at (c' := fun _ => CM.ret []) (fun _ => by unfold CM.tags; exact if_neg (as_kind hi)) (St.ret _ _)) (St.bnd (d := fun _ _ => CM.ret []) (St.needs_of h) (St.ret _ _))
theorem St.tags_as {s s1 s2 : PS} {l : List Int} (h1 : St (fun _ => CM.list CM.tag) s l s1) (hi : CM.is [97, 115] s.l = false) (h : St (fun _ => CM.need [97, 115]) s1 () s2) : St (fun _ => tagsAs) s l s2 := by
 by_cases hk : (now s).kind = 3
 ·exact St.bnd (d := fun ts _ => CM.bnd (CM.needs [[97, 115]]) fun _ => CM.ret ts) (St.at (c' := fun _ => CM.list CM.tag) (fun _ => by unfold CM.tags; exact if_pos hk) h1) (St.bnd (d := fun _ _ => CM.ret l) (St.needs_of h) (St.ret _ _))
 ·by_cases e0 : s.e = 0
  ·have k1 := h1.2 e0
   have hl : CM.list CM.tag s.l = .error ((now s).pos, 5) := bnd_err (tag_err5 hk)
   simp only [hl] at k1
   obtain ⟨g1, g2, g3⟩ := k1
   obtain ⟨f1, f2, f3⟩ := h.1 (by rw [g1]; decide)
   refine ⟨fun e => absurd e0 e, fun _ => ?_⟩
   have ht : CM.tags s.l = .ok ([], s.l) := by unfold CM.tags; exact if_neg hk
   have hn : CM.needs [[97, 115]] s.l = .error ((now s).pos, 5) := by
    show CM.bnd (CM.need [97, 115]) _ s.l = _
    refine bnd_err ?_
    unfold CM.need CM.opt
    rw [if_neg (by rw [hi]; decide)]
    rfl
   have hT : tagsAs s.l = .error ((now s).pos, 5) := by
    have e : tagsAs s.l = CM.bnd (CM.needs [[97, 115]]) (fun _ => CM.ret ([] : List Int)) s.l := by
     unfold tagsAs
     generalize CM.needs [[97, 115]] = f
     unfold CM.bnd
     rw [ht]
    rw [e]
    exact bnd_err hn
   simp only [hT]
   exact ⟨by rw [f1, g1], by rw [f2, g2], by decide⟩
  ·obtain ⟨g1, g2, g3⟩ := h1.1 e0
   obtain ⟨f1, f2, f3⟩ := h.1 (by rw [g1]; exact e0)
   exact St.same e0 (f1.trans g1) (f2.trans g2) (f3.trans g3) l
section
variable {n : Nat} {s s1 s2 s3 s4 s5 s6 : PS} {m t : B} {cs : List Col} {ts : List Int} {y : PM.St}
theorem St.tables (h1 : St (fun _ => CM.name) s m s1) (h2 : St (fun _ => CM.need [40]) s1 () s2) (h3 : St (fun _ => CM.list CM.col) s2 cs s3) (h4 : St (fun _ => CM.need [41]) s3 () s4) : St (fun _ => CM.tables) s (.mk 1 [] m cs [] [] [] [] [] [] [] false []) s4 :=
 St.bnd h1 (St.bnd (St.needs_of h2) (St.bnd h3 (St.bnd (St.needs_of h4) (St.ret _ _))))
theorem St.indexes (h1 : St (fun _ => CM.need [111, 110]) s () s1) (h2 : St (fun _ => CM.name) s1 t s2) (h3 : St (fun _ => CM.need [40]) s2 () s3) (h4 : St (fun _ => CM.name) s3 m s4) (h5 : St (fun _ => CM.need [41]) s4 () s5) : St (fun _ => CM.indexes) s (.mk 2 t m [] [] [] [] [] [] [] [] false []) s5 :=
 St.bnd (St.needs_of h1) (St.bnd h2 (St.bnd (St.needs_of h3) (St.bnd h4 (St.bnd (St.needs_of h5) (St.ret _ _)))))
theorem St.door {inn : Int -> CM.P PM.St} {k : Int} (h1 : St (fun _ => CM.name) s m s1) (h2 : St (fun _ => CM.need [115, 116, 114, 105, 112]) s1 () s2) (h3 : St (fun _ => tagsAs) s2 ts s3) (h4 : St inn s3 y s4) : St (fun d => CM.door k (inn d)) s (CM.doorSt k m ts y) s4 := by
 refine St.bnd h1 (St.bnd (St.needs_of h2) ?_)
 have e : (fun d => CM.bnd tagsAs fun ts => CM.bnd (inn d) fun st => CM.ret (CM.doorSt k m ts st)) = (fun d => CM.bnd CM.tags fun ts => CM.bnd (CM.needs [[97, 115]]) fun _ => CM.bnd (inn d) fun st => CM.ret (CM.doorSt k m ts st)) := funext fun d => bnd_as _ _ _
 rw [<- e]
 exact St.bnd (d := fun ts d => CM.bnd (inn d) fun st => CM.ret (CM.doorSt k m ts st)) h3 (St.bnd (d := fun st _ => CM.ret (CM.doorSt k m ts st)) h4 (St.ret _ _))
theorem St.items_all {s s1 : PS} (ht : taken [42] s = true) (he : s1 = skip s) : St (fun _ => CM.items) s [] s1 := by subst he; exact St.opt1 ht (St.ret _ _)
theorem St.items_some {s s1 : PS} {l : List It} (ht : taken [42] s = false) (h : St (fun _ => CM.list CM.item) s l s1) : St (fun _ => CM.items) s l s1 := St.opt2 ht h
theorem St.joins_no (ht : taken [106, 111, 105, 110] s = false) : St (fun _ => CM.joins) s ([], []) s := St.opt2 ht (St.ret _ _)
theorem St.joins_yes {a b : Ex} (ht : taken [106, 111, 105, 110] s = true) (he : s1 = skip s) (h1 : St (fun _ => CM.name) s1 m s2) (h2 : St (fun _ => CM.need [111, 110]) s2 () s3) (h3 : St (fun _ => CM.column) s3 a s4) (h4 : St (fun _ => CM.need [61]) s4 () s5) (h5 : St (fun _ => CM.column) s5 b s6) : St (fun _ => CM.joins) s (m, [a, b]) s6 := by
 subst he
 exact St.opt1 (f := fun _ => CM.bnd CM.name fun j => CM.bnd (CM.needs [[111, 110]]) fun _ => CM.bnd CM.column fun a => CM.bnd (CM.needs [[61]]) fun _ => CM.bnd CM.column fun b => CM.ret (j, [a, b])) (g := fun _ => CM.ret ([], [])) ht (St.bnd h1 (St.bnd (St.needs_of h2) (St.bnd h3 (St.bnd (St.needs_of h4) (St.bnd h5 (St.ret _ _))))))
theorem St.desc (s : PS) : St (fun _ => CM.desc) s (taken [100, 101, 115, 99] s) (took [100, 101, 115, 99] s) := by
 unfold took
 cases h : taken [100, 101, 115, 99] s with
 |true => rw [if_pos rfl]; exact St.opt1 (f := fun _ => CM.ret true) (g := fun _ => CM.ret false) h (St.ret _ _)
 |false => rw [if_neg (by decide)]; exact St.opt2 (f := fun _ => CM.ret true) (g := fun _ => CM.ret false) h (St.ret _ _)
theorem St.orders_no (ht : taken [111, 114, 100, 101, 114] s = false) : St (fun _ => CM.orders) s ([], false) s := St.opt2 ht (St.ret _ _)
theorem St.orders_yes {c : Ex} {b : Bool} (ht : taken [111, 114, 100, 101, 114] s = true) (he : s1 = skip s) (h1 : St (fun _ => CM.need [98, 121]) s1 () s2) (h2 : St (fun _ => CM.column) s2 c s3) (h3 : St (fun _ => CM.desc) s3 b s4) : St (fun _ => CM.orders) s ([c], b) s4 := by
 subst he
 exact St.opt1 (f := fun _ => CM.bnd (CM.needs [[98, 121]]) fun _ => CM.bnd CM.column fun c => CM.bnd CM.desc fun d => CM.ret ([c], d)) (g := fun _ => CM.ret ([], false)) ht (St.bnd (St.needs_of h1) (St.bnd h2 (St.bnd h3 (St.ret _ _))))
theorem St.selects {its : List It} {j : B × List Ex} {wh : List Ex} {o : List Ex × Bool} (h0 : St (fun _ => CM.items) s its s1) (h1 : St (fun _ => CM.need [102, 114, 111, 109]) s1 () s2) (h2 : St (fun _ => CM.name) s2 t s3) (h3 : St (fun _ => CM.joins) s3 j s4) (h4 : St (fun d => CM.wheres n d) s4 wh s5) (h5 : St (fun _ => CM.orders) s5 o s6) : St (fun d => CM.selects n d) s (.mk 6 t [] [] [] [] its j.1 j.2 wh o.1 o.2 []) s6 :=
 St.bnd h0 (St.bnd (St.needs_of h1) (St.bnd h2 (St.bnd h3 (St.bnd h4 (St.bnd h5 (St.ret _ _))))))
def selectsW (n : Nat) (d : Int) : CM.P PM.St := CM.bnd (CM.need [115, 101, 108, 101, 99, 116]) fun _ => CM.selects n d
theorem St.c_table (ht : taken [116, 97, 98, 108, 101] s = true) (he : s1 = skip s) (h : St (fun _ => CM.tables) s1 y s2) : St (fun d => CM.create n d) s y s2 := by subst he; exact St.opt1 ht h
theorem St.c_index (h0 : taken [116, 97, 98, 108, 101] s = false) (ht : taken [105, 110, 100, 101, 120] s = true) (he : s1 = skip s) (h : St (fun _ => CM.indexes) s1 y s2) : St (fun d => CM.create n d) s y s2 := by subst he; exact St.opt2 h0 (St.opt1 ht h)
theorem St.c_view (h0 : taken [116, 97, 98, 108, 101] s = false) (h1 : taken [105, 110, 100, 101, 120] s = false) (ht : taken [118, 105, 101, 119] s = true) (he : s1 = skip s) (h : St (fun d => CM.door 3 (selectsW n d)) s1 y s2) : St (fun d => CM.create n d) s y s2 := by
 subst he
 have e : (fun d => CM.door 3 (CM.opt [115, 101, 108, 101, 99, 116] (CM.selects n d) (CM.err 5))) = (fun d => CM.door 3 (selectsW n d)) := funext fun d => by rw [opt_need]; rfl
 exact St.opt2 h0 (St.opt2 (f := fun _ => CM.indexes) (g := fun d => CM.opt [118, 105, 101, 119] (CM.door 3 (CM.opt [115, 101, 108, 101, 99, 116] (CM.selects n d) (CM.err 5))) (CM.opt [99, 108, 111, 115, 117, 114, 101] (CM.door 4 (CM.writes n d (CM.err 5))) (CM.err 5))) h1 (St.opt1 (f := fun d => CM.door 3 (CM.opt [115, 101, 108, 101, 99, 116] (CM.selects n d) (CM.err 5))) (g := fun d => CM.opt [99, 108, 111, 115, 117, 114, 101] (CM.door 4 (CM.writes n d (CM.err 5))) (CM.err 5)) ht (by rw [e]; exact h)))
theorem St.c_closure (h0 : taken [116, 97, 98, 108, 101] s = false) (h1 : taken [105, 110, 100, 101, 120] s = false) (h2 : taken [118, 105, 101, 119] s = false) (h3 : St (fun _ => CM.need [99, 108, 111, 115, 117, 114, 101]) s () s1) (h : St (fun d => CM.door 4 (CM.writes n d (CM.err 5))) s1 y s2) : St (fun d => CM.create n d) s y s2 := by
 have e : (fun d => CM.opt [99, 108, 111, 115, 117, 114, 101] (CM.door 4 (CM.writes n d (CM.err 5))) (CM.err 5)) = (fun d => CM.bnd (CM.need [99, 108, 111, 115, 117, 114, 101]) fun _ => CM.door 4 (CM.writes n d (CM.err 5))) := funext fun d => opt_need _ _
 exact St.opt2 h0 (St.opt2 (f := fun _ => CM.indexes) (g := fun d => CM.opt [118, 105, 101, 119] (CM.door 3 (CM.opt [115, 101, 108, 101, 99, 116] (CM.selects n d) (CM.err 5))) (CM.opt [99, 108, 111, 115, 117, 114, 101] (CM.door 4 (CM.writes n d (CM.err 5))) (CM.err 5))) h1 (St.opt2 (f := fun d => CM.door 3 (CM.opt [115, 101, 108, 101, 99, 116] (CM.selects n d) (CM.err 5))) (g := fun d => CM.opt [99, 108, 111, 115, 117, 114, 101] (CM.door 4 (CM.writes n d (CM.err 5))) (CM.err 5)) h2 (by rw [e]; exact St.bnd h3 h)))
end
theorem gr_ex {b0 : Nat} {w : World} {v : Value} {l : List Ex} (h : Gr kEx 82 b0 w v l) : Rep.Es 82 (fun g => b0 <= g) w l v := Px.ex_es h.done
set_option maxRecDepth 1000000 in
set_option maxHeartbeats 8000000 in
theorem writes_any (n : Nat) (P : Nat) (s : PS) (w : World) (h : RR w P s) (hw : Wd s) (hn : s.l.length <= n) :
  Calls Tryz.prog 66 #[.pointer (some ⟨P, 0, none⟩)] w (StO (fun d => CM.writes n d (CM.err 5)) P s w) := by
 have hPl := h.lt
 have HH0 := Hd (h.alloc (.cells #[.int .i64 0, .string ⟨#[]⟩, .string ⟨#[]⟩, .slice none 0 0, .slice none 0 0, .slice none 0 0, .slice none 0 0, .string ⟨#[]⟩, .slice none 0 0, .slice none 0 0, .slice none 0 0, .bool false, .slice none 0 0] 29))
 have HD0 := Hd (Dp.refl hw)
 have HB0 := Hd (Blk.new w 29 [.int .i64 0, .string ⟨#[]⟩, .string ⟨#[]⟩, .slice none 0 0, .slice none 0 0, .slice none 0 0, .slice none 0 0, .string ⟨#[]⟩, .slice none 0 0, .slice none 0 0, .slice none 0 0, .bool false, .slice none 0 0])
 have HF0 := Hd ((Fr.refl [some P] w).alloc (.cells #[.int .i64 0, .string ⟨#[]⟩, .string ⟨#[]⟩, .slice none 0 0, .slice none 0 0, .slice none 0 0, .slice none 0 0, .string ⟨#[]⟩, .slice none 0 0, .slice none 0 0, .slice none 0 0, .bool false, .slice none 0 0] 29))
 clear h hw
 go_enter Tryz.func66, Tryz.ntmps66
 go_upto_region 1 with fail
 generalize hw0e : w.alloc (.cells #[.int .i64 0, .string ⟨#[]⟩, .string ⟨#[]⟩, .slice none 0 0, .slice none 0 0, .slice none 0 0, .slice none 0 0, .string ⟨#[]⟩, .slice none 0 0, .slice none 0 0, .slice none 0 0, .bool false, .slice none 0 0] 29) = w0 at HH0 HB0 HF0 ⊢
 clear hw0e
 have hb0 := HB0.out.lt
 have hp0 := HH0.out.lt
 go_wp2_with fail
 refine (take_any P [105, 110, 115, 101, 114, 116] s _ HH0.out).mono ?_
 rintro e w21 ⟨rfl, h, hf⟩
 have HFt21 := Hd hf
 have HHt21 := Hd h
 clear h hf
 cases ht : taken [105, 110, 115, 101, 114, 116] s with
 |true =>
  have HT21 := Hd ht
  have hf := HFt21.out
  have hh : RR w21 P (skip s) := by have := HHt21.out; rw [took, ht] at this; exact this
  clear ht HFt21 HHt21
  have hlt21 := skip_lt HT21.out
  have HB21 := Hd (HB0.out.keep hf (by simp; omega))
  have HF21 := Hd (HF0.out.trans hf)
  have HH21 := Hd hh
  have HD21 := Hd (HD0.out.trans (Dp.skip HD0.out.wd))
  obtain ⟨s21, hs21⟩ : ∃ z, z = (skip s) := ⟨_, rfl⟩
  rw [<- hs21] at HH21 HD21 hlt21
  have HQ21 := Hd hs21
  clear hs21
  have hb21 := HB21.out.lt
  have hp21 := HH21.out.lt
  clear hf HH0 HB0 HF0 HD0
  clear hh
  have HHn22 := Hd (HH21.out.alloc (.cells #[.int .i64 5, .string ⟨#[]⟩, .string ⟨#[]⟩, .slice none 0 0, .slice none 0 0, .slice none 0 0, .slice none 0 0, .string ⟨#[]⟩, .slice none 0 0, .slice none 0 0, .slice none 0 0, .bool false, .slice none 0 0] 29))
  have HBn22 := Hd (Blk.alloc HB21.out (.cells #[.int .i64 5, .string ⟨#[]⟩, .string ⟨#[]⟩, .slice none 0 0, .slice none 0 0, .slice none 0 0, .slice none 0 0, .string ⟨#[]⟩, .slice none 0 0, .slice none 0 0, .slice none 0 0, .bool false, .slice none 0 0] 29))
  have HFn22 := Hd (HF21.out.alloc (.cells #[.int .i64 5, .string ⟨#[]⟩, .string ⟨#[]⟩, .slice none 0 0, .slice none 0 0, .slice none 0 0, .slice none 0 0, .string ⟨#[]⟩, .slice none 0 0, .slice none 0 0, .slice none 0 0, .bool false, .slice none 0 0] 29))
  have HXn22 := Hd (Blk.new w21 29 [.int .i64 5, .string ⟨#[]⟩, .string ⟨#[]⟩, .slice none 0 0, .slice none 0 0, .slice none 0 0, .slice none 0 0, .string ⟨#[]⟩, .slice none 0 0, .slice none 0 0, .slice none 0 0, .bool false, .slice none 0 0])
  clear HH21 HB21 HF21
  go_upto_region 3 with fail
  generalize w21.alloc (.cells #[.int .i64 5, .string ⟨#[]⟩, .string ⟨#[]⟩, .slice none 0 0, .slice none 0 0, .slice none 0 0, .slice none 0 0, .string ⟨#[]⟩, .slice none 0 0, .slice none 0 0, .slice none 0 0, .bool false, .slice none 0 0] 29) = wn22 at HHn22 HBn22 HFn22 HXn22 ⊢
  have hxn22 := HXn22.out.lt
  have hpn22 := HHn22.out.lt
  go_wp2_with fail
  refine (must_any P [105, 110, 116, 111] s21 _ HHn22.out).mono ?_
  rintro e w23 ⟨rfl, h, hf⟩
  have HS23 := Hd (St.must [105, 110, 116, 111] s21)
  have HB23 := Hd (HBn22.out.keep hf (by simp; omega))
  have HX23 := Hd (HXn22.out.keep hf (by simp; omega))
  have HF23 := Hd (HFn22.out.trans hf)
  have HH23 := Hd h
  have HD23 := Hd (HD21.out.trans (Dp.musted HD21.out.wd [105, 110, 116, 111]))
  obtain ⟨s23, hs23⟩ : ∃ z, z = (musted [105, 110, 116, 111] s21) := ⟨_, rfl⟩
  rw [<- hs23] at HH23 HD23 HS23
  have HQ23 := Hd hs23
  clear hs23
  have hb23 := HB23.out.lt
  have hp23 := HH23.out.lt
  have hx23 := HX23.out.lt
  clear hf HHn22 HBn22 HFn22 HD21 HXn22
  clear h
  go_wp2_with fail
  refine (name_any P s23 _ HH23.out).mono ?_
  rintro e w24 ⟨m24, rfl, h, hst, hf⟩
  have HS24 := Hd hst
  clear hst
  have HB24 := Hd (HB23.out.keep hf (by simp; omega))
  have HX24 := Hd (HX23.out.keep hf (by simp; omega))
  have HF24 := Hd (HF23.out.trans hf)
  have HH24 := Hd h
  have HD24 := Hd (HD23.out.trans (Dp.worded HD23.out.wd 1))
  obtain ⟨s24, hs24⟩ : ∃ z, z = (worded 1 s23) := ⟨_, rfl⟩
  rw [<- hs24] at HH24 HD24 HS24
  have HQ24 := Hd hs24
  clear hs24
  have hb24 := HB24.out.lt
  have hp24 := HH24.out.lt
  have hx24 := HX24.out.lt
  clear hf HH23 HB23 HF23 HD23 HX23
  clear h
  have x1_25 := HX24.out.cell 1
  have f1_25 := HX24.out.free 1
  simp only [List.getElem?_cons_zero, List.getElem?_cons_succ] at x1_25
  have hfs := ((Fr.refl [some w21.heap.size] w24).setCell (p := ⟨w21.heap.size, 1, none⟩) (.inl (by simp)) (.string ⟨m24.toArray⟩))
  have HHs25 := Hd (HH24.out.keepP hfs (fun g hg => by simp; omega))
  have HBs25 := Hd (HB24.out.keep hfs (by simp; omega))
  have HXs25 := Hd (HX24.out.set 1 (.string ⟨m24.toArray⟩))
  simp only [List.set_cons_succ, List.set_cons_zero] at HXs25
  have HFs25 : Hid (Fr [some P] w (w24.setCell ⟨w21.heap.size, 1, none⟩ (.string ⟨m24.toArray⟩))) := Hd (HF24.out.trans' hfs (fun i hi => .inr (by simp at hi; omega)))
  have hsz25 : (w24.setCell ⟨w21.heap.size, 1, none⟩ (.string ⟨m24.toArray⟩)).heap.size = w24.heap.size := by simp [World.setCell]
  go_upto_region 5 with fail
  generalize (w24.setCell ⟨w21.heap.size, 1, none⟩ (.string ⟨m24.toArray⟩)) = wv25 at HHs25 HBs25 HXs25 HFs25 hsz25  ⊢
  clear hfs x1_25 f1_25 HH24 HB24 HF24 HX24
  have hxx25 := HXs25.out.lt
  have hpp25 := HHs25.out.lt
  have hbb25 := HBs25.out.lt
  go_wp2_with fail
  refine (must_any P [118, 97, 108, 117, 101, 115] s24 _ HHs25.out).mono ?_
  rintro e w26 ⟨rfl, h, hf⟩
  have HS26 := Hd (St.must [118, 97, 108, 117, 101, 115] s24)
  have HB26 := Hd (HBs25.out.keep hf (by simp; omega))
  have HX26 := Hd (HXs25.out.keep hf (by simp; omega))
  have HF26 := Hd (HFs25.out.trans hf)
  have HH26 := Hd h
  have HD26 := Hd (HD24.out.trans (Dp.musted HD24.out.wd [118, 97, 108, 117, 101, 115]))
  obtain ⟨s26, hs26⟩ : ∃ z, z = (musted [118, 97, 108, 117, 101, 115] s24) := ⟨_, rfl⟩
  rw [<- hs26] at HH26 HD26 HS26
  have HQ26 := Hd hs26
  clear hs26
  have hb26 := HB26.out.lt
  have hp26 := HH26.out.lt
  have hx26 := HX26.out.lt
  clear hf HHs25 HBs25 HFs25 HD24 HXs25
  clear h
  go_wp2_with fail
  refine (must_any P [40] s26 _ HH26.out).mono ?_
  rintro e w27 ⟨rfl, h, hf⟩
  have HS27 := Hd (St.must [40] s26)
  have HB27 := Hd (HB26.out.keep hf (by simp; omega))
  have HX27 := Hd (HX26.out.keep hf (by simp; omega))
  have HF27 := Hd (HF26.out.trans hf)
  have HH27 := Hd h
  have HD27 := Hd (HD26.out.trans (Dp.musted HD26.out.wd [40]))
  obtain ⟨s27, hs27⟩ : ∃ z, z = (musted [40] s26) := ⟨_, rfl⟩
  rw [<- hs27] at HH27 HD27 HS27
  have HQ27 := Hd hs27
  clear hs27
  have hb27 := HB27.out.lt
  have hp27 := HH27.out.lt
  have hx27 := HX27.out.lt
  clear hf HH26 HB26 HF26 HD26 HX26
  clear h
  go_upto_region 7 with fail
  have HG0 : Hid (Gr kEx 82 (w21.heap.size + 1) w27 (.slice none 0 0) []) := Hd Gr.nil
  have HLEN : Hid (([] : List Ex).length <= 1000) := Hd (by simp)
  have hle1 := HD27.out.len
  have hown : ∀ b, (Value.ownBlock (.slice none 0 0)) = some b -> w21.heap.size < b /\ b < w27.heap.size := fun b hb => ⟨HG0.out.own b hb, HG0.out.live b hb⟩
  have HOWN := Hd hown
  have hnm : ∀ b, w.heap.size <= b -> b <= w21.heap.size -> some b ∉ [some P, Value.ownBlock (.slice none 0 0)] := fun b h1 h2 hm => by simp only [List.mem_cons, Option.some.injEq, List.not_mem_nil, or_false] at hm; rcases hm with h | h; omega; have := hown _ h.symm; omega
  have HNM := Hd hnm
  have HKEY : Hid (∀ W', Fr [some P, Value.ownBlock (.slice none 0 0)] w27 W' -> W'.cell? ⟨w21.heap.size, 5, none⟩ = some (.slice none 0 0)) := Hd (fun W' hW => (HX27.out.keep hW (hnm _ (by omega) (Nat.le_refl _))).cell 5)
  have hfq : Fr [some P, Value.ownBlock (.slice none 0 0)] w27 w27.drew := Fr.drew (Fr.refl _ w27)
  have hI0 := HKEY.out _ hfq
  clear hown hnm
  refine Seq3.wp_region_text (fun i => i != 3 && i != 4 && i != 5 && i != 7) (fun _ => none) (fun i => i == 7) (fun w' => w'.cell? ⟨w21.heap.size, 5, none⟩ = some (.slice none 0 0)) (by kernel_rfl) (by kernel_rfl) hI0 ?_
  (refine Seq3.wpL_quiet rfl rfl rfl (fun K hK => ?_); go_big_quiet_op; (first | refine hK _ ?_ | refine ⟨_, by intros; rfl, hK _ ?_⟩); clear hK K)
  refine Seq3.wpL_held (v := .slice none 0 0) rfl rfl (fun w' hI => ?_) ?_
  ·have hI' : w'.cell? ⟨w21.heap.size, 5, none⟩ = some (.slice none 0 0) := hI
   simp [go_sem, execOp, hI']
  simp only [Act.put, List.setIfInBounds_toArray, List.set_cons_succ, List.set_cons_zero]
  (refine Seq3.wpL_quiet rfl rfl rfl (fun K hK => ?_); go_big_quiet_op; (first | refine hK _ ?_ | refine ⟨_, by intros; rfl, hK _ ?_⟩); clear hK K)
  refine Seq3.wpL_call rfl rfl (by kernel_rfl) (exp_any n P s27 w27.drew HH27.out.drew HD27.out.wd (by omega)) ?_
  rintro e wx ⟨x, sx, xs, rfl, hx, h, hst, hd, hf⟩
  obtain ⟨op, kind, int, t, tb, nm, va, vl, vc, rfl⟩ := e_form hx
  have hf1 := hfq.trans' hf (by simp)
  refine ⟨_, rfl, HKEY.out _ hf1, ?_⟩
  simp only [Act.put, List.setIfInBounds_toArray, List.set_cons_succ, List.set_cons_zero]
  have HGx := Hd ((HG0.out.keep (Fr.drew (Fr.refl [] w27)) (by simp)).keep hf (fun g hg => by simp; omega))
  have hsx := hf.size
  simp only [World.size_drew] at hsx
  have HST28 := Hd hst
  have HDx := Hd hd
  have HRx := Hd h
  have hpx := h.lt
  have HEy := Hd (Rep.E.mono (A' := fun b => w21.heap.size + 1 <= b /\ w27.heap.size <= b) (fun g hg => ⟨by simp at hg; omega, by simpa using hg⟩) hx)
  clear hx
  clear hst hd h hf
  have hf3 := hf1.alloc (.cells #[.int .i64 op, .int .i64 kind, .int .i64 int, .string ⟨t.toArray⟩, .string ⟨tb.toArray⟩, .string ⟨nm.toArray⟩, .slice va vl vc] 82)
  refine Seq3.wpL_val (v := .slice (some ⟨wx.heap.size, 0, none⟩) 1 1) (w' := wx.alloc (.cells #[.int .i64 op, .int .i64 kind, .int .i64 int, .string ⟨t.toArray⟩, .string ⟨tb.toArray⟩, .string ⟨nm.toArray⟩, .slice va vl vc] 82)) rfl rfl (by simp [go_sem, execOp]) (HKEY.out _ hf3) ?_
  simp only [Act.put, List.setIfInBounds_toArray, List.set_cons_succ, List.set_cons_zero]
  obtain ⟨⟨cs, hRL, hROW⟩, hGO⟩ := HGx.out
  have HRL := Hd hRL
  have HROW := Hd hROW
  have HROWz := Hd (hROW.keep ((Fr.refl [] wx).alloc (.cells #[.int .i64 op, .int .i64 kind, .int .i64 int, .string ⟨t.toArray⟩, .string ⟨tb.toArray⟩, .string ⟨nm.toArray⟩, .slice va vl vc] 82)) (by simp))
  clear hRL hROW hGO
  obtain ⟨hmx, hby⟩ := Px.lim96 (n := ([]).length) (b := 96) HLEN.out (by decide)
  obtain ⟨i0, hi, hz0, hz1, hz2⟩ := info_parts inf_ex
  refine wpL_append rfl rfl _ _ 25 rfl 82 i0 (.agg #[.int .i64 0, .int .i64 0, .int .i64 0, .string ⟨#[]⟩, .string ⟨#[]⟩, .string ⟨#[]⟩, .slice none 0 0]) 7 96 Tryz.underlying25 hi hz0 hz1 hz2 rfl (by decide) (.slice none 0 0) ([]).length cs rfl HROWz.out ⟨wx.heap.size, 0, none⟩ 1 1 [.int .i64 op, .int .i64 kind, .int .i64 int, .string ⟨t.toArray⟩, .string ⟨tb.toArray⟩, .string ⟨nm.toArray⟩, .slice va vl vc] rfl rfl (Lx.four_new wx 82 [.int .i64 op, .int .i64 kind, .int .i64 int, .string ⟨t.toArray⟩, .string ⟨tb.toArray⟩, .string ⟨nm.toArray⟩, .slice va vl vc]) (by simp [Value.oneCell']) hmx hby ?_
  intro v' wv hrv hfv hov
  have hfT := hf3.trans' hfv (fun g hg => .inl (by simp only [List.mem_cons, List.not_mem_nil, or_false] at hg ⊢; exact .inr hg))
  refine ⟨.inr (HKEY.out _ hfT), ?_⟩
  simp only [Act.put, List.setIfInBounds_toArray, List.set_cons_succ, List.set_cons_zero]
  obtain ⟨a28, l28, c28, rfl⟩ := row_slice' hrv
  have hx : kEx.E (fun b => w21.heap.size + 1 <= b /\ (Value.ownBlock (.slice none 0 0)) ≠ some b) wx x [.int .i64 op, .int .i64 kind, .int .i64 int, .string ⟨t.toArray⟩, .string ⟨tb.toArray⟩, .string ⟨nm.toArray⟩, .slice va vl vc] := Rep.E.mono (fun b hb => ⟨hb.1, fun h => by have := (HOWN.out b h).2; omega⟩) (Rep.E.mono (A' := fun b => w21.heap.size + 1 <= b /\ w27.heap.size <= b) (fun b hb => hb) HEy.out)
  obtain ⟨st1, _⟩ := Gr.push (x := x) HRL.out HROW.out (fun g hg => (HOWN.out g hg).1) (by omega) hx hrv hfv (by rw [World.size_alloc] at hov; exact hov)
  have HGv := Hd st1
  have HRv := Hd ((HRx.out.alloc (.cells #[.int .i64 op, .int .i64 kind, .int .i64 int, .string ⟨t.toArray⟩, .string ⟨tb.toArray⟩, .string ⟨nm.toArray⟩, .slice va vl vc] 82)).keepP hfv (fun g hg hm => by simp only [List.mem_cons, List.not_mem_nil, or_false] at hm; have := (HOWN.out g hm.symm).1; omega))
  have HBv := Hd (HB27.out.keep hfT (HNM.out _ (Nat.le_refl _) (by omega)))
  have HXv := Hd (HX27.out.keep hfT (HNM.out _ (by omega) (Nat.le_refl _)))
  have HFv := Hd (HF27.out.trans' hfT (fun i hi => by simp only [List.mem_cons, Option.some.injEq, List.not_mem_nil, or_false] at hi ⊢; rcases hi with h | h; exact .inl h; exact .inr (by have := (HOWN.out i h.symm).1; omega)))
  have hsv := hfv.size
  simp only [World.size_alloc] at hsv
  clear hrv hfv hov hmx hby st1 HRL HROW HROWz hx
  (refine Seq3.wpL_quiet rfl rfl rfl (fun K hK => ?_); go_big_quiet_op; (first | refine hK _ ?_ | refine ⟨_, by intros; rfl, hK _ ?_⟩); clear hK K)
  have k5 := HXv.out.cell 5
  have f5 := HXv.out.free 5
  simp only [List.getElem?_cons_zero, List.getElem?_cons_succ] at k5
  refine Seq3.wpL_lasts (w' := wv.setCell ⟨w21.heap.size, 5, none⟩ (.slice a28 l28 c28)) rfl rfl rfl (by simp [go_sem, execOp, k5, f5]) ?_
  simp only [Act.put, List.setIfInBounds_toArray, List.set_cons_succ, List.set_cons_zero]
  refine Seq3.wpL_nil ?_
  have hfs := (Fr.refl [some w21.heap.size] wv).setCell (p := ⟨w21.heap.size, 5, none⟩) (.inl (by simp)) (.slice a28 l28 c28)
  have HHa28 := Hd (HRv.out.keepP hfs (fun g hg => by simp; omega))
  have HBa28 := Hd (HBv.out.keep hfs (by simp; omega))
  have HXa28 := Hd (HXv.out.set 5 (.slice a28 l28 c28))
  simp only [List.set_cons_succ, List.set_cons_zero] at HXa28
  have HFa28 := Hd (HFv.out.trans' hfs (fun i hi => .inr (by simp at hi; omega)))
  have HGa28 := Hd (HGv.out.keep hfs (fun g hg => by simp; omega))
  have HDa28 := Hd (HD27.out.trans HDx.out)
  clear hI0 hfq hf1 hf3 hfT k5 f5 hfs HKEY HOWN HNM HGx HGv HRv HBv HXv HFv HRx hi hz0 hz1 hz2
  generalize wv.setCell ⟨w21.heap.size, 5, none⟩ (.slice a28 l28 c28) = wa28 at HHa28 HBa28 HXa28 HFa28 HGa28 ⊢
  have hxa28 := HXa28.out.lt
  have hpa28 := HHa28.out.lt
  have hba28 := HBa28.out.lt
  simp only [List.nil_append] at HGa28
  have hle2 := RR.le HHa28.out
  go_wp2_with fail
  go_loopw [] (fun wr => ∃ (acc : List Ex) (s' : PS) (a5 : Option Addr) (l5 c5 : Nat), Hid (∀ b s3, St (fun d => moreL (CM.expr n d) acc) s' b s3 -> St (fun d => CM.list (CM.expr n d)) s27 b s3) /\ Hid (Dp s s') /\ acc.length + s'.l.length <= 1001 /\ Hid (Gr kEx 82 (w21.heap.size + 1) wr (.slice a5 l5 c5) acc) /\ Hid (RR wr P s') /\ Hid (Blk wr w21.heap.size 29 [.int .i64 5, .string ⟨m24.toArray⟩, .string ⟨#[]⟩, .slice none 0 0, .slice none 0 0, .slice a5 l5 c5, .slice none 0 0, .string ⟨#[]⟩, .slice none 0 0, .slice none 0 0, .slice none 0 0, .bool false, .slice none 0 0]) /\ Hid (Blk wr w.heap.size 29 [.int .i64 0, .string ⟨#[]⟩, .string ⟨#[]⟩, .slice none 0 0, .slice none 0 0, .slice none 0 0, .slice none 0 0, .string ⟨#[]⟩, .slice none 0 0, .slice none 0 0, .slice none 0 0, .bool false, .slice none 0 0]) /\ Hid (Fr [some P] w wr)) (fun wr => meaR P wr)
  case atStart => exact ⟨[x], sx, _, _, _, Hd (fun b s3 h => St.bnd (d := fun x d => moreL (CM.expr n d) [x]) HST28.out h), HDa28, by simp; omega, HGa28, HHa28, HXa28, HBa28, HFa28⟩
  case round =>
   clear HGa28 HHa28 HXa28 HBa28 HFa28 HDa28 HST28
   obtain ⟨acc, s', a5, l5, c5, HK, HDr, hln, HGr, HRr, HXr, HBr, HFr⟩ := hrel
   have HMEA := Hd (meaR_of HRr.out)
   have hl1 := HXr.out.lt
   have hl2 := HBr.out.lt
   have hl3 := HRr.out.lt
   have hps := RR.pos HRr.out
   go_wp2_with fail
   refine (take_any P [44] s' _ HRr.out).mono ?_
   rintro e w29 ⟨rfl, h, hf⟩
   have HFt29 := Hd hf
   have HHt29 := Hd h
   clear h hf
   cases ht : taken [44] s' with
   |true =>
    have HG2 := Hd (HGr.out.keep HFt29.out (fun g hg => by simp; omega))
    have HT29 := Hd ht
    have hf := HFt29.out
    have hh : RR w29 P (skip s') := by have := HHt29.out; rw [took, ht] at this; exact this
    clear ht HFt29 HHt29
    have hlt29 := skip_lt HT29.out
    have HB29 := Hd (HBr.out.keep hf (by simp; omega))
    have HX29 := Hd (HXr.out.keep hf (by simp; omega))
    have HF29 := Hd (HFr.out.trans hf)
    have HH29 := Hd hh
    have HD29 := Hd (HDr.out.trans (Dp.skip HDr.out.wd))
    obtain ⟨s29, hs29⟩ : ∃ z, z = (skip s') := ⟨_, rfl⟩
    rw [<- hs29] at HH29 HD29 hlt29
    have HQ29 := Hd hs29
    clear hs29
    have hb29 := HB29.out.lt
    have hp29 := HH29.out.lt
    have hx29 := HX29.out.lt
    clear hf HRr HBr HFr HDr HXr
    clear hh
    have hle1 := HD29.out.len
    have HLEN : Hid (acc.length <= 1000) := Hd (by omega)
    go_upto_region 9 with fail
    have hown : ∀ b, (Value.ownBlock (.slice a5 l5 c5)) = some b -> w21.heap.size < b /\ b < w29.heap.size := fun b hb => ⟨HG2.out.own b hb, HG2.out.live b hb⟩
    have HOWN := Hd hown
    have hnm : ∀ b, w.heap.size <= b -> b <= w21.heap.size -> some b ∉ [some P, Value.ownBlock (.slice a5 l5 c5)] := fun b h1 h2 hm => by simp only [List.mem_cons, Option.some.injEq, List.not_mem_nil, or_false] at hm; rcases hm with h | h; omega; have := hown _ h.symm; omega
    have HNM := Hd hnm
    have HKEY : Hid (∀ W', Fr [some P, Value.ownBlock (.slice a5 l5 c5)] w29 W' -> W'.cell? ⟨w21.heap.size, 5, none⟩ = some (.slice a5 l5 c5)) := Hd (fun W' hW => (HX29.out.keep hW (hnm _ (by omega) (Nat.le_refl _))).cell 5)
    have hfq : Fr [some P, Value.ownBlock (.slice a5 l5 c5)] w29 w29.drew := Fr.drew (Fr.refl _ w29)
    have hI0 := HKEY.out _ hfq
    clear hown hnm
    refine Seq3.wp_region_text (fun i => i != 3 && i != 4 && i != 5 && i != 7) (fun _ => none) (fun i => i == 7) (fun w' => w'.cell? ⟨w21.heap.size, 5, none⟩ = some (.slice a5 l5 c5)) (by kernel_rfl) (by kernel_rfl) hI0 ?_
    (refine Seq3.wpL_quiet rfl rfl rfl (fun K hK => ?_); go_big_quiet_op; (first | refine hK _ ?_ | refine ⟨_, by intros; rfl, hK _ ?_⟩); clear hK K)
    refine Seq3.wpL_held (v := .slice a5 l5 c5) rfl rfl (fun w' hI => ?_) ?_
    ·have hI' : w'.cell? ⟨w21.heap.size, 5, none⟩ = some (.slice a5 l5 c5) := hI
     simp [go_sem, execOp, hI']
    simp only [Act.put, List.setIfInBounds_toArray, List.set_cons_succ, List.set_cons_zero]
    (refine Seq3.wpL_quiet rfl rfl rfl (fun K hK => ?_); go_big_quiet_op; (first | refine hK _ ?_ | refine ⟨_, by intros; rfl, hK _ ?_⟩); clear hK K)
    refine Seq3.wpL_call rfl rfl (by kernel_rfl) (exp_any n P s29 w29.drew HH29.out.drew HD29.out.wd (by omega)) ?_
    rintro e wx ⟨x, sx, xs, rfl, hx, h, hst, hd, hf⟩
    obtain ⟨op, kind, int, t, tb, nm, va, vl, vc, rfl⟩ := e_form hx
    have hf1 := hfq.trans' hf (by simp)
    refine ⟨_, rfl, HKEY.out _ hf1, ?_⟩
    simp only [Act.put, List.setIfInBounds_toArray, List.set_cons_succ, List.set_cons_zero]
    have HGx := Hd ((HG2.out.keep (Fr.drew (Fr.refl [] w29)) (by simp)).keep hf (fun g hg => by simp; omega))
    have hsx := hf.size
    simp only [World.size_drew] at hsx
    have HST30 := Hd hst
    have HDx := Hd hd
    have HRx := Hd h
    have hpx := h.lt
    have HEy := Hd (Rep.E.mono (A' := fun b => w21.heap.size + 1 <= b /\ w29.heap.size <= b) (fun g hg => ⟨by simp at hg; omega, by simpa using hg⟩) hx)
    clear hx
    clear hst hd h hf
    have hf3 := hf1.alloc (.cells #[.int .i64 op, .int .i64 kind, .int .i64 int, .string ⟨t.toArray⟩, .string ⟨tb.toArray⟩, .string ⟨nm.toArray⟩, .slice va vl vc] 82)
    refine Seq3.wpL_val (v := .slice (some ⟨wx.heap.size, 0, none⟩) 1 1) (w' := wx.alloc (.cells #[.int .i64 op, .int .i64 kind, .int .i64 int, .string ⟨t.toArray⟩, .string ⟨tb.toArray⟩, .string ⟨nm.toArray⟩, .slice va vl vc] 82)) rfl rfl (by simp [go_sem, execOp]) (HKEY.out _ hf3) ?_
    simp only [Act.put, List.setIfInBounds_toArray, List.set_cons_succ, List.set_cons_zero]
    obtain ⟨⟨cs, hRL, hROW⟩, hGO⟩ := HGx.out
    have HRL := Hd hRL
    have HROW := Hd hROW
    have HROWz := Hd (hROW.keep ((Fr.refl [] wx).alloc (.cells #[.int .i64 op, .int .i64 kind, .int .i64 int, .string ⟨t.toArray⟩, .string ⟨tb.toArray⟩, .string ⟨nm.toArray⟩, .slice va vl vc] 82)) (by simp))
    clear hRL hROW hGO
    obtain ⟨hmx, hby⟩ := Px.lim96 (n := (acc).length) (b := 96) HLEN.out (by decide)
    obtain ⟨i0, hi, hz0, hz1, hz2⟩ := info_parts inf_ex
    refine wpL_append rfl rfl _ _ 25 rfl 82 i0 (.agg #[.int .i64 0, .int .i64 0, .int .i64 0, .string ⟨#[]⟩, .string ⟨#[]⟩, .string ⟨#[]⟩, .slice none 0 0]) 7 96 Tryz.underlying25 hi hz0 hz1 hz2 rfl (by decide) (.slice a5 l5 c5) (acc).length cs rfl HROWz.out ⟨wx.heap.size, 0, none⟩ 1 1 [.int .i64 op, .int .i64 kind, .int .i64 int, .string ⟨t.toArray⟩, .string ⟨tb.toArray⟩, .string ⟨nm.toArray⟩, .slice va vl vc] rfl rfl (Lx.four_new wx 82 [.int .i64 op, .int .i64 kind, .int .i64 int, .string ⟨t.toArray⟩, .string ⟨tb.toArray⟩, .string ⟨nm.toArray⟩, .slice va vl vc]) (by simp [Value.oneCell']) hmx hby ?_
    intro v' wv hrv hfv hov
    have hfT := hf3.trans' hfv (fun g hg => .inl (by simp only [List.mem_cons, List.not_mem_nil, or_false] at hg ⊢; exact .inr hg))
    refine ⟨.inr (HKEY.out _ hfT), ?_⟩
    simp only [Act.put, List.setIfInBounds_toArray, List.set_cons_succ, List.set_cons_zero]
    obtain ⟨a30, l30, c30, rfl⟩ := row_slice' hrv
    have hx : kEx.E (fun b => w21.heap.size + 1 <= b /\ (Value.ownBlock (.slice a5 l5 c5)) ≠ some b) wx x [.int .i64 op, .int .i64 kind, .int .i64 int, .string ⟨t.toArray⟩, .string ⟨tb.toArray⟩, .string ⟨nm.toArray⟩, .slice va vl vc] := Rep.E.mono (fun b hb => ⟨hb.1, fun h => by have := (HOWN.out b h).2; omega⟩) (Rep.E.mono (A' := fun b => w21.heap.size + 1 <= b /\ w29.heap.size <= b) (fun b hb => hb) HEy.out)
    obtain ⟨st1, _⟩ := Gr.push (x := x) HRL.out HROW.out (fun g hg => (HOWN.out g hg).1) (by omega) hx hrv hfv (by rw [World.size_alloc] at hov; exact hov)
    have HGv := Hd st1
    have HRv := Hd ((HRx.out.alloc (.cells #[.int .i64 op, .int .i64 kind, .int .i64 int, .string ⟨t.toArray⟩, .string ⟨tb.toArray⟩, .string ⟨nm.toArray⟩, .slice va vl vc] 82)).keepP hfv (fun g hg hm => by simp only [List.mem_cons, List.not_mem_nil, or_false] at hm; have := (HOWN.out g hm.symm).1; omega))
    have HBv := Hd (HB29.out.keep hfT (HNM.out _ (Nat.le_refl _) (by omega)))
    have HXv := Hd (HX29.out.keep hfT (HNM.out _ (by omega) (Nat.le_refl _)))
    have HFv := Hd (HF29.out.trans' hfT (fun i hi => by simp only [List.mem_cons, Option.some.injEq, List.not_mem_nil, or_false] at hi ⊢; rcases hi with h | h; exact .inl h; exact .inr (by have := (HOWN.out i h.symm).1; omega)))
    have hsv := hfv.size
    simp only [World.size_alloc] at hsv
    clear hrv hfv hov hmx hby st1 HRL HROW HROWz hx
    (refine Seq3.wpL_quiet rfl rfl rfl (fun K hK => ?_); go_big_quiet_op; (first | refine hK _ ?_ | refine ⟨_, by intros; rfl, hK _ ?_⟩); clear hK K)
    have k5 := HXv.out.cell 5
    have f5 := HXv.out.free 5
    simp only [List.getElem?_cons_zero, List.getElem?_cons_succ] at k5
    refine Seq3.wpL_lasts (w' := wv.setCell ⟨w21.heap.size, 5, none⟩ (.slice a30 l30 c30)) rfl rfl rfl (by simp [go_sem, execOp, k5, f5]) ?_
    simp only [Act.put, List.setIfInBounds_toArray, List.set_cons_succ, List.set_cons_zero]
    refine Seq3.wpL_nil ?_
    have hfs := (Fr.refl [some w21.heap.size] wv).setCell (p := ⟨w21.heap.size, 5, none⟩) (.inl (by simp)) (.slice a30 l30 c30)
    have HHa30 := Hd (HRv.out.keepP hfs (fun g hg => by simp; omega))
    have HBa30 := Hd (HBv.out.keep hfs (by simp; omega))
    have HXa30 := Hd (HXv.out.set 5 (.slice a30 l30 c30))
    simp only [List.set_cons_succ, List.set_cons_zero] at HXa30
    have HFa30 := Hd (HFv.out.trans' hfs (fun i hi => .inr (by simp at hi; omega)))
    have HGa30 := Hd (HGv.out.keep hfs (fun g hg => by simp; omega))
    have HDa30 := Hd (HD29.out.trans HDx.out)
    clear hI0 hfq hf1 hf3 hfT k5 f5 hfs HKEY HOWN HNM HGx HGv HRv HBv HXv HFv HRx hi hz0 hz1 hz2
    generalize wv.setCell ⟨w21.heap.size, 5, none⟩ (.slice a30 l30 c30) = wa30 at HHa30 HBa30 HXa30 HFa30 HGa30 ⊢
    have hxa30 := HXa30.out.lt
    have hpa30 := HHa30.out.lt
    have hba30 := HBa30.out.lt
    have HK2 : Hid (∀ b s3, St (fun d => moreL (CM.expr n d) (acc ++ [x])) sx b s3 -> St (fun d => CM.list (CM.expr n d)) s27 b s3) := Hd (fun b s3 h => HK.out b s3 (St.more_next (fun d => ng_expr n d) HT29.out (by rw [<- HQ29.out]; exact HST30.out) h))
    have hdl := HDx.out.len
    have HME : Hid (meaR P wa30 < meaR P wr) := Hd (by rw [HMEA.out, meaR_of HHa30.out]; omega)
    have hl4 : (acc ++ [x]).length + sx.l.length <= 1001 := by simp only [List.length_append, List.length_cons, List.length_nil]; omega
    go_wp2_with fail
    go_roundw
    case rel => exact ⟨acc ++ [x], sx, _, _, _, HK2, HDa30, hl4, HGa30, HHa30, HXa30, HBa30, HFa30⟩
    case measure => exact HME.out
   |false =>
    have HG2 := Hd (HGr.out.keep HFt29.out (fun g hg => by simp; omega))
    have HT29 := Hd ht
    have hf := HFt29.out
    have hh : RR w29 P s' := by have := HHt29.out; rw [took, ht] at this; exact this
    clear ht HFt29 HHt29
    have HB29 := Hd (HBr.out.keep hf (by simp; omega))
    have HX29 := Hd (HXr.out.keep hf (by simp; omega))
    have HF29 := Hd (HFr.out.trans hf)
    have HH29 := Hd hh
    have HD29 := Hd (HDr.out.trans (Dp.refl HDr.out.wd))
    have hb29 := HB29.out.lt
    have hp29 := HH29.out.lt
    have hx29 := HX29.out.lt
    clear hf HRr HBr HFr HDr HXr
    clear hh
    have HSL := Hd (HK.out acc s' (St.more_end HT29.out))
    have HV0 := Hd (Rep.Es.mono (A' := fun b => w.heap.size < b /\ b ≠ w21.heap.size) (fun b hb => ⟨by omega, by omega⟩) (gr_ex HG2.out))
    clear HK HG2
    go_wp2_with fail
    refine (must_any P [41] s' _ HH29.out).mono ?_
    rintro e w30 ⟨rfl, h, hf⟩
    have HS30 := Hd (St.must [41] s')
    have HB30 := Hd (HB29.out.keep hf (by simp; omega))
    have HX30 := Hd (HX29.out.keep hf (by simp; omega))
    have HV5_30 := Hd (Rep.Es.keep hf (fun g hg => by have := hg.1; simp; omega) HV0.out)
    have HF30 := Hd (HF29.out.trans hf)
    have HH30 := Hd h
    have HD30 := Hd (HD29.out.trans (Dp.musted HD29.out.wd [41]))
    obtain ⟨s30, hs30⟩ : ∃ z, z = (musted [41] s') := ⟨_, rfl⟩
    rw [<- hs30] at HH30 HD30 HS30
    have HQ30 := Hd hs30
    clear hs30
    have hb30 := HB30.out.lt
    have hp30 := HH30.out.lt
    have hx30 := HX30.out.lt
    clear hf HH29 HB29 HF29 HD29 HX29 HV0
    clear h
    have HS := Hd (St.w_insert HT21.out HQ21.out (St.inserts (n := n) HS23.out HS24.out HS26.out HS27.out HSL.out HS30.out))
    obtain ⟨x0, x1, x2, x3, x4, x5, x6, x7, x8, x9, x10, x11, x12, f0, f1, f2, f3, f4, f5, f6, f7, f8, f9, f10, f11, f12⟩ := c13_of HX30.out
    obtain ⟨y0, y1, y2, y3, y4, y5, y6, y7, y8, y9, y10, y11, y12, k0, k1, k2, k3, k4, k5, k6, k7, k8, k9, k10, k11, k12⟩ := c13_of HB30.out
    have hRX : ¬ w21.heap.size = w.heap.size := by omega
    go_wp2_with fail
    exact bodyPost_ret (ret_cell13 rfl _ w.heap.size rfl _ _ _ _ _ _ _ _ _ _ _ _ _ _ (blkPut13 HB30.out _ _ _ _ _ _ _ _ _ _ _ _ _)) rfl ⟨.mk 5 m24 [] [] [] acc [] [] [] [] [] false [], s30, ⟨_, rfl, .mk 5 m24 [] [] [] acc [] [] [] [] [] false [] _ _ _ _ _ _ _ _ .nil .nil (Rep.Es.mono (A' := fun b => w.heap.size <= b) (fun b hb => by have := hb.1; omega) (Rep.Es.keep (frPut13 (Fr.refl [some w.heap.size] _) (.inl (by simp)) _ _ _ _ _ _ _ _ _ _ _ _ _) (fun b hb => by have := hb.1; simp; omega) HV5_30.out)) .nil Rep.Es.nil Rep.Es.nil Rep.Es.nil Px.SS.nil⟩, HH30.out.keepP (frPut13 (Fr.refl [some w.heap.size] _) (.inl (by simp)) _ _ _ _ _ _ _ _ _ _ _ _ _) (fun g hg => by simp; omega), HS.out, HD30.out, frPut13 HF30.out (.inr (Nat.le_refl _)) _ _ _ _ _ _ _ _ _ _ _ _ _⟩
 |false =>
  have HT21 := Hd ht
  have hf := HFt21.out
  have hh : RR w21 P s := by have := HHt21.out; rw [took, ht] at this; exact this
  clear ht HFt21 HHt21
  have HB21 := Hd (HB0.out.keep hf (by simp; omega))
  have HF21 := Hd (HF0.out.trans hf)
  have HH21 := Hd hh
  have HD21 := Hd (HD0.out.trans (Dp.refl HD0.out.wd))
  have hb21 := HB21.out.lt
  have hp21 := HH21.out.lt
  clear hf HH0 HB0 HF0 HD0
  clear hh
  go_wp2_with fail
  refine (take_any P [117, 112, 100, 97, 116, 101] s _ HH21.out).mono ?_
  rintro e w22 ⟨rfl, h, hf⟩
  have HFt22 := Hd hf
  have HHt22 := Hd h
  clear h hf
  cases ht : taken [117, 112, 100, 97, 116, 101] s with
  |true =>
   have HT22 := Hd ht
   have hf := HFt22.out
   have hh : RR w22 P (skip s) := by have := HHt22.out; rw [took, ht] at this; exact this
   clear ht HFt22 HHt22
   have hlt22 := skip_lt HT22.out
   have HB22 := Hd (HB21.out.keep hf (by simp; omega))
   have HF22 := Hd (HF21.out.trans hf)
   have HH22 := Hd hh
   have HD22 := Hd (HD21.out.trans (Dp.skip HD21.out.wd))
   obtain ⟨s22, hs22⟩ : ∃ z, z = (skip s) := ⟨_, rfl⟩
   rw [<- hs22] at HH22 HD22 hlt22
   have HQ22 := Hd hs22
   clear hs22
   have hb22 := HB22.out.lt
   have hp22 := HH22.out.lt
   clear hf HH21 HB21 HF21 HD21
   clear hh
   go_wp2_with fail
   refine (name_any P s22 _ HH22.out).mono ?_
   rintro e w23 ⟨m23, rfl, h, hst, hf⟩
   have HS23 := Hd hst
   clear hst
   have HB23 := Hd (HB22.out.keep hf (by simp; omega))
   have HF23 := Hd (HF22.out.trans hf)
   have HH23 := Hd h
   have HD23 := Hd (HD22.out.trans (Dp.worded HD22.out.wd 1))
   obtain ⟨s23, hs23⟩ : ∃ z, z = (worded 1 s22) := ⟨_, rfl⟩
   rw [<- hs23] at HH23 HD23 HS23
   have HQ23 := Hd hs23
   clear hs23
   have hb23 := HB23.out.lt
   have hp23 := HH23.out.lt
   clear hf HH22 HB22 HF22 HD22
   clear h
   have HHn24 := Hd (HH23.out.alloc (.cells #[.int .i64 7, .string ⟨m23.toArray⟩, .string ⟨#[]⟩, .slice none 0 0, .slice none 0 0, .slice none 0 0, .slice none 0 0, .string ⟨#[]⟩, .slice none 0 0, .slice none 0 0, .slice none 0 0, .bool false, .slice none 0 0] 29))
   have HBn24 := Hd (Blk.alloc HB23.out (.cells #[.int .i64 7, .string ⟨m23.toArray⟩, .string ⟨#[]⟩, .slice none 0 0, .slice none 0 0, .slice none 0 0, .slice none 0 0, .string ⟨#[]⟩, .slice none 0 0, .slice none 0 0, .slice none 0 0, .bool false, .slice none 0 0] 29))
   have HFn24 := Hd (HF23.out.alloc (.cells #[.int .i64 7, .string ⟨m23.toArray⟩, .string ⟨#[]⟩, .slice none 0 0, .slice none 0 0, .slice none 0 0, .slice none 0 0, .string ⟨#[]⟩, .slice none 0 0, .slice none 0 0, .slice none 0 0, .bool false, .slice none 0 0] 29))
   have HXn24 := Hd (Blk.new w23 29 [.int .i64 7, .string ⟨m23.toArray⟩, .string ⟨#[]⟩, .slice none 0 0, .slice none 0 0, .slice none 0 0, .slice none 0 0, .string ⟨#[]⟩, .slice none 0 0, .slice none 0 0, .slice none 0 0, .bool false, .slice none 0 0])
   clear HH23 HB23 HF23
   go_upto_region 14 with fail
   generalize w23.alloc (.cells #[.int .i64 7, .string ⟨m23.toArray⟩, .string ⟨#[]⟩, .slice none 0 0, .slice none 0 0, .slice none 0 0, .slice none 0 0, .string ⟨#[]⟩, .slice none 0 0, .slice none 0 0, .slice none 0 0, .bool false, .slice none 0 0] 29) = wn24 at HHn24 HBn24 HFn24 HXn24 ⊢
   have hxn24 := HXn24.out.lt
   have hpn24 := HHn24.out.lt
   go_wp2_with fail
   refine (must_any P [115, 101, 116] s23 _ HHn24.out).mono ?_
   rintro e w25 ⟨rfl, h, hf⟩
   have HS25 := Hd (St.must [115, 101, 116] s23)
   have HB25 := Hd (HBn24.out.keep hf (by simp; omega))
   have HX25 := Hd (HXn24.out.keep hf (by simp; omega))
   have HF25 := Hd (HFn24.out.trans hf)
   have HH25 := Hd h
   have HD25 := Hd (HD23.out.trans (Dp.musted HD23.out.wd [115, 101, 116]))
   obtain ⟨s25, hs25⟩ : ∃ z, z = (musted [115, 101, 116] s23) := ⟨_, rfl⟩
   rw [<- hs25] at HH25 HD25 HS25
   have HQ25 := Hd hs25
   clear hs25
   have hb25 := HB25.out.lt
   have hp25 := HH25.out.lt
   have hx25 := HX25.out.lt
   clear hf HHn24 HBn24 HFn24 HD23 HXn24
   clear h
   go_wp2_with fail
   refine (name_any P s25 _ HH25.out).mono ?_
   rintro e w26 ⟨m26, rfl, h, hst, hf⟩
   have HS26 := Hd hst
   clear hst
   have HB26 := Hd (HB25.out.keep hf (by simp; omega))
   have HX26 := Hd (HX25.out.keep hf (by simp; omega))
   have HF26 := Hd (HF25.out.trans hf)
   have HH26 := Hd h
   have HD26 := Hd (HD25.out.trans (Dp.worded HD25.out.wd 1))
   obtain ⟨s26, hs26⟩ : ∃ z, z = (worded 1 s25) := ⟨_, rfl⟩
   rw [<- hs26] at HH26 HD26 HS26
   have HQ26 := Hd hs26
   clear hs26
   have hb26 := HB26.out.lt
   have hp26 := HH26.out.lt
   have hx26 := HX26.out.lt
   clear hf HH25 HB25 HF25 HD25 HX25
   clear h
   have x2_27 := HX26.out.cell 2
   have f2_27 := HX26.out.free 2
   simp only [List.getElem?_cons_zero, List.getElem?_cons_succ] at x2_27
   have hfs := ((Fr.refl [some w23.heap.size] w26).setCell (p := ⟨w23.heap.size, 2, none⟩) (.inl (by simp)) (.string ⟨m26.toArray⟩))
   have HHs27 := Hd (HH26.out.keepP hfs (fun g hg => by simp; omega))
   have HBs27 := Hd (HB26.out.keep hfs (by simp; omega))
   have HXs27 := Hd (HX26.out.set 2 (.string ⟨m26.toArray⟩))
   simp only [List.set_cons_succ, List.set_cons_zero] at HXs27
   have HFs27 : Hid (Fr [some P] w (w26.setCell ⟨w23.heap.size, 2, none⟩ (.string ⟨m26.toArray⟩))) := Hd (HF26.out.trans' hfs (fun i hi => .inr (by simp at hi; omega)))
   have hsz27 : (w26.setCell ⟨w23.heap.size, 2, none⟩ (.string ⟨m26.toArray⟩)).heap.size = w26.heap.size := by simp [World.setCell]
   go_upto_region 16 with fail
   generalize (w26.setCell ⟨w23.heap.size, 2, none⟩ (.string ⟨m26.toArray⟩)) = wv27 at HHs27 HBs27 HXs27 HFs27 hsz27  ⊢
   clear hfs x2_27 f2_27 HH26 HB26 HF26 HX26
   have hxx27 := HXs27.out.lt
   have hpp27 := HHs27.out.lt
   have hbb27 := HBs27.out.lt
   go_wp2_with fail
   refine (must_any P [61] s26 _ HHs27.out).mono ?_
   rintro e w28 ⟨rfl, h, hf⟩
   have HS28 := Hd (St.must [61] s26)
   have HB28 := Hd (HBs27.out.keep hf (by simp; omega))
   have HX28 := Hd (HXs27.out.keep hf (by simp; omega))
   have HF28 := Hd (HFs27.out.trans hf)
   have HH28 := Hd h
   have HD28 := Hd (HD26.out.trans (Dp.musted HD26.out.wd [61]))
   obtain ⟨s28, hs28⟩ : ∃ z, z = (musted [61] s26) := ⟨_, rfl⟩
   rw [<- hs28] at HH28 HD28 HS28
   have HQ28 := Hd hs28
   clear hs28
   have hb28 := HB28.out.lt
   have hp28 := HH28.out.lt
   have hx28 := HX28.out.lt
   clear hf HHs27 HBs27 HFs27 HD26 HXs27
   clear h
   have hle29 : s28.l.length <= n := by have := HD28.out.len; omega
   go_wp2_with fail
   refine (exp_any n P s28 _ HH28.out HD28.out.wd hle29).mono ?_
   rintro e w29 ⟨x, sx, xs, rfl, hx, h, hst, hd, hf⟩
   obtain ⟨op, kind, int, t, tb, nm, va, vl, vc, rfl⟩ := e_form hx
   have HS29 := Hd hst
   have HEx := Hd (Rep.E.mono (A' := fun b => w.heap.size < b /\ b ≠ w23.heap.size) (fun b hb => ⟨by omega, by omega⟩) hx)
   clear hx hst
   have HB29 := Hd (HB28.out.keep hf (by simp; omega))
   have HX29 := Hd (HX28.out.keep hf (by simp; omega))
   have HF29 := Hd (HF28.out.trans hf)
   have HH29 := Hd h
   have HD29 := Hd (HD28.out.trans hd)
   obtain ⟨s29, hs29⟩ : ∃ z, z = sx := ⟨_, rfl⟩
   rw [<- hs29] at HH29 HD29 HS29
   have HQ29 := Hd hs29
   clear hs29
   have hb29 := HB29.out.lt
   have hp29 := HH29.out.lt
   have hx29 := HX29.out.lt
   clear hf HH28 HB28 HF28 HD28 HX28
   clear h hd
   have x_ := HX29.out.cell 5
   have f_ := HX29.out.free 5
   simp only [List.getElem?_cons_zero, List.getElem?_cons_succ] at x_
   have hfs := ((Fr.refl [some w23.heap.size] w29).setCell (p := ⟨w23.heap.size, 5, none⟩) (.inl (by simp)) (.slice (some ⟨w29.heap.size, 0, none⟩) 1 1)).alloc (.cells #[.int .i64 op, .int .i64 kind, .int .i64 int, .string ⟨t.toArray⟩, .string ⟨tb.toArray⟩, .string ⟨nm.toArray⟩, .slice va vl vc] 82)
   have hsz_ : (w29.setCell ⟨w23.heap.size, 5, none⟩ (.slice (some ⟨w29.heap.size, 0, none⟩) 1 1)).heap.size = w29.heap.size := by simp [World.setCell]
   have HHe30 := Hd (HH29.out.keepP hfs (fun g hg => by simp; omega))
   have HBe30 := Hd (HB29.out.keep hfs (by simp; omega))
   have HXe30 := Hd (Blk.alloc (HX29.out.set 5 (.slice (some ⟨w29.heap.size, 0, none⟩) 1 1)) (.cells #[.int .i64 op, .int .i64 kind, .int .i64 int, .string ⟨t.toArray⟩, .string ⟨tb.toArray⟩, .string ⟨nm.toArray⟩, .slice va vl vc] 82))
   simp only [List.set_cons_succ, List.set_cons_zero] at HXe30
   have HFe30 : Hid (Fr [some P] w ((w29.setCell ⟨w23.heap.size, 5, none⟩ (.slice (some ⟨w29.heap.size, 0, none⟩) 1 1)).alloc (.cells #[.int .i64 op, .int .i64 kind, .int .i64 int, .string ⟨t.toArray⟩, .string ⟨tb.toArray⟩, .string ⟨nm.toArray⟩, .slice va vl vc] 82))) := Hd (HF29.out.trans' hfs (fun i hi => .inr (by simp at hi; omega)))
   have hes := es_mk (A := fun b => w.heap.size < b /\ b ≠ w23.heap.size) (w := (w29.setCell ⟨w23.heap.size, 5, none⟩ (.slice (some ⟨w29.heap.size, 0, none⟩) 1 1))) (.cons x [] _ [] (Rep.E.keep ((Fr.refl [some w23.heap.size] w29).setCell (p := ⟨w23.heap.size, 5, none⟩) (.inl (by simp)) (.slice (some ⟨w29.heap.size, 0, none⟩) 1 1)) (fun g hg => by have := hg.2; simp; omega) HEx.out) .nil) ⟨by rw [hsz_]; omega, by rw [hsz_]; omega⟩ (by simp [maxLen])
   rw [List.append_nil, hsz_] at hes
   have HVe30 := Hd hes
   have hnx_ : ¬ w23.heap.size = w29.heap.size := by omega
   have hnx2_ : w23.heap.size < w29.heap.size + 1 := by omega
   go_upto_region 18 with fail
   generalize ((w29.setCell ⟨w23.heap.size, 5, none⟩ (.slice (some ⟨w29.heap.size, 0, none⟩) 1 1)).alloc (.cells #[.int .i64 op, .int .i64 kind, .int .i64 int, .string ⟨t.toArray⟩, .string ⟨tb.toArray⟩, .string ⟨nm.toArray⟩, .slice va vl vc] 82)) = we30 at HHe30 HBe30 HXe30 HFe30 HVe30  ⊢
   clear hfs hes x_ f_ HEx hsz_ HH29 HB29 HF29 HX29
   have hxe30 := HXe30.out.lt
   have hpe30 := HHe30.out.lt
   have hbe30 := HBe30.out.lt
   have hwn31 : s29.l.length <= n := by have := HD29.out.len; omega
   go_wp2_with fail
   refine (where_any n P s29 _ HHe30.out HD29.out.wd hwn31).mono ?_
   rintro e w31 ⟨l31, v, sx, rfl, hv, h, hst, hd, hf⟩
   obtain ⟨a9_31, n9_31, c9_31, rfl⟩ := Rep.Es.form hv
   have HS31 := Hd hst
   have HVw31 := Hd (Rep.Es.mono (A' := fun b => w.heap.size < b /\ b ≠ w23.heap.size) (fun b hb => ⟨by omega, by omega⟩) hv)
   clear hst hv
   have HB31 := Hd (HBe30.out.keep hf (by simp; omega))
   have HX31 := Hd (HXe30.out.keep hf (by simp; omega))
   have HV5_31 := Hd (Rep.Es.keep hf (fun g hg => by have := hg.1; simp; omega) HVe30.out)
   have HF31 := Hd (HFe30.out.trans hf)
   have HH31 := Hd h
   have HD31 := Hd (HD29.out.trans hd)
   obtain ⟨s31, hs31⟩ : ∃ z, z = sx := ⟨_, rfl⟩
   rw [<- hs31] at HH31 HD31 HS31
   have HQ31 := Hd hs31
   clear hs31
   have hb31 := HB31.out.lt
   have hp31 := HH31.out.lt
   have hx31 := HX31.out.lt
   clear hf HHe30 HBe30 HFe30 HD29 HXe30 HVe30
   clear h hd
   have x9_32 := HX31.out.cell 9
   have f9_32 := HX31.out.free 9
   simp only [List.getElem?_cons_zero, List.getElem?_cons_succ] at x9_32
   have hfs := ((Fr.refl [some w23.heap.size] w31).setCell (p := ⟨w23.heap.size, 9, none⟩) (.inl (by simp)) (.slice a9_31 n9_31 c9_31))
   have HHs32 := Hd (HH31.out.keepP hfs (fun g hg => by simp; omega))
   have HBs32 := Hd (HB31.out.keep hfs (by simp; omega))
   have HXs32 := Hd (HX31.out.set 9 (.slice a9_31 n9_31 c9_31))
   simp only [List.set_cons_succ, List.set_cons_zero] at HXs32
   have HFs32 : Hid (Fr [some P] w (w31.setCell ⟨w23.heap.size, 9, none⟩ (.slice a9_31 n9_31 c9_31))) := Hd (HF31.out.trans' hfs (fun i hi => .inr (by simp at hi; omega)))
   have hsz32 : (w31.setCell ⟨w23.heap.size, 9, none⟩ (.slice a9_31 n9_31 c9_31)).heap.size = w31.heap.size := by simp [World.setCell]
   have HVs5_32 := Hd (Rep.Es.keep hfs (fun g hg => by have := hg.2; simp; omega) HV5_31.out)
   have HVs9_32 := Hd (Rep.Es.keep hfs (fun g hg => by have := hg.2; simp; omega) HVw31.out)
   go_upto_region 19 with fail
   generalize (w31.setCell ⟨w23.heap.size, 9, none⟩ (.slice a9_31 n9_31 c9_31)) = wv32 at HHs32 HBs32 HXs32 HFs32 hsz32 HVs5_32 HVs9_32 ⊢
   clear hfs x9_32 f9_32 HH31 HB31 HF31 HX31 HV5_31 HVw31
   have hxx32 := HXs32.out.lt
   have hpp32 := HHs32.out.lt
   have hbb32 := HBs32.out.lt
   have HS := Hd (St.w_update HT21.out HT22.out HQ22.out (St.updates (n := n) HS23.out HS25.out HS26.out HS28.out HS29.out HS31.out))
   obtain ⟨x0, x1, x2, x3, x4, x5, x6, x7, x8, x9, x10, x11, x12, f0, f1, f2, f3, f4, f5, f6, f7, f8, f9, f10, f11, f12⟩ := c13_of HXs32.out
   obtain ⟨y0, y1, y2, y3, y4, y5, y6, y7, y8, y9, y10, y11, y12, k0, k1, k2, k3, k4, k5, k6, k7, k8, k9, k10, k11, k12⟩ := c13_of HBs32.out
   have hRX : ¬ w23.heap.size = w.heap.size := by omega
   go_wp2_with fail
   exact bodyPost_ret (ret_cell13 rfl _ w.heap.size rfl _ _ _ _ _ _ _ _ _ _ _ _ _ _ (blkPut13 HBs32.out _ _ _ _ _ _ _ _ _ _ _ _ _)) rfl ⟨.mk 7 m23 m26 [] [] [x] [] [] [] l31 [] false [], s31, ⟨_, rfl, .mk 7 m23 m26 [] [] [x] [] [] [] l31 [] false [] _ _ _ _ _ _ _ _ .nil .nil (Rep.Es.mono (A' := fun b => w.heap.size <= b) (fun b hb => by have := hb.1; omega) (Rep.Es.keep (frPut13 (Fr.refl [some w.heap.size] _) (.inl (by simp)) _ _ _ _ _ _ _ _ _ _ _ _ _) (fun b hb => by have := hb.1; simp; omega) HVs5_32.out)) .nil Rep.Es.nil (Rep.Es.mono (A' := fun b => w.heap.size <= b) (fun b hb => by have := hb.1; omega) (Rep.Es.keep (frPut13 (Fr.refl [some w.heap.size] _) (.inl (by simp)) _ _ _ _ _ _ _ _ _ _ _ _ _) (fun b hb => by have := hb.1; simp; omega) HVs9_32.out)) Rep.Es.nil Px.SS.nil⟩, HHs32.out.keepP (frPut13 (Fr.refl [some w.heap.size] _) (.inl (by simp)) _ _ _ _ _ _ _ _ _ _ _ _ _) (fun g hg => by simp; omega), HS.out, HD31.out, frPut13 HFs32.out (.inr (Nat.le_refl _)) _ _ _ _ _ _ _ _ _ _ _ _ _⟩
  |false =>
   have HT22 := Hd ht
   have hf := HFt22.out
   have hh : RR w22 P s := by have := HHt22.out; rw [took, ht] at this; exact this
   clear ht HFt22 HHt22
   have HB22 := Hd (HB21.out.keep hf (by simp; omega))
   have HF22 := Hd (HF21.out.trans hf)
   have HH22 := Hd hh
   have HD22 := Hd (HD21.out.trans (Dp.refl HD21.out.wd))
   have hb22 := HB22.out.lt
   have hp22 := HH22.out.lt
   clear hf HH21 HB21 HF21 HD21
   clear hh
   go_wp2_with fail
   refine (must_any P [100, 101, 108, 101, 116, 101] s _ HH22.out).mono ?_
   rintro e w23 ⟨rfl, h, hf⟩
   have HS23 := Hd (St.must [100, 101, 108, 101, 116, 101] s)
   have HB23 := Hd (HB22.out.keep hf (by simp; omega))
   have HF23 := Hd (HF22.out.trans hf)
   have HH23 := Hd h
   have HD23 := Hd (HD22.out.trans (Dp.musted HD22.out.wd [100, 101, 108, 101, 116, 101]))
   obtain ⟨s23, hs23⟩ : ∃ z, z = (musted [100, 101, 108, 101, 116, 101] s) := ⟨_, rfl⟩
   rw [<- hs23] at HH23 HD23 HS23
   have HQ23 := Hd hs23
   clear hs23
   have hb23 := HB23.out.lt
   have hp23 := HH23.out.lt
   clear hf HH22 HB22 HF22 HD22
   clear h
   go_wp2_with fail
   refine (must_any P [102, 114, 111, 109] s23 _ HH23.out).mono ?_
   rintro e w24 ⟨rfl, h, hf⟩
   have HS24 := Hd (St.must [102, 114, 111, 109] s23)
   have HB24 := Hd (HB23.out.keep hf (by simp; omega))
   have HF24 := Hd (HF23.out.trans hf)
   have HH24 := Hd h
   have HD24 := Hd (HD23.out.trans (Dp.musted HD23.out.wd [102, 114, 111, 109]))
   obtain ⟨s24, hs24⟩ : ∃ z, z = (musted [102, 114, 111, 109] s23) := ⟨_, rfl⟩
   rw [<- hs24] at HH24 HD24 HS24
   have HQ24 := Hd hs24
   clear hs24
   have hb24 := HB24.out.lt
   have hp24 := HH24.out.lt
   clear hf HH23 HB23 HF23 HD23
   clear h
   go_wp2_with fail
   refine (name_any P s24 _ HH24.out).mono ?_
   rintro e w25 ⟨m25, rfl, h, hst, hf⟩
   have HS25 := Hd hst
   clear hst
   have HB25 := Hd (HB24.out.keep hf (by simp; omega))
   have HF25 := Hd (HF24.out.trans hf)
   have HH25 := Hd h
   have HD25 := Hd (HD24.out.trans (Dp.worded HD24.out.wd 1))
   obtain ⟨s25, hs25⟩ : ∃ z, z = (worded 1 s24) := ⟨_, rfl⟩
   rw [<- hs25] at HH25 HD25 HS25
   have HQ25 := Hd hs25
   clear hs25
   have hb25 := HB25.out.lt
   have hp25 := HH25.out.lt
   clear hf HH24 HB24 HF24 HD24
   clear h
   have HHn26 := Hd (HH25.out.alloc (.cells #[.int .i64 8, .string ⟨m25.toArray⟩, .string ⟨#[]⟩, .slice none 0 0, .slice none 0 0, .slice none 0 0, .slice none 0 0, .string ⟨#[]⟩, .slice none 0 0, .slice none 0 0, .slice none 0 0, .bool false, .slice none 0 0] 29))
   have HBn26 := Hd (Blk.alloc HB25.out (.cells #[.int .i64 8, .string ⟨m25.toArray⟩, .string ⟨#[]⟩, .slice none 0 0, .slice none 0 0, .slice none 0 0, .slice none 0 0, .string ⟨#[]⟩, .slice none 0 0, .slice none 0 0, .slice none 0 0, .bool false, .slice none 0 0] 29))
   have HFn26 := Hd (HF25.out.alloc (.cells #[.int .i64 8, .string ⟨m25.toArray⟩, .string ⟨#[]⟩, .slice none 0 0, .slice none 0 0, .slice none 0 0, .slice none 0 0, .string ⟨#[]⟩, .slice none 0 0, .slice none 0 0, .slice none 0 0, .bool false, .slice none 0 0] 29))
   have HXn26 := Hd (Blk.new w25 29 [.int .i64 8, .string ⟨m25.toArray⟩, .string ⟨#[]⟩, .slice none 0 0, .slice none 0 0, .slice none 0 0, .slice none 0 0, .string ⟨#[]⟩, .slice none 0 0, .slice none 0 0, .slice none 0 0, .bool false, .slice none 0 0])
   clear HH25 HB25 HF25
   go_upto_region 23 with fail
   generalize w25.alloc (.cells #[.int .i64 8, .string ⟨m25.toArray⟩, .string ⟨#[]⟩, .slice none 0 0, .slice none 0 0, .slice none 0 0, .slice none 0 0, .string ⟨#[]⟩, .slice none 0 0, .slice none 0 0, .slice none 0 0, .bool false, .slice none 0 0] 29) = wn26 at HHn26 HBn26 HFn26 HXn26 ⊢
   have hxn26 := HXn26.out.lt
   have hpn26 := HHn26.out.lt
   have hwn27 : s25.l.length <= n := by have := HD25.out.len; omega
   go_wp2_with fail
   refine (where_any n P s25 _ HHn26.out HD25.out.wd hwn27).mono ?_
   rintro e w27 ⟨l27, v, sx, rfl, hv, h, hst, hd, hf⟩
   obtain ⟨a9_27, n9_27, c9_27, rfl⟩ := Rep.Es.form hv
   have HS27 := Hd hst
   have HVw27 := Hd (Rep.Es.mono (A' := fun b => w.heap.size < b /\ b ≠ w25.heap.size) (fun b hb => ⟨by omega, by omega⟩) hv)
   clear hst hv
   have HB27 := Hd (HBn26.out.keep hf (by simp; omega))
   have HX27 := Hd (HXn26.out.keep hf (by simp; omega))
   have HF27 := Hd (HFn26.out.trans hf)
   have HH27 := Hd h
   have HD27 := Hd (HD25.out.trans hd)
   obtain ⟨s27, hs27⟩ : ∃ z, z = sx := ⟨_, rfl⟩
   rw [<- hs27] at HH27 HD27 HS27
   have HQ27 := Hd hs27
   clear hs27
   have hb27 := HB27.out.lt
   have hp27 := HH27.out.lt
   have hx27 := HX27.out.lt
   clear hf HHn26 HBn26 HFn26 HD25 HXn26
   clear h hd
   have x9_28 := HX27.out.cell 9
   have f9_28 := HX27.out.free 9
   simp only [List.getElem?_cons_zero, List.getElem?_cons_succ] at x9_28
   have hfs := ((Fr.refl [some w25.heap.size] w27).setCell (p := ⟨w25.heap.size, 9, none⟩) (.inl (by simp)) (.slice a9_27 n9_27 c9_27))
   have HHs28 := Hd (HH27.out.keepP hfs (fun g hg => by simp; omega))
   have HBs28 := Hd (HB27.out.keep hfs (by simp; omega))
   have HXs28 := Hd (HX27.out.set 9 (.slice a9_27 n9_27 c9_27))
   simp only [List.set_cons_succ, List.set_cons_zero] at HXs28
   have HFs28 : Hid (Fr [some P] w (w27.setCell ⟨w25.heap.size, 9, none⟩ (.slice a9_27 n9_27 c9_27))) := Hd (HF27.out.trans' hfs (fun i hi => .inr (by simp at hi; omega)))
   have hsz28 : (w27.setCell ⟨w25.heap.size, 9, none⟩ (.slice a9_27 n9_27 c9_27)).heap.size = w27.heap.size := by simp [World.setCell]
   have HVs9_28 := Hd (Rep.Es.keep hfs (fun g hg => by have := hg.2; simp; omega) HVw27.out)
   go_upto_region 24 with fail
   generalize (w27.setCell ⟨w25.heap.size, 9, none⟩ (.slice a9_27 n9_27 c9_27)) = wv28 at HHs28 HBs28 HXs28 HFs28 hsz28 HVs9_28 ⊢
   clear hfs x9_28 f9_28 HH27 HB27 HF27 HX27 HVw27
   have hxx28 := HXs28.out.lt
   have hpp28 := HHs28.out.lt
   have hbb28 := HBs28.out.lt
   have HS := Hd (St.w_delete HT21.out HT22.out HS23.out (St.deletes (n := n) HS24.out HS25.out HS27.out))
   obtain ⟨x0, x1, x2, x3, x4, x5, x6, x7, x8, x9, x10, x11, x12, f0, f1, f2, f3, f4, f5, f6, f7, f8, f9, f10, f11, f12⟩ := c13_of HXs28.out
   obtain ⟨y0, y1, y2, y3, y4, y5, y6, y7, y8, y9, y10, y11, y12, k0, k1, k2, k3, k4, k5, k6, k7, k8, k9, k10, k11, k12⟩ := c13_of HBs28.out
   have hRX : ¬ w25.heap.size = w.heap.size := by omega
   go_wp2_with fail
   exact bodyPost_ret (ret_cell13 rfl _ w.heap.size rfl _ _ _ _ _ _ _ _ _ _ _ _ _ _ (blkPut13 HBs28.out _ _ _ _ _ _ _ _ _ _ _ _ _)) rfl ⟨.mk 8 m25 [] [] [] [] [] [] [] l27 [] false [], s27, ⟨_, rfl, .mk 8 m25 [] [] [] [] [] [] [] l27 [] false [] _ _ _ _ _ _ _ _ .nil .nil Rep.Es.nil .nil Rep.Es.nil (Rep.Es.mono (A' := fun b => w.heap.size <= b) (fun b hb => by have := hb.1; omega) (Rep.Es.keep (frPut13 (Fr.refl [some w.heap.size] _) (.inl (by simp)) _ _ _ _ _ _ _ _ _ _ _ _ _) (fun b hb => by have := hb.1; simp; omega) HVs9_28.out)) Rep.Es.nil Px.SS.nil⟩, HHs28.out.keepP (frPut13 (Fr.refl [some w.heap.size] _) (.inl (by simp)) _ _ _ _ _ _ _ _ _ _ _ _ _) (fun g hg => by simp; omega), HS.out, HD27.out, frPut13 HFs28.out (.inr (Nat.le_refl _)) _ _ _ _ _ _ _ _ _ _ _ _ _⟩
end Rf
end Go.Proofs.YtmdnhinpaflamaaGreatDoor
