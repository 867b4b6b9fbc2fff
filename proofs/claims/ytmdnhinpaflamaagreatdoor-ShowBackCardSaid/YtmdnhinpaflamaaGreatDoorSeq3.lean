/- XSeq2 once more: behind an operation that all the others come ahead of (lst) the invariant need not hold. Over any program. -/
import Derived.Orders
import Derived.Tactics
import Derived.BigQuiet
import Derived.KernelRfl
namespace Go.Proofs.YtmdnhinpaflamaaGreatDoor.Seq3
open Go
section
variable {P : Program} {ops : Array Oper} {Inv : World -> Prop} {Q : Exit -> Act -> World -> Prop}
def calm (Q : Exit -> Act -> World -> Prop) : Exit -> Act -> World -> Prop
 |.normal, a, w => Q .normal a w
 |_, _, _ => False
theorem calm_normal (Q : Exit -> Act -> World -> Prop) (a : Act) (w : World) : calm Q .normal a w = Q .normal a w := rfl
theorem calm_panic (Q : Exit -> Act -> World -> Prop) (c : List PanicEntry) (a : Act) (w : World) : calm Q (.panic c) a w = False := rfl
theorem not_letsOut (Q : Exit -> Act -> World -> Prop) : ¬ LetsOut (calm Q) := fun ⟨_, _, h⟩ => h
def YH (P : Program) (ops : Array Oper) (Inv : World -> Prop) (q : Option Value) (o : Oper) (v : Value) (a : Act) : Prop :=
 (Region.wanted o (yielded ops a.tmps) = true /\ ∀ w, Inv w -> (execOp a.eval o).run P w = .ok (.value v) w) \/ (Region.wanted o (yielded ops a.tmps) = false /\ v = undef) \/
 (Region.wanted o (yielded ops a.tmps) = true /\ q = some v /\ ∃ f args, ∀ w, Inv w -> (execOp a.eval o).run P w = .ok (.enter f args) w /\ Calls P f args w fun e w' => e = .returned v /\ w' = w)
theorem YH.of_same {q : Option Value} {o : Oper} {v : Value} {a a' : Act} (hy : YH P ops Inv q o v a) (he : execOp a'.eval o = execOp a.eval o)
  (hw : Region.wanted o (yielded ops a'.tmps) = Region.wanted o (yielded ops a.tmps)) : YH P ops Inv q o v a' := by
 unfold YH at *; rw [he, hw]; exact hy
theorem YH.wpOp {q : Option Value} {i : Nat} {o : Oper} {v : Value} {a : Act} {w : World} (hi : ops[i]? = some o) (hy : YH P ops Inv q o v a) (hI : Inv w)
  {K : Act -> World -> Prop} (h : K (a.put o.dst v) w) : wpOp P ops Q i K a w := by
 unfold Go.wpOp
 simp only [hi]
 rcases hy with ⟨hw, hv⟩ | ⟨hw, rfl⟩ | ⟨hw, _, f, args, hv⟩
 ·simp only [hw, if_true, Oper.wp, hv w hI, Oper.upon]; exact .inl h
 ·simp only [hw, Bool.false_eq_true, if_false]; exact h
 ·obtain ⟨h1, h2⟩ := hv w hI
  simp only [hw, if_true]
  refine .inl ?_
  unfold Oper.wp
  rw [h1, Oper.upon_enter]
  refine h2.mono fun e w' h3 => ?_
  obtain ⟨rfl, rfl⟩ := h3
  exact h
theorem yh_unique {q : Option Value} {o : Oper} {a : Act} {v u : Value} (h : YH P ops Inv q o v a) (k : YH P ops Inv q o u a) {w : World} (hI : Inv w) : v = u := by
 rcases h with ⟨h1, h2⟩ | ⟨h1, rfl⟩ | ⟨h1, h2, f, args, h3⟩ <;> rcases k with ⟨k1, k2⟩ | ⟨k1, rfl⟩ | ⟨k1, k2, f', args', k3⟩
 ·have := (h2 w hI).symm.trans (k2 w hI); simpa using this
 ·rw [h1] at k1; cases k1
 ·have := (h2 w hI).symm.trans (k3 w hI).1; simp at this
 ·rw [h1] at k1; cases k1
 ·rfl
 ·rw [h1] at k1; cases k1
 ·have := (k2 w hI).symm.trans (h3 w hI).1; simp at this
 ·rw [h1] at k1; cases k1
 ·rw [h2] at k2; exact Option.some.inj k2
def stepS (P : Program) (ops : Array Oper) (Inv : World -> Prop) (Q : Exit -> Act -> World -> Prop) (held : Nat -> Bool) (qv : Nat -> Option Value) (lst : Nat -> Bool) (i : Nat) (K : Act -> World -> Prop) (a : Act) (w : World) : Prop :=
 match ops[i]? with
 |none => K a w
 |some o => if held i then ∃ v, YH P ops Inv (qv i) o v a /\ K (a.put o.dst v) w else wpOp P ops (calm Q) i (fun a' w' => (lst i = true \/ Inv w') /\ K a' w') a w
theorem stepS_mono {held : Nat -> Bool} {qv : Nat -> Option Value} {lst : Nat -> Bool} {i : Nat} {K K' : Act -> World -> Prop} {a : Act} {w : World} (h : ∀ a w, K a w -> K' a w) (hh : stepS P ops Inv Q held qv lst i K a w) : stepS P ops Inv Q held qv lst i K' a w := by
 unfold stepS at *
 split
 ·exact h _ _ (by simpa [*] using hh)
 ·rename_i o ho
  simp only [ho] at hh
  split
  ·rename_i hw; simp only [hw, if_true] at hh; obtain ⟨v, hy, hK⟩ := hh; exact ⟨v, hy, h _ _ hK⟩
  ·rename_i hw; simp only [hw, Bool.false_eq_true, if_false] at hh; exact wpOp_mono (fun a w ⟨x, y⟩ => ⟨x, h _ _ y⟩) hh
theorem swap_held {qv : Nat -> Option Value} {i k : Nat} {ok oi : Oper} (hk : ops[k]? = some ok) (hap : oi.apart ops ok = true)
  (hsi : ∀ cs b, oi.op ≠ .select cs b) (hsk : ∀ cs b, ok.op ≠ .select cs b)
  {K : Act -> World -> Prop} {a : Act} {w : World} (h : wpOp P ops (calm Q) k (fun a' w' => Inv w' /\ ∃ v, YH P ops Inv (qv i) oi v a' /\ K (a'.put oi.dst v) w') a w) :
  ∃ v, YH P ops Inv (qv i) oi v a /\ wpOp P ops (calm Q) k (fun a' w' => Inv w' /\ K a' w') (a.put oi.dst v) w := by
 obtain ⟨h1, h2, h3⟩ := Oper.apart_spec hap
 have back : ∀ (u v : Value), YH P ops Inv (qv i) oi v (a.put ok.dst u) -> YH P ops Inv (qv i) oi v a := fun u v hy =>
  hy.of_same (execOp_put oi hsi a ok.dst u h3).symm (wanted_put oi a ok.dst u h3).symm
 have backD : ∀ (d : Deferred) (u v : Value), YH P ops Inv (qv i) oi v (({ a with defers := d :: a.defers } : Act).put ok.dst u) -> YH P ops Inv (qv i) oi v a := fun d u v hy =>
  (hy.of_same (execOp_put oi hsi { a with defers := d :: a.defers } ok.dst u h3).symm (wanted_put oi { a with defers := d :: a.defers } ok.dst u h3).symm : YH P ops Inv (qv i) oi v { a with defers := d :: a.defers })
 have main : ∀ (u : Value) (w' : World), (Inv w' /\ ∃ v, YH P ops Inv (qv i) oi v (a.put ok.dst u) /\ K ((a.put ok.dst u).put oi.dst v) w') -> Inv w' /\ ∃ v, YH P ops Inv (qv i) oi v a /\ K ((a.put oi.dst v).put ok.dst u) w' := fun u w' ⟨hI, v, hy, hK⟩ =>
  ⟨hI, v, back u v hy, by rw [Act.put_comm a v u h2]; exact hK⟩
 unfold Go.wpOp at h
 simp only [hk] at h
 by_cases hw : Region.wanted ok (yielded ops a.tmps) = true
 ·simp only [hw, if_true] at h
  rcases h with h | ⟨_, h⟩
  case inr => exact absurd h (not_letsOut Q)
  unfold Oper.wp at h
  have goal : ∀ v, ok.upon P (a.put oi.dst v) (fun a' w' => Inv w' /\ K a' w') (calm Q) ((execOp a.eval ok).run P w) -> wpOp P ops (calm Q) k (fun a' w' => Inv w' /\ K a' w') (a.put oi.dst v) w := fun v hh => by
   unfold Go.wpOp
   simp only [hk]
   rw [wanted_put ok a oi.dst v h1, if_pos hw]
   refine .inl ?_
   unfold Oper.wp
   rw [execOp_put ok hsk a oi.dst v h1]
   exact hh
  generalize (execOp a.eval ok).run P w = r at *
  cases r with
  |ok n w' =>
   cases n <;> simp only [Oper.upon] at h goal
   case value u => obtain ⟨hI, v, hy, hK⟩ := main u w' h; exact ⟨v, hy, goal v ⟨hI, hK⟩⟩
   case skip => obtain ⟨hI, v, hy, hK⟩ := main _ w' h; exact ⟨v, hy, goal v ⟨hI, hK⟩⟩
   case defer d =>
    obtain ⟨hI, v, hy, hK⟩ := h
    refine ⟨v, backD d _ v hy, goal v ⟨hI, ?_⟩⟩
    rw [Act.put_defers, Act.put_comm _ v undef h2]
    exact hK
   case enter f args =>
    obtain ⟨e, w'', fr, hR, _⟩ := h []
    cases e with
    |panicked c => exact hR.elim
    |outgrown => exact absurd hR (not_letsOut Q)
    |returned u =>
     obtain ⟨hI, v, hy, hK⟩ := main u w'' hR
     refine ⟨v, hy, goal v (Calls.mono h fun e w3 he => ?_)⟩
     cases e with
     |panicked c => exact he.elim
     |outgrown => exact absurd he (not_letsOut Q)
     |returned u' =>
      obtain ⟨hI', v', hy', hK'⟩ := main u' w3 he
      rw [yh_unique hy hy' hI']
      exact ⟨hI', hK'⟩
   case row row args =>
    obtain ⟨u, w'', hR, _⟩ := h (Frame.enter P 0 #[] .normal) []
    obtain ⟨hI, v, hy, hK⟩ := main u w'' hR
    refine ⟨v, hy, goal v (Rows.mono h fun u' w3 he => ?_)⟩
    obtain ⟨hI', v', hy', hK'⟩ := main u' w3 he
    rw [yh_unique hy hy' hI']
    exact ⟨hI', hK'⟩
  |halt x w' =>
   cases x <;> simp only [Oper.upon, calm] at h
 ·simp only [hw] at h
  obtain ⟨hI, v, hy, hK⟩ := main _ w h
  refine ⟨v, hy, ?_⟩
  unfold Go.wpOp
  simp only [hk]
  rw [wanted_put ok a oi.dst v h1, if_neg (by simpa using hw)]
  exact ⟨hI, hK⟩
theorem swap_over {qv : Nat -> Option Value} {i k : Nat} {ok oi : Oper} (hi : ops[i]? = some oi) (hap : ok.apart ops oi = true)
  (hsi : ∀ cs b, oi.op ≠ .select cs b) (hsk : ∀ cs b, ok.op ≠ .select cs b) {v : Value}
  {K : Act -> World -> Prop} {a : Act} {w : World} (hy : YH P ops Inv (qv k) ok v a) (h : wpOp P ops (calm Q) i (fun a' w' => Inv w' /\ K a' w') (a.put ok.dst v) w) :
  wpOp P ops (calm Q) i (fun a' w' => Inv w' /\ ∃ v, YH P ops Inv (qv k) ok v a' /\ K (a'.put ok.dst v) w') a w := by
 obtain ⟨h1, h2, h3⟩ := Oper.apart_spec hap
 have keep : ∀ (a : Act), YH P ops Inv (qv k) ok v a -> ∀ u, YH P ops Inv (qv k) ok v (a.put oi.dst u) := fun a hy u =>
  hy.of_same (execOp_put ok hsk a oi.dst u h3) (wanted_put ok a oi.dst u h3)
 have keepD : ∀ d, YH P ops Inv (qv k) ok v { a with defers := d :: a.defers } := fun d => hy.of_same rfl rfl
 unfold wpOp at *
 simp only [hi] at *
 rw [wanted_put oi a ok.dst v h1] at h
 split
 ·rename_i hw
  simp only [hw, if_true] at h
  rcases h with h | ⟨_, h⟩
  case inr => exact absurd h (not_letsOut Q)
  refine .inl ?_
  unfold Oper.wp at *
  rw [execOp_put oi hsi a ok.dst v h1] at h
  generalize (execOp a.eval oi).run P w = r at *
  cases r with
  |ok n w' =>
   cases n <;> simp only [Oper.upon] at h ⊢
   case value u => exact ⟨h.1, v, keep a hy u, by rw [<- Act.put_comm a v u h2]; exact h.2⟩
   case skip => exact ⟨h.1, v, keep a hy _, by rw [<- Act.put_comm a v undef h2]; exact h.2⟩
   case defer d =>
    refine ⟨h.1, v, keep _ (keepD d) _, ?_⟩
    rw [<- Act.put_comm _ v undef h2, <- Act.put_defers]
    exact h.2
   case enter f args =>
    refine Calls.mono h fun e w'' he => ?_
    cases e with
    |returned u => exact ⟨he.1, v, keep a hy u, by rw [<- Act.put_comm a v u h2]; exact he.2⟩
    |panicked c => exact he.elim
    |outgrown => exact absurd he (not_letsOut Q)
   case row row args => exact Rows.mono h fun u w'' he => ⟨he.1, v, keep a hy u, by rw [<- Act.put_comm a v u h2]; exact he.2⟩
  |halt x w' =>
   cases x <;> simp only [Oper.upon, calm] at h
 ·rename_i hw
  simp only [hw] at h
  exact ⟨h.1, v, keep a hy _, by rw [<- Act.put_comm a v undef h2]; exact h.2⟩
def swapB (ops : Array Oper) (held lst : Nat -> Bool) (k i : Nat) : Bool :=
 match ops[k]?, ops[i]? with
 |some ok, some oi => ok.apart ops oi && oi.apart ops ok && (held k || held i) && !lst k && !lst i
 |_, _ => false
theorem stepS_swap {held : Nat -> Bool} {qv : Nat -> Option Value} {lst : Nat -> Bool} (hs : Region.noSelect ops = true) {k i : Nat} (hB : swapB ops held lst k i = true) {K : Act -> World -> Prop} {a : Act} {w : World}
  (h : stepS P ops Inv Q held qv lst k (stepS P ops Inv Q held qv lst i K) a w) : stepS P ops Inv Q held qv lst i (stepS P ops Inv Q held qv lst k K) a w := by
 unfold swapB at hB
 cases hk : ops[k]? with
 |none => simp [hk] at hB
 |some ok =>
 cases hi : ops[i]? with
 |none => simp [hk, hi] at hB
 |some oi =>
 simp only [hk, hi, Bool.and_eq_true, Bool.or_eq_true, Bool.not_eq_true'] at hB
 obtain ⟨⟨⟨⟨hap, hap'⟩, hor⟩, hlk⟩, hli⟩ := hB
 have hsi := fun cs b => Region.noSelect_spec hs i oi cs b hi
 have hsk := fun cs b => Region.noSelect_spec hs k ok cs b hk
 obtain ⟨h1, h2, h3⟩ := Oper.apart_spec hap
 obtain ⟨g1, g2, g3⟩ := Oper.apart_spec hap'
 have ek : ∀ K a w, stepS P ops Inv Q held qv lst k K a w = if held k then ∃ v, YH P ops Inv (qv k) ok v a /\ K (a.put ok.dst v) w else wpOp P ops (calm Q) k (fun a' w' => Inv w' /\ K a' w') a w := fun K a w => by unfold stepS; simp only [hk, hlk, Bool.false_eq_true, false_or]
 have ei : ∀ K a w, stepS P ops Inv Q held qv lst i K a w = if held i then ∃ v, YH P ops Inv (qv i) oi v a /\ K (a.put oi.dst v) w else wpOp P ops (calm Q) i (fun a' w' => Inv w' /\ K a' w') a w := fun K a w => by unfold stepS; simp only [hi, hli, Bool.false_eq_true, false_or]
 rw [ek] at h
 rw [ei]
 by_cases hik : held i = true
 ·rw [if_pos hik]
  by_cases hkk : held k = true
  ·rw [if_pos hkk] at h
   obtain ⟨v, hy, hK⟩ := h
   rw [ei, if_pos hik] at hK
   obtain ⟨u, hyu, hKu⟩ := hK
   refine ⟨u, hyu.of_same (execOp_put oi hsi a ok.dst v h1).symm (wanted_put oi a ok.dst v h1).symm, ?_⟩
   rw [ek, if_pos hkk]
   exact ⟨v, hy.of_same (execOp_put ok hsk a oi.dst u g1) (wanted_put ok a oi.dst u g1), by rw [<- Act.put_comm a v u h2]; exact hKu⟩
  ·rw [if_neg hkk] at h
   obtain ⟨v, hy, hK⟩ := swap_held (qv := qv) (i := i) hk hap' hsi hsk (wpOp_mono (fun a' w' ⟨x, y⟩ => ⟨x, by rw [ei, if_pos hik] at y; exact y⟩) h)
   exact ⟨v, hy, by rw [ek, if_neg hkk]; exact hK⟩
 ·have hkk : held k = true := by rcases hor with hor | hor; exact hor; exact absurd hor hik
  rw [if_neg hik]
  rw [if_pos hkk] at h
  obtain ⟨v, hy, hK⟩ := h
  rw [ei, if_neg hik] at hK
  refine wpOp_mono (fun a' w' ⟨x, y⟩ => ⟨x, ?_⟩) (swap_over (qv := qv) (k := k) hi hap hsi hsk hy hK)
  rw [ek, if_pos hkk]
  exact y
def wpS (P : Program) (ops : Array Oper) (Inv : World -> Prop) (Q : Exit -> Act -> World -> Prop) (held : Nat -> Bool) (qv : Nat -> Option Value) (lst : Nat -> Bool) : List Nat -> Act -> World -> Prop
 |[], a, w => Q .normal a w
 |i :: l, a, w => stepS P ops Inv Q held qv lst i (wpS P ops Inv Q held qv lst l) a w
theorem wpS_bubble {held : Nat -> Bool} {qv : Nat -> Option Value} {lst : Nat -> Bool} (hs : Region.noSelect ops = true) {i : Nat} : ∀ (l1 l2 : List Nat) (a : Act) (w : World), (∀ k ∈ l1, swapB ops held lst k i = true) ->
  wpS P ops Inv Q held qv lst (l1 ++ i :: l2) a w -> stepS P ops Inv Q held qv lst i (wpS P ops Inv Q held qv lst (l1 ++ l2)) a w
 |[], l2, a, w, _, h => h
 |k :: l1, l2, a, w, hB, h => by
  have h' : stepS P ops Inv Q held qv lst k (wpS P ops Inv Q held qv lst (l1 ++ i :: l2)) a w := h
  have h2 := stepS_mono (fun a w hh => wpS_bubble hs l1 l2 a w (fun k hk => hB k (List.mem_cons_of_mem _ hk)) hh) h'
  exact stepS_swap hs (hB k (List.mem_cons_self ..)) h2
def predB (md : Region.Mode) (ops : Array Oper) : Nat -> Nat -> Nat -> Bool
 |0, _, _ => false
 |n + 1, k, i => match ops[i]? with
  |none => false
  |some o => o.after.toList.any fun e => Region.binds md e && (e.on == k || predB md ops n k e.on)
def orderB (md : Region.Mode) (ops : Array Oper) (held lst : Nat -> Bool) : Bool :=
 (List.range ops.size).all fun i => ((ops[i]?).map fun o => o.after.toList.all fun e => !Region.binds md e || decide (e.on < i)).getD false && ((List.range i).all fun k => swapB ops held lst k i || predB md ops ops.size k i) && (!lst i || (List.range ops.size).all fun k => k == i || predB md ops ops.size k i)
def Down (md : Region.Mode) (ops : Array Oper) (listed : Array Bool) : Prop :=
 ∀ j o, ops[j]? = some o -> listed.getD j false = true -> ∀ e ∈ o.after, Region.binds md e = true -> listed.getD e.on false = true
theorem pred_listed {md : Region.Mode} {listed : Array Bool} (hd : Down md ops listed) : ∀ (n k i : Nat) (o : Oper), ops[i]? = some o ->
  (∀ e ∈ o.after, Region.binds md e = true -> listed.getD e.on false = true) -> predB md ops n k i = true -> listed.getD k false = true
 |0, _, _, _, _, _, h => by simp [predB] at h
 |n + 1, k, i, o, ho, hall, h => by
  unfold predB at h
  simp only [ho, List.any_eq_true, Bool.and_eq_true, Bool.or_eq_true, beq_iff_eq] at h
  obtain ⟨e, he, hb, hor⟩ := h
  have he' : e ∈ o.after := by simpa using he
  have hl := hall e he' hb
  rcases hor with rfl | hp
  ·exact hl
  ·cases ho2 : ops[e.on]? with
   |none => cases n <;> simp [predB, ho2] at hp
   |some o2 => exact pred_listed hd n k e.on o2 ho2 (fun e2 he2 hb2 => hd e.on o2 ho2 hl e2 he2 hb2) hp
def left (ops : Array Oper) (listed : Array Bool) : List Nat := (List.range ops.size).filter fun i => !listed.getD i false
theorem getD_two {listed : Array Bool} {j : Nat} (hj : j < listed.size) : listed.getD j true = listed.getD j false := by
 simp [Array.getD_eq_getD_getElem?, hj]
theorem filter_split {p : Nat -> Bool} {i : Nat} (hp : p i = true) : ∀ (n : Nat), i < n ->
  ∃ l2, (List.range n).filter p = (List.range i).filter p ++ i :: l2 /\ (List.range n).filter (fun j => p j && !(j == i)) = (List.range i).filter p ++ l2
 |0, h => by omega
 |n + 1, h => by
  rcases Nat.lt_or_ge i n with h' | h'
  ·obtain ⟨l2, e1, e2⟩ := filter_split hp n h'
   refine ⟨l2 ++ [n].filter p, ?_, ?_⟩
   ·rw [List.range_succ, List.filter_append, e1]; simp
   ·rw [List.range_succ, List.filter_append, e2, List.append_assoc]
    congr 2
    have hne : (n == i) = false := by simp; omega
    cases hpn : p n <;> simp [hpn, hne]
  ·obtain rfl : i = n := by omega
   refine ⟨[], ?_, ?_⟩
   ·rw [List.range_succ, List.filter_append]; simp [hp]
   ·rw [List.range_succ, List.filter_append]
    have e : (List.range i).filter (fun j => p j && !(j == i)) = (List.range i).filter p := by
     apply List.filter_congr
     intro j hj
     have hlt : j < i := List.mem_range.1 hj
     have hne : (j == i) = false := by simp; omega
     simp [hne]
    rw [e]; simp
theorem wpAny_of_wpS {md : Region.Mode} {held : Nat -> Bool} {qv : Nat -> Option Value} {lst : Nat -> Bool} (hs : Region.noSelect ops = true) (hO : orderB md ops held lst = true) : ∀ (fuel : Nat) (listed : Array Bool) (a : Act) (w : World),
  listed.size = ops.size -> Down md ops listed -> (left ops listed).length <= fuel -> (Inv w \/ left ops listed = []) -> wpS P ops Inv Q held qv lst (left ops listed) a w -> wpAny P md ops Q fuel listed a w := by
 have step : ∀ (listed : Array Bool), listed.size = ops.size -> Down md ops listed -> ∀ i ∈ Region.ready md ops listed, ∃ l1 l2, left ops listed = l1 ++ i :: l2 /\ left ops (listed.setIfInBounds i true) = l1 ++ l2 /\ (∀ k ∈ l1, swapB ops held lst k i = true) /\
   Down md ops (listed.setIfInBounds i true) /\ ∃ o, ops[i]? = some o := by
  intro listed hsz hd i hi
  obtain ⟨hun, o, ho, hall⟩ := mem_ready.1 hi
  have hlt : i < ops.size := (Array.getElem?_eq_some_iff.1 ho).1
  have hp : (!listed.getD i false) = true := by rw [<- getD_two (by omega), hun]; rfl
  obtain ⟨l2, e1, e2⟩ := filter_split (p := fun j => !listed.getD j false) hp ops.size hlt
  refine ⟨_, l2, e1, ?_, ?_, ?_, o, ho⟩
  ·rw [<- e2]
   unfold left
   apply List.filter_congr
   intro j hj
   have hlt' : j < ops.size := List.mem_range.1 hj
   by_cases hji : j = i
   ·subst hji
    have : (listed.setIfInBounds j true).getD j false = true := by simp [hsz, hlt]
    rw [this]; simp
   ·have hne : (j == i) = false := by simpa using hji
    rw [getD_set_ne false (Ne.symm hji), hne]; simp
  ·intro k hk
   obtain ⟨hk1, hk2⟩ := List.mem_filter.1 hk
   have hki : k < i := List.mem_range.1 hk1
   unfold orderB at hO
   have hOi := List.all_eq_true.1 hO i (List.mem_range.2 hlt)
   simp only [Bool.and_eq_true] at hOi
   have := List.all_eq_true.1 hOi.1.2 k (List.mem_range.2 hki)
   simp only [Bool.or_eq_true] at this
   rcases this with hsw | hpr
   ·exact hsw
   ·have hl := pred_listed hd _ k i o ho hall hpr
    rw [hl] at hk2
    cases hk2
  ·intro j oj hoj hlj e he hb
   by_cases hji : j = i
   ·subst hji
    rw [ho] at hoj
    cases hoj
    exact getD_set_true (hall e he hb)
   ·rw [getD_set_ne false (Ne.symm hji)] at hlj
    exact getD_set_true (hd j oj hoj hlj e he hb)
 intro fuel
 induction fuel with
 |zero =>
  intro listed a w hsz hd hlen hI h
  have hnil : left ops listed = [] := List.eq_nil_of_length_eq_zero (by omega)
  rw [hnil] at h
  refine ⟨?_, h⟩
  rcases hr : Region.ready md ops listed with _ | ⟨i, r⟩
  ·rfl
  ·obtain ⟨l1, l2, e1, _⟩ := step listed hsz hd i (by rw [hr]; exact List.mem_cons_self ..)
   rw [hnil] at e1
   simp at e1
 |succ fuel ih =>
  intro listed a w hsz hd hlen hI h
  have next : ∀ i ∈ Region.ready md ops listed, wpOp P ops Q i (wpAny P md ops Q fuel (listed.setIfInBounds i true)) a w := by
   intro i hi
   obtain ⟨l1, l2, e1, e2, hsw, hd', o, ho⟩ := step listed hsz hd i hi
   rw [e1] at h
   have hb := wpS_bubble hs l1 l2 a w hsw h
   have hIw : Inv w := hI.resolve_right (by rw [e1]; simp)
   have hend : lst i = true -> left ops (listed.setIfInBounds i true) = [] := fun hl => by
    obtain ⟨hun, o2, ho2, hall⟩ := mem_ready.1 hi
    have hlt : i < ops.size := (Array.getElem?_eq_some_iff.1 ho2).1
    unfold orderB at hO
    have hOi := List.all_eq_true.1 hO i (List.mem_range.2 hlt)
    simp only [Bool.and_eq_true, Bool.or_eq_true, Bool.not_eq_true'] at hOi
    have hlast : ∀ k, k < ops.size -> k ≠ i -> predB md ops ops.size k i = true := fun k hk hne => by
     rcases hOi.2 with h0 | h0
     ·rw [hl] at h0; cases h0
     ·have := List.all_eq_true.1 h0 k (List.mem_range.2 hk)
      simp only [Bool.or_eq_true, beq_iff_eq] at this
      exact this.resolve_left hne
    unfold left
    rw [List.filter_eq_nil_iff]
    intro k hk
    have hk := List.mem_range.1 hk
    by_cases hki : k = i
    ·subst hki
     simp [hsz, hk]
    ·rw [getD_set_ne false (Ne.symm hki), pred_listed hd _ k i o2 ho2 hall (hlast k hk hki)]
     simp
   have hlen' : (left ops (listed.setIfInBounds i true)).length <= fuel := by rw [e2]; rw [e1] at hlen; simp at hlen ⊢; omega
   have go : ∀ a' w', (lst i = true \/ Inv w') -> wpS P ops Inv Q held qv lst (l1 ++ l2) a' w' -> wpAny P md ops Q fuel (listed.setIfInBounds i true) a' w' := fun a' w' hI' hh =>
    ih _ a' w' (by simp [hsz]) hd' hlen' (hI'.elim (fun h => .inr (hend h)) .inl) (by rw [e2]; exact hh)
   unfold stepS at hb
   simp only [ho] at hb
   by_cases hh : held i = true
   ·rw [if_pos hh] at hb
    obtain ⟨v, hy, hK⟩ := hb
    exact hy.wpOp ho hIw (go _ _ (.inr hIw) hK)
   ·rw [if_neg hh] at hb
    have hm := wpOp_mono (K' := wpAny P md ops Q fuel (listed.setIfInBounds i true)) (fun a' w' ⟨x, y⟩ => go a' w' x y) hb
    unfold Go.wpOp at hm ⊢
    simp only [ho] at hm ⊢
    split
    ·rename_i hw
     simp only [hw, if_true] at hm
     rcases hm with hm | ⟨_, hm⟩
     case inr => exact absurd hm (not_letsOut Q)
     refine .inl ?_
     unfold Oper.wp at hm ⊢
     generalize (execOp a.eval o).run P w = r at hm ⊢
     cases r with
     |ok n w' =>
      cases n <;> simp only [Oper.upon] at hm ⊢
      case enter f args => exact Calls.mono hm fun e w'' he => by cases e with | returned u => exact he | panicked c => exact he.elim | outgrown => exact absurd he (not_letsOut Q)
      case row row args => exact hm
      all_goals exact hm
     |halt x w' => cases x <;> simp only [Oper.upon, calm] at hm
    ·rename_i hw
     simp only [hw] at hm
     exact hm
  refine ⟨fun h0 => ?_, next⟩
  rcases hl : left ops listed with _ | ⟨i, r⟩
  ·rw [hl] at h; exact h
  ·exfalso
   have hmem : i ∈ left ops listed := by rw [hl]; exact List.mem_cons_self ..
   obtain ⟨hi1, hi2⟩ := List.mem_filter.1 hmem
   have hlt : i < ops.size := List.mem_range.1 hi1
   obtain ⟨o, ho⟩ : ∃ o, ops[i]? = some o := ⟨ops[i], by simp [hlt]⟩
   have hOi := List.all_eq_true.1 hO i (List.mem_range.2 hlt)
   rw [Bool.and_eq_true] at hOi
   have hback := ((Bool.and_eq_true _ _).mp hOi.1).1
   simp only [ho, Option.map_some, Option.getD_some, List.all_eq_true, Bool.or_eq_true, decide_eq_true_eq, Bool.not_eq_true'] at hback
   have hun : listed.getD i false = false := by simpa using hi2
   have hr : i ∈ Region.ready md ops listed := by
    rw [mem_ready]
    refine ⟨by rw [getD_two (by omega)]; exact hun, o, ho, fun e he hb => ?_⟩
    have hlt2 : e.on < i := by
     rcases hback e (by simpa using he) with hx | hx
     ·rw [hb] at hx; cases hx
     ·exact hx
    cases hle : listed.getD e.on false with
    |true => rfl
    |false =>
     exfalso
     have hm2 : e.on ∈ left ops listed := List.mem_filter.2 ⟨List.mem_range.2 (by omega), by rw [hle]; rfl⟩
     rw [hl] at hm2
     have hsorted : (left ops listed).Pairwise (· < ·) := List.Pairwise.filter _ List.pairwise_lt_range
     rw [hl] at hsorted
     rcases List.mem_cons.1 hm2 with he2 | he2
     ·omega
     ·have := (List.pairwise_cons.1 hsorted).1 _ he2
      omega
   rw [h0] at hr
   cases hr
theorem wp_region_wpS {id : Nat} {held : Nat -> Bool} {qv : Nat -> Option Value} {lst : Nat -> Bool} {a : Act} {w : World} (hm : P.follows .mixedOrders = true) (hs : Region.noSelect ops = true) (hO : orderB .any ops held lst = true)
  (hI : Inv { w with drawn := w.drawn + 1 }) (h : wpS P ops Inv Q held qv lst (List.range ops.size) a { w with drawn := w.drawn + 1 }) : (Code.region id ops true).wp P Q a w := by
 have hleft : left ops (Array.replicate ops.size false) = List.range ops.size := by
  unfold left
  rw [List.filter_eq_self]
  intro j _
  by_cases hj : j < ops.size <;> simp [hj]
 refine wp_region_any hm (wpAny_of_wpS hs hO ops.size _ a _ (by simp) ?_ (by rw [hleft]; simp) (.inl hI) (by rw [hleft]; exact h))
 intro j o ho hl
 exfalso
 by_cases hj : j < ops.size <;> simp [hj] at hl
def wpL (P : Program) (ops : Array Oper) (Inv : World -> Prop) (Q : Exit -> Act -> World -> Prop) (held : Nat -> Bool) (qv : Nat -> Option Value) (lst : Nat -> Bool) : Nat -> List Oper -> Act -> World -> Prop
 |_, [], a, w => Q .normal a w
 |k, o :: l, a, w =>
  if Region.wanted o (yielded ops a.tmps) then
   if held k then ∃ v, ((∀ w', Inv w' -> (execOp a.eval o).run P w' = .ok (.value v) w') \/ (qv k = some v /\ ∃ f args, ∀ w', Inv w' -> (execOp a.eval o).run P w' = .ok (.enter f args) w' /\ Calls P f args w' fun e w'' => e = .returned v /\ w'' = w')) /\ wpL P ops Inv Q held qv lst (k + 1) l (a.put o.dst v) w
   else o.wp P a w (fun a' w' => (lst k = true \/ Inv w') /\ wpL P ops Inv Q held qv lst (k + 1) l a' w') (calm Q)
  else Inv w /\ wpL P ops Inv Q held qv lst (k + 1) l (a.put o.dst undef) w
theorem wpS_of_wpL {held : Nat -> Bool} {qv : Nat -> Option Value} {lst : Nat -> Bool} : ∀ (l : List Oper) (k : Nat) (a : Act) (w : World), (∀ j, l[j]? = ops[k + j]?) -> wpL P ops Inv Q held qv lst k l a w -> wpS P ops Inv Q held qv lst (List.range' k l.length) a w
 |[], _, _, _, _, h => h
 |o :: l, k, a, w, hl, h => by
  have h0 : ops[k]? = some o := by simpa using (hl 0).symm
  have hl' : ∀ j, l[j]? = ops[k + 1 + j]? := fun j => by have := hl (j + 1); simpa [Nat.add_assoc, Nat.add_comm 1 j] using this
  rw [List.length_cons, List.range'_succ]
  show stepS P ops Inv Q held qv lst k (wpS P ops Inv Q held qv lst (List.range' (k + 1) l.length)) a w
  unfold stepS
  simp only [h0]
  unfold wpL at h
  by_cases hw : Region.wanted o (yielded ops a.tmps) = true
  ·rw [if_pos hw] at h
   by_cases hh : held k = true
   ·rw [if_pos hh] at h ⊢
    obtain ⟨v, hv, hK⟩ := h
    exact ⟨v, (by rcases hv with hv | ⟨hq, f, args, hv⟩; exact .inl ⟨hw, hv⟩; exact .inr (.inr ⟨hw, hq, f, args, hv⟩)), wpS_of_wpL l (k + 1) _ _ hl' hK⟩
   ·rw [if_neg hh] at h ⊢
    unfold Go.wpOp
    simp only [h0]
    rw [if_pos hw]
    exact .inl (Oper.wp_mono (fun a' w' ⟨x, y⟩ => ⟨x, wpS_of_wpL l (k + 1) _ _ hl' y⟩) h)
  ·rw [if_neg hw] at h
   by_cases hh : held k = true
   ·rw [if_pos hh]
    exact ⟨undef, .inr (.inl ⟨by simpa using hw, rfl⟩), wpS_of_wpL l (k + 1) _ _ hl' h.2⟩
   ·rw [if_neg hh]
    unfold Go.wpOp
    simp only [h0]
    rw [if_neg hw]
    exact ⟨.inr h.1, wpS_of_wpL l (k + 1) _ _ hl' h.2⟩
theorem wp_region_text {id : Nat} {l : List Oper} {a : Act} {w : World} (held : Nat -> Bool) (qv : Nat -> Option Value) (lst : Nat -> Bool) (Inv : World -> Prop) (hm : P.follows .mixedOrders = true)
  (hB : (Region.noSelect l.toArray && orderB .any l.toArray held lst) = true) (hI : Inv w.drew) (h : wpL P l.toArray Inv Q held qv lst 0 l a w.drew) : (Code.region id l.toArray true).wp P Q a w := by
 rw [Bool.and_eq_true] at hB
 refine wp_region_wpS (held := held) (qv := qv) (Inv := Inv) hm hB.1 hB.2 hI ?_
 have := wpS_of_wpL (ops := l.toArray) l 0 a w.drew (by simp) h
 rw [List.range_eq_range']
 simpa using this
section
variable {held : Nat -> Bool} {qv : Nat -> Option Value} {lst : Nat -> Bool} {k : Nat} {o : Oper} {l : List Oper} {a : Act} {w : World}
theorem wpL_nil (h : Q .normal a w) : wpL P ops Inv Q held qv lst k [] a w := h
theorem wpL_held {v : Value} (hk : held k = true) (hw : Region.wanted o (yielded ops a.tmps) = true) (hv : ∀ w', Inv w' -> (execOp a.eval o).run P w' = .ok (.value v) w')
  (h : wpL P ops Inv Q held qv lst (k + 1) l (a.put o.dst v) w) : wpL P ops Inv Q held qv lst k (o :: l) a w := by
 unfold wpL; rw [if_pos hw, if_pos hk]; exact ⟨v, .inl hv, h⟩
theorem wpL_skip (hI : Inv w) (hw : Region.wanted o (yielded ops a.tmps) = false) (h : wpL P ops Inv Q held qv lst (k + 1) l (a.put o.dst undef) w) : wpL P ops Inv Q held qv lst k (o :: l) a w := by
 unfold wpL; rw [if_neg (by simpa using hw)]; exact ⟨hI, h⟩
theorem wpL_act (hk : held k = false) (hw : Region.wanted o (yielded ops a.tmps) = true)
  (h : ∀ K : Act -> World -> Prop, (∀ a' w', (lst k = true \/ Inv w') -> wpL P ops Inv Q held qv lst (k + 1) l a' w' -> K a' w') -> o.wp P a w K (calm Q)) : wpL P ops Inv Q held qv lst k (o :: l) a w := by
 unfold wpL; rw [if_pos hw, if_neg (by simpa using hk)]; exact h _ (fun _ _ hI hh => ⟨hI, hh⟩)
theorem wpL_call {f : FuncId} {args : Array Value} (hk : held k = false) (hw : Region.wanted o (yielded ops a.tmps) = true) (he : (execOp a.eval o).run P w = .ok (.enter f args) w)
  {R : Ending -> World -> Prop} (hc : Calls P f args w R)
  (h : ∀ e w', R e w' -> ∃ v, e = .returned v /\ Inv w' /\ wpL P ops Inv Q held qv lst (k + 1) l (a.put o.dst v) w') : wpL P ops Inv Q held qv lst k (o :: l) a w := by
 refine wpL_act hk hw fun K hK => ?_
 unfold Oper.wp
 rw [he, Oper.upon_enter]
 refine hc.mono fun e w' hR => ?_
 obtain ⟨v, rfl, hI, hh⟩ := h e w' hR
 exact hK _ _ (.inr hI) hh
theorem upon_value {s : Sem Value} {C : World -> Prop} {v : Value} (h : Oper.quietUpon P C w v ((do pure (Next.value (<- s)) : Sem Next).run P w)) : (do pure (Next.value (<- s)) : Sem Next).run P w = .ok (.value v) w := by
 rw [Sem.run_bind] at *
 cases hs : s.run P w with
 |ok x w' =>
  rw [hs] at h
  simp only [Result.andThen_ok, Sem.run_pure, Oper.quietUpon] at h ⊢
  obtain ⟨rfl, rfl⟩ := h
  rfl
 |halt x w' =>
  rw [hs] at h
  cases x <;> simp only [Result.andThen, Oper.quietUpon] at h
def plainOp : Op -> Bool
 |.move _ | .assign _ | .binOp .. | .unOp .. | .load .. | .fieldAddr .. | .indexAddr .. | .index .. | .convert .. | .extract .. | .slice .. => true
 |_ => false
theorem run_of_quiet {C : World -> Prop} {v : Value} (h : o.quietAt P a C w v) (hp : plainOp o.op = true) : (execOp a.eval o).run P w = .ok (.value v) w := by
 unfold Oper.quietAt at h
 obtain ⟨dst, op, type, pos, after, guard⟩ := o
 cases op <;> simp only [plainOp, Bool.false_eq_true] at hp
 case move x => simpa [execOp, Oper.quietUpon, Sem.run_pure] using h.symm
 case assign x => simpa [execOp, Oper.quietUpon, Sem.run_pure] using h.symm
 all_goals exact upon_value h
theorem wpL_quiet (hk : held k = true) (hw : Region.wanted o (yielded ops a.tmps) = true) (hp : plainOp o.op = true)
  (h : ∀ K : Act -> Prop, (∀ a', wpL P ops Inv Q held qv lst (k + 1) l a' w -> K a') -> o.quiet P a Inv K) : wpL P ops Inv Q held qv lst k (o :: l) a w := by
 obtain ⟨v, h1, h2⟩ := h _ (fun _ hh => hh)
 exact wpL_held hk hw (fun w' hI => run_of_quiet (h1 w' hI) hp) h2
theorem wpL_val {v : Value} {w' : World} (hk : held k = false) (hw : Region.wanted o (yielded ops a.tmps) = true) (he : (execOp a.eval o).run P w = .ok (.value v) w') (hI : Inv w')
  (h : wpL P ops Inv Q held qv lst (k + 1) l (a.put o.dst v) w') : wpL P ops Inv Q held qv lst k (o :: l) a w := by
 refine wpL_act hk hw fun K hK => ?_
 unfold Oper.wp
 rw [he]
 exact hK _ _ (.inr hI) h
theorem wpL_lasts {w' : World} (hk : held k = false) (hl : lst k = true) (hw : Region.wanted o (yielded ops a.tmps) = true) (he : (execOp a.eval o).run P w = .ok .skip w')
  (h : wpL P ops Inv Q held qv lst (k + 1) l (a.put o.dst undef) w') : wpL P ops Inv Q held qv lst k (o :: l) a w := by
 refine wpL_act hk hw fun K hK => ?_
 unfold Oper.wp
 rw [he]
 exact hK _ _ (.inl hl) h
end
end
end Go.Proofs.YtmdnhinpaflamaaGreatDoor.Seq3
namespace Go.Proofs.YtmdnhinpaflamaaGreatDoor.Rg
open Go
open Seq3 (predB Down pred_listed left getD_two)
section
variable {P : Program} {ops : Array Oper}
def Does (P : Program) (o : Oper) (a : Act) (w : World) (R : Value -> World -> Prop) : Prop :=
 (∃ v w', (execOp a.eval o).run P w = .ok (.value v) w' /\ R v w') \/
 (∃ w', (execOp a.eval o).run P w = .ok .skip w' /\ R undef w') \/
 (∃ f args, (execOp a.eval o).run P w = .ok (.enter f args) w /\ Calls P f args w fun e w' => ∃ v, e = .returned v /\ R v w')
theorem Does.val {o : Oper} {a : Act} {w : World} {R : Value -> World -> Prop} {v : Value} {w' : World} (h : (execOp a.eval o).run P w = .ok (.value v) w') (hR : R v w') : Does P o a w R := .inl ⟨v, w', h, hR⟩
theorem Does.skip {o : Oper} {a : Act} {w : World} {R : Value -> World -> Prop} {w' : World} (h : (execOp a.eval o).run P w = .ok .skip w') (hR : R undef w') : Does P o a w R := .inr (.inl ⟨w', h, hR⟩)
theorem Does.call {o : Oper} {a : Act} {w : World} {R : Value -> World -> Prop} {f : FuncId} {args : Array Value} {S : Ending -> World -> Prop} (h : (execOp a.eval o).run P w = .ok (.enter f args) w) (hc : Calls P f args w S) (hR : ∀ e w', S e w' -> ∃ v, e = .returned v /\ R v w') : Does P o a w R :=
 .inr (.inr ⟨f, args, h, hc.mono fun e w' hs => hR e w' hs⟩)
theorem Does.wp {o : Oper} {a a' : Act} {w : World} {R : Value -> World -> Prop} {K : Act -> World -> Prop} {Q : Exit -> Act -> World -> Prop} (h : Does P o a w R) (he : execOp a'.eval o = execOp a.eval o) (hK : ∀ v w', R v w' -> K (a'.put o.dst v) w') : o.wp P a' w K Q := by
 unfold Oper.wp
 rw [he]
 rcases h with ⟨v, w', h1, h2⟩ | ⟨w', h1, h2⟩ | ⟨f, args, h1, h2⟩
 ·rw [h1]; exact hK _ _ h2
 ·rw [h1]; exact hK _ _ h2
 ·rw [h1, Oper.upon_enter]
  refine h2.mono fun e w' h => ?_
  obtain ⟨v, rfl, e2⟩ := h
  exact hK _ _ e2
def dstOf (ops : Array Oper) (i : Nat) : Option Tmp := (ops[i]?).bind (·.dst)
def puts (ops : Array Oper) (vals : Nat -> Value) : List Nat -> Act -> Act
 |[], a => a
 |i :: l, a => puts ops vals l (a.put (dstOf ops i) (vals i))
theorem puts_snoc (vals : Nat -> Value) (i : Nat) : ∀ (l : List Nat) (a : Act), puts ops vals (l ++ [i]) a = (puts ops vals l a).put (dstOf ops i) (vals i)
 |[], _ => rfl
 |_ :: l, _ => puts_snoc vals i l _
theorem puts_congr {vals vals' : Nat -> Value} : ∀ (l : List Nat) (a : Act), (∀ i ∈ l, vals i = vals' i) -> puts ops vals l a = puts ops vals' l a
 |[], _, _ => rfl
 |j :: l, a, h => by
  show puts ops vals l (a.put _ (vals j)) = puts ops vals' l (a.put _ (vals' j))
  rw [h j (by simp)]
  exact puts_congr l _ (fun i hi => h i (by simp [hi]))
theorem put_size (a : Act) (d : Option Tmp) (v : Value) : (a.put d v).tmps.size = a.tmps.size := by cases d <;> simp [Act.put]
theorem puts_defers (vals : Nat -> Value) : ∀ (l : List Nat) (a : Act), (puts ops vals l a).defers = a.defers
 |[], _ => rfl
 |j :: l, a => by
  rw [puts, puts_defers vals l]
  cases dstOf ops j <;> rfl
theorem puts_not (vals : Nat -> Value) (d : Nat) : ∀ (l : List Nat) (a : Act), (∀ i ∈ l, dstOf ops i ≠ some d) -> (puts ops vals l a).tmps[d]? = a.tmps[d]?
 |[], _, _ => rfl
 |j :: l, a, h => by
  rw [puts, puts_not vals d l _ (fun i hi => h i (by simp [hi]))]
  have hj := h j (by simp)
  cases hd : dstOf ops j with
  |none => rfl
  |some e =>
   have : e ≠ d := fun he => hj (by rw [hd, he])
   simp [Act.put, Array.getElem?_setIfInBounds_ne this]
theorem puts_at (hu : ∀ i j d, dstOf ops i = some d -> dstOf ops j = some d -> i = j) (vals : Nat -> Value) {d i : Nat} (hd : dstOf ops i = some d) : ∀ (l : List Nat) (a : Act), i ∈ l -> (puts ops vals l a).tmps[d]? = if d < a.tmps.size then some (vals i) else none
 |j :: l, a, h => by
  by_cases hil : i ∈ l
  ·rw [puts, puts_at hu vals hd l _ hil, put_size]
  ·have hj : i = j := by rcases List.mem_cons.1 h with h | h; exact h; exact absurd h hil
   subst hj
   rw [puts, puts_not vals d l _ (fun k hk hkd => hil (by rw [hu i k d hd hkd]; exact hk)), hd]
   simp only [Act.put, Array.getElem?_setIfInBounds_self]
theorem puts_eq (hu : ∀ i j d, dstOf ops i = some d -> dstOf ops j = some d -> i = j) (vals : Nat -> Value) (a : Act) {l m : List Nat} (h : ∀ i, i ∈ l ↔ i ∈ m) : puts ops vals l a = puts ops vals m a := by
 have ht : (puts ops vals l a).tmps = (puts ops vals m a).tmps := by
  refine Array.ext_getElem? fun d => ?_
  by_cases hx : ∃ i ∈ l, dstOf ops i = some d
  ·obtain ⟨i, hi, hd⟩ := hx
   rw [puts_at hu vals hd l a hi, puts_at hu vals hd m a ((h i).1 hi)]
  ·rw [puts_not vals d l a (fun i hi hd => hx ⟨i, hi, hd⟩), puts_not vals d m a (fun i hi hd => hx ⟨i, (h i).2 hi, hd⟩)]
 have hd : (puts ops vals l a).defers = (puts ops vals m a).defers := by rw [puts_defers, puts_defers]
 generalize puts ops vals l a = x at ht hd
 generalize puts ops vals m a = y at ht hd
 cases x; cases y
 simp_all
theorem exec_eq (hu : ∀ i j d, dstOf ops i = some d -> dstOf ops j = some d -> i = j) {o : Oper} (hs : ∀ cs b, o.op ≠ .select cs b) (vals : Nat -> Value) (a : Act) {l D : List Nat} (hDl : ∀ i ∈ D, i ∈ l) (hD : ∀ t, Operand.tmp t ∈ o.op.operands -> ∀ j ∈ l, dstOf ops j = some t -> j ∈ D) :
  execOp (puts ops vals l a).eval o = execOp (puts ops vals D a).eval o := by
 refine execOp_congr o hs fun x hx => ?_
 cases x with
 |tmp t =>
  have key : (puts ops vals l a).tmps[t]? = (puts ops vals D a).tmps[t]? := by
   by_cases hy : ∃ i ∈ l, dstOf ops i = some t
   ·obtain ⟨i, hi, hd⟩ := hy
    rw [puts_at hu vals hd l a hi, puts_at hu vals hd D a (hD t (by simpa using hx) i hi hd)]
   ·rw [puts_not vals t l a (fun i hi hd => hy ⟨i, hi, hd⟩), puts_not vals t D a (fun i hi hd => hy ⟨i, hDl i hi, hd⟩)]
  simp only [Act.eval, Array.getD_eq_getD_getElem?, key]
 |_ => rfl
def checkB (ops : Array Oper) (D : List (List Nat)) : Bool :=
 Region.noSelect ops && (List.range ops.size).all fun i =>
  ((ops[i]?).map fun o => o.guard.isNone && (o.after.toList.all fun e => !Region.binds .any e || decide (e.on < i)) &&
   ((List.range ops.size).all fun j => (i == j || (dstOf ops j).isNone || dstOf ops i != dstOf ops j) &&
    (!(o.op.operands.toList.any fun x => match x with | .tmp t => dstOf ops j == some t | _ => false) || ((D.getD i []).contains j || j + 1 == ops.size)))).getD false &&
  ((D.getD i []).all fun j => predB .any ops ops.size j i) && (i + 1 != ops.size || (List.range i).all fun j => predB .any ops ops.size j i)
theorem any_done {Q : Exit -> Act -> World -> Prop} {listed : Array Bool} (hl : left ops listed = []) (hsz : listed.size = ops.size) {a : Act} {w : World} (h : Q .normal a w) (fuel : Nat) : wpAny P .any ops Q fuel listed a w := by
 have hr : Region.ready .any ops listed = [] := by
  refine List.eq_nil_iff_forall_not_mem.2 fun i hi => ?_
  obtain ⟨hun, o, ho, hall⟩ := mem_ready.1 hi
  have hlt : i < ops.size := (Array.getElem?_eq_some_iff.1 ho).1
  have : i ∈ left ops listed := List.mem_filter.2 ⟨List.mem_range.2 hlt, by rw [<- getD_two (by omega), hun]; rfl⟩
  rw [hl] at this
  cases this
 cases fuel with
 |zero => exact ⟨hr, h⟩
 |succ n => exact ⟨fun _ => h, fun i hi => by rw [hr] at hi; cases hi⟩
theorem wp_region_rg {id : Nat} {l : List Oper} {a : Act} {w : World} {Q : Exit -> Act -> World -> Prop} (D : List (List Nat)) (φ : Nat -> Value -> World -> Prop) (Inv : World -> Prop) (R : World -> World -> Prop)
  (hm : P.follows .mixedOrders = true) (hB : checkB l.toArray D = true) (hI : Inv w.drew)
  (hst : ∀ j, j + 1 < l.length -> ∀ v w w', R w w' -> φ j v w -> φ j v w')
  (hstep : ∀ i o, l[i]? = some o -> i + 1 < l.length -> ∀ vals w, Inv w -> (∀ j ∈ D.getD i [], φ j (vals j) w) -> Does P o (puts l.toArray vals (D.getD i []) a) w fun v w' => Inv w' /\ R w w' /\ φ i v w')
  (hlast : ∀ o, l[l.length - 1]? = some o -> ∀ vals w, Inv w -> (∀ j, j + 1 < l.length -> φ j (vals j) w) -> Does P o (puts l.toArray vals (List.range (l.length - 1)) a) w fun v w' => Q .normal ((puts l.toArray vals (List.range (l.length - 1)) a).put o.dst v) w')
  (hn : 0 < l.length) : (Code.region id l.toArray true).wp P Q a w := by
 have hsz0 : l.toArray.size = l.length := by simp
 generalize hops : l.toArray = ops at *
 have hget : ∀ i, ops[i]? = l[i]? := fun i => by rw [<- hops]; exact List.getElem?_toArray ..
 unfold checkB at hB
 rw [Bool.and_eq_true] at hB
 obtain ⟨hs, hB⟩ := hB
 have hC : ∀ i o, ops[i]? = some o -> o.guard = none /\ (∀ e ∈ o.after, Region.binds .any e = true -> e.on < i) /\ (∀ j, j < ops.size -> (i = j \/ dstOf ops j = none \/ dstOf ops i ≠ dstOf ops j) /\ (∀ t, Operand.tmp t ∈ o.op.operands -> dstOf ops j = some t -> j ∈ D.getD i [] \/ j + 1 = ops.size)) /\
   (∀ j ∈ D.getD i [], predB .any ops ops.size j i = true) /\ (i + 1 = ops.size -> ∀ j, j < i -> predB .any ops ops.size j i = true) := by
  intro i o ho
  have hlt : i < ops.size := (Array.getElem?_eq_some_iff.1 ho).1
  have h := List.all_eq_true.1 hB i (List.mem_range.2 hlt)
  simp only [ho, Option.map_some, Option.getD_some, Bool.and_eq_true] at h
  obtain ⟨⟨⟨⟨h1, h2⟩, h3⟩, h4⟩, h5⟩ := h
  refine ⟨by simpa using h1, fun e he hb => ?_, fun j hj => ?_, fun j hj => List.all_eq_true.1 h4 j hj, fun hi j hj => ?_⟩
  ·have := List.all_eq_true.1 h2 e (by simpa using he)
   simpa [hb] using this
  ·have h := List.all_eq_true.1 h3 j (List.mem_range.2 hj)
   rw [Bool.and_eq_true] at h
   refine ⟨by simpa [or_assoc] using h.1, fun t ht hd => ?_⟩
   have h2 := h.2
   rw [Bool.or_eq_true] at h2
   rcases h2 with h2 | h2
   ·have : (o.op.operands.toList.any fun x => match x with | .tmp t => dstOf ops j == some t | _ => false) = true := List.any_eq_true.2 ⟨.tmp t, by simpa using ht, by simp [hd]⟩
    rw [this] at h2
    cases h2
   ·simpa using h2
  ·have := h5
   rw [Bool.or_eq_true] at this
   rcases this with h | h
   ·simp [hi] at h
   ·exact List.all_eq_true.1 h j (List.mem_range.2 hj)
 have hu : ∀ i j d, dstOf ops i = some d -> dstOf ops j = some d -> i = j := by
  intro i j d hi hj
  obtain ⟨oi, hoi⟩ : ∃ o, ops[i]? = some o := by
   cases h : ops[i]? with
   |none => simp [dstOf, h] at hi
   |some o => exact ⟨o, rfl⟩
  have hlt : j < ops.size := by
   cases h : ops[j]? with
   |none => simp [dstOf, h] at hj
   |some o => exact (Array.getElem?_eq_some_iff.1 h).1
  rcases ((hC i oi hoi).2.2.1 j hlt).1 with h | h | h
  ·exact h
  ·rw [h] at hj; cases hj
  ·exact absurd (hi.trans hj.symm) h
 have hwant : ∀ (i : Nat) (o : Oper) (b : Act), ops[i]? = some o -> Region.wanted o (yielded ops b.tmps) = true := by
  intro i o b ho
  unfold Region.wanted
  rw [(hC i o ho).1]
 have main : ∀ (fuel : Nat) (listed : Array Bool) (hist : List Nat) (vals : Nat -> Value) (w : World), listed.size = ops.size -> Down .any ops listed -> (left ops listed).length <= fuel -> (∀ i, i ∈ hist ↔ i < ops.size /\ listed.getD i false = true) -> listed.getD (ops.size - 1) false = false ->
   Inv w -> (∀ i ∈ hist, φ i (vals i) w) -> wpAny P .any ops Q fuel listed (puts ops vals hist a) w := by
  intro fuel
  induction fuel with
  |zero =>
   intro listed hist vals w hsz hd hlen hh hlst hI hφ
   exfalso
   have : ops.size - 1 ∈ left ops listed := List.mem_filter.2 ⟨List.mem_range.2 (by omega), by rw [hlst]; rfl⟩
   rw [List.eq_nil_of_length_eq_zero (by omega : (left ops listed).length = 0)] at this
   cases this
  |succ fuel ih =>
   intro listed hist vals w hsz hd hlen hh hlst hI hφ
   refine ⟨fun h0 => ?_, fun i hi => ?_⟩
   ·exfalso
    have hex : ∃ i, i < ops.size /\ listed.getD i false = false /\ ∀ j, j < i -> listed.getD j false = true := by
     have : ∀ k, k <= ops.size -> (∃ i, i < k /\ listed.getD i false = false /\ ∀ j, j < i -> listed.getD j false = true) \/ ∀ j, j < k -> listed.getD j false = true := by
      intro k
      induction k with
      |zero => exact fun _ => .inr (fun j hj => by omega)
      |succ k ihk =>
       intro hk
       rcases ihk (by omega) with ⟨i, h1, h2⟩ | h
       ·exact .inl ⟨i, by omega, h2⟩
       ·cases hl : listed.getD k false with
        |false => exact .inl ⟨k, by omega, hl, h⟩
        |true => exact .inr (fun j hj => by rcases Nat.lt_or_ge j k with h' | h'; exact h j h'; rw [show j = k by omega]; exact hl)
     rcases this ops.size (Nat.le_refl _) with h | h
     ·exact h
     ·have := h (ops.size - 1) (by omega)
      rw [hlst] at this
      cases this
    obtain ⟨i, hi, hl, hall⟩ := hex
    have hr : i ∈ Region.ready .any ops listed := by
     rw [mem_ready]
     refine ⟨by rw [getD_two (by omega)]; exact hl, ops[i], by simp [hi], fun e he hb => hall _ ((hC i ops[i] (by simp [hi])).2.1 e he hb)⟩
    rw [h0] at hr
    cases hr
   ·obtain ⟨hun, o, ho, hall⟩ := mem_ready.1 hi
    have hlt : i < ops.size := (Array.getElem?_eq_some_iff.1 ho).1
    obtain ⟨c1, c2, c3, c4, c5⟩ := hC i o ho
    have hunF : listed.getD i false = false := by rw [<- getD_two (by omega)]; exact hun
    have hDh : ∀ j ∈ D.getD i [], j ∈ hist := fun j hj => by
     have hl := pred_listed hd _ j i o ho hall (c4 j hj)
     refine (hh j).2 ⟨?_, hl⟩
     rcases Nat.lt_or_ge j ops.size with h | h
     ·exact h
     ·simp [Array.getD_eq_getD_getElem?, show listed[j]? = none from Array.getElem?_eq_none (by omega)] at hl
    have hnh : i ∉ hist := fun h => by rw [((hh i).1 h).2] at hunF; cases hunF
    have hset : ∀ j, (listed.setIfInBounds i true).getD j false = true ↔ j = i \/ listed.getD j false = true := by
     intro j
     by_cases hji : j = i
     ·subst hji; simp [hsz, hlt]
     ·rw [getD_set_ne false (Ne.symm hji)]; simp [hji]
    have hd' : Down .any ops (listed.setIfInBounds i true) := by
     intro j oj hoj hlj e he hb
     rcases (hset j).1 hlj with rfl | h
     ·rw [ho] at hoj
      cases hoj
      exact (hset _).2 (.inr (hall e he hb))
     ·exact (hset _).2 (.inr (hd j oj hoj h e he hb))
    have hlen' : (left ops (listed.setIfInBounds i true)).length < (left ops listed).length := by
     have hp : (!listed.getD i false) = true := by rw [hunF]; rfl
     obtain ⟨l2, e1, e2⟩ := Seq3.filter_split (p := fun j => !listed.getD j false) hp ops.size hlt
     have e3 : left ops (listed.setIfInBounds i true) = (List.range ops.size).filter (fun j => (!listed.getD j false) && !(j == i)) := by
      unfold left
      refine List.filter_congr fun j _ => ?_
      by_cases hji : j = i
      ·subst hji
       rw [(hset j).2 (.inl rfl)]; simp
      ·rw [getD_set_ne false (Ne.symm hji)]; simp [hji]
     have e1' : left ops listed = _ := e1
     rw [e3, e2, e1']
     simp
    unfold wpOp
    simp only [ho]
    rw [if_pos (hwant i o _ ho)]
    refine .inl ?_
    have hcd : ∀ t, Operand.tmp t ∈ o.op.operands -> ∀ j ∈ hist, dstOf ops j = some t -> j ∈ D.getD i [] := by
     intro t ht j hj hd
     rcases (c3 j ((hh j).1 hj).1).2 t ht hd with h | h
     ·exact h
     ·have := ((hh j).1 hj).2
      rw [show j = ops.size - 1 by omega, hlst] at this
      cases this
    by_cases hil : i + 1 < ops.size
    ·have hx := hstep i o (by rw [<- hget]; exact ho) (by omega) vals w hI (fun j hj => hφ j (hDh j hj))
     refine hx.wp (exec_eq hu (fun cs b => Region.noSelect_spec hs i o cs b ho) vals a hDh hcd) fun v w' ⟨h1, h2, h3⟩ => ?_
     have hvals : puts ops vals hist a = puts ops (fun k => if k = i then v else vals k) hist a := puts_congr hist a fun k hk => by
      show vals k = if k = i then v else vals k
      rw [if_neg (fun (h : k = i) => hnh (h ▸ hk))]
     have hput : (puts ops vals hist a).put o.dst v = puts ops (fun k => if k = i then v else vals k) (hist ++ [i]) a := by
      rw [puts_snoc, <- hvals]
      simp only [if_true]
      congr 1
      simp [dstOf, ho]
     rw [hput]
     refine ih _ _ _ _ (by simp [hsz]) hd' (by omega) (fun j => ?_) ?_ h1 (fun j hj => ?_)
     ·rw [List.mem_append, List.mem_singleton, hh j, hset j]
      constructor
      ·rintro (h | rfl)
       ·exact ⟨h.1, .inr h.2⟩
       ·exact ⟨hlt, .inl rfl⟩
      ·rintro ⟨h1, rfl | h2⟩
       ·exact .inr rfl
       ·exact .inl ⟨h1, h2⟩
     ·cases hc : (listed.setIfInBounds i true).getD (ops.size - 1) false with
      |false => rfl
      |true =>
       rcases (hset _).1 hc with h | h
       ·omega
       ·rw [hlst] at h; cases h
     ·rcases List.mem_append.1 hj with h | h
      ·have hne : j ≠ i := fun e => hnh (e ▸ h)
       have hjl : j < ops.size /\ _ := (hh j).1 h
       have hj1 : j + 1 < l.length := by
        rcases Nat.lt_or_ge (j + 1) ops.size with h' | h'
        ·omega
        ·have := hjl.2
         rw [show j = ops.size - 1 by omega, hlst] at this
         cases this
       simp only [if_neg hne]
       exact hst j hj1 _ _ _ h2 (hφ j h)
      ·rw [List.mem_singleton.1 h]
       simp only [if_true]
       exact h3
    ·have hie : i = ops.size - 1 := by omega
     have hhist : ∀ j, j ∈ hist ↔ j ∈ List.range (l.length - 1) := by
      intro j
      rw [List.mem_range, hh j]
      constructor
      ·rintro ⟨h1, h2⟩
       rcases Nat.lt_or_ge j (l.length - 1) with h' | h'
       ·exact h'
       ·rw [show j = ops.size - 1 by omega, hlst] at h2
        cases h2
      ·intro h
       exact ⟨by omega, pred_listed hd _ j i o ho hall (c5 (by omega) j (by omega))⟩
     have hx := hlast o (by rw [<- hget, <- hsz0, <- hie]; exact ho) vals w hI (fun j hj => hφ j ((hhist j).2 (List.mem_range.2 (by omega))))
     have heq := puts_eq hu vals a hhist
     rw [heq]
     refine hx.wp rfl fun v w' hq => any_done ?_ (by simp [hsz]) hq _
     unfold left
     rw [List.filter_eq_nil_iff]
     intro k hk
     have hk := List.mem_range.1 hk
     have : (listed.setIfInBounds i true).getD k false = true := by
      rw [hset]
      by_cases hki : k = i
      ·exact .inl hki
      ·exact .inr (pred_listed hd _ k i o ho hall (c5 (by omega) k (by omega)))
     rw [this]
     simp
 refine wp_region_any hm ?_
 have hleft : left ops (Array.replicate ops.size false) = List.range ops.size := by
  unfold left
  rw [List.filter_eq_self]
  intro j _
  by_cases hj : j < ops.size <;> simp [hj]
 exact main ops.size _ [] (fun _ => undef) _ (by simp) (fun j o ho hl => by
  exfalso
  by_cases hj : j < ops.size <;> simp [hj] at hl) (by rw [hleft]; simp) (fun i => by
  constructor
  ·intro h; cases h
  ·rintro ⟨h1, h2⟩
   simp [h1] at h2) (by
  have h : ∀ k, (Array.replicate ops.size false).getD k false = false := fun k => by by_cases hk : k < ops.size <;> simp [hk]
  exact h _) hI (fun i hi => by cases hi)
def putsD (ds : List (Option Tmp)) (vals : Nat -> Value) : List Nat -> Act -> Act
 |[], a => a
 |i :: l, a => putsD ds vals l (a.put (ds.getD i none) (vals i))
theorem puts_D {l : List Oper} {ds : List (Option Tmp)} (hds : l.map (·.dst) = ds) (vals : Nat -> Value) : ∀ (m : List Nat) (a : Act), puts l.toArray vals m a = putsD ds vals m a
 |[], _ => rfl
 |i :: m, a => by
  have h : dstOf l.toArray i = ds.getD i none := by
   subst hds
   unfold dstOf
   simp only [List.getElem?_toArray, List.getD_eq_getElem?_getD, List.getElem?_map]
   cases l[i]? <;> rfl
  rw [puts, putsD, h, puts_D hds vals m]
def Each (P : Program) (ds : List (Option Tmp)) (φ : Nat -> Value -> World -> Prop) (Inv : World -> Prop) (R : World -> World -> Prop) (Q : Exit -> Act -> World -> Prop) (a : Act) (m : Nat) : Nat -> List (List Nat) -> List Oper -> Prop
 |_, _, [] => True
 |_, _, [o] => ∀ vals w, Inv w -> (∀ j, j < m -> φ j (vals j) w) -> Does P o (putsD ds vals (List.range m) a) w fun v w' => Q .normal ((putsD ds vals (List.range m) a).put o.dst v) w'
 |k, [], o :: r => (∀ vals w, Inv w -> Does P o (putsD ds vals [] a) w fun v w' => Inv w' /\ R w w' /\ φ k v w') /\ Each P ds φ Inv R Q a m (k + 1) [] r
 |k, d :: D, o :: r => (∀ vals w, Inv w -> (∀ j ∈ d, φ j (vals j) w) -> Does P o (putsD ds vals d a) w fun v w' => Inv w' /\ R w w' /\ φ k v w') /\ Each P ds φ Inv R Q a m (k + 1) D r
theorem Each.cons {ds : List (Option Tmp)} {φ : Nat -> Value -> World -> Prop} {Inv : World -> Prop} {R : World -> World -> Prop} {Q : Exit -> Act -> World -> Prop} {a : Act} {m k : Nat} {d : List Nat} {D : List (List Nat)} {o o' : Oper} {r : List Oper}
  (h : ∀ vals w, Inv w -> (∀ j ∈ d, φ j (vals j) w) -> Does P o (putsD ds vals d a) w fun v w' => Inv w' /\ R w w' /\ φ k v w') (hr : Each P ds φ Inv R Q a m (k + 1) D (o' :: r)) : Each P ds φ Inv R Q a m k (d :: D) (o :: o' :: r) := ⟨h, hr⟩
theorem Each.one {ds : List (Option Tmp)} {φ : Nat -> Value -> World -> Prop} {Inv : World -> Prop} {R : World -> World -> Prop} {Q : Exit -> Act -> World -> Prop} {a : Act} {m k : Nat} {D : List (List Nat)} {o : Oper}
  (h : ∀ vals w, Inv w -> (∀ j, j < m -> φ j (vals j) w) -> Does P o (putsD ds vals (List.range m) a) w fun v w' => Q .normal ((putsD ds vals (List.range m) a).put o.dst v) w') : Each P ds φ Inv R Q a m k D [o] := by
 cases D <;> exact h
theorem Each.step {ds : List (Option Tmp)} {φ : Nat -> Value -> World -> Prop} {Inv : World -> Prop} {R : World -> World -> Prop} {Q : Exit -> Act -> World -> Prop} {a : Act} {m : Nat} : ∀ (D : List (List Nat)) (l : List Oper) (k i : Nat) (o : Oper), Each P ds φ Inv R Q a m k D l -> l[i]? = some o -> i + 1 < l.length ->
  ∀ vals w, Inv w -> (∀ j ∈ D.getD i [], φ j (vals j) w) -> Does P o (putsD ds vals (D.getD i []) a) w fun v w' => Inv w' /\ R w w' /\ φ (k + i) v w'
 |_, [], k, i, o, _, h, _ => by simp at h
 |_, [x], k, i, o, _, _, h => by simp at h
 |[], x :: y :: r, k, 0, o, h, ho, _ => by
  cases ho
  exact fun vals w hI _ => h.1 vals w hI
 |d :: D, x :: y :: r, k, 0, o, h, ho, _ => by
  cases ho
  exact h.1
 |[], x :: y :: r, k, i + 1, o, h, ho, hi => by
  have := Each.step [] (y :: r) (k + 1) i o h.2 (by simpa using ho) (by simpa using hi)
  rw [show k + 1 + i = k + (i + 1) by omega] at this
  exact this
 |d :: D, x :: y :: r, k, i + 1, o, h, ho, hi => by
  have := Each.step D (y :: r) (k + 1) i o h.2 (by simpa using ho) (by simpa using hi)
  rw [show k + 1 + i = k + (i + 1) by omega] at this
  exact this
theorem Each.last {ds : List (Option Tmp)} {φ : Nat -> Value -> World -> Prop} {Inv : World -> Prop} {R : World -> World -> Prop} {Q : Exit -> Act -> World -> Prop} {a : Act} {m : Nat} : ∀ (D : List (List Nat)) (l : List Oper) (k : Nat) (o : Oper), Each P ds φ Inv R Q a m k D l -> l[l.length - 1]? = some o ->
  ∀ vals w, Inv w -> (∀ j, j < m -> φ j (vals j) w) -> Does P o (putsD ds vals (List.range m) a) w fun v w' => Q .normal ((putsD ds vals (List.range m) a).put o.dst v) w'
 |_, [], _, _, _, h => by simp at h
 |[], [x], _, o, h, ho => by
  cases ho
  exact h
 |_ :: _, [x], _, o, h, ho => by
  cases ho
  exact h
 |[], x :: y :: r, k, o, h, ho => Each.last [] (y :: r) (k + 1) o h.2 (by simpa using ho)
 |_ :: D, x :: y :: r, k, o, h, ho => Each.last D (y :: r) (k + 1) o h.2 (by simpa using ho)
theorem wp_region {id : Nat} {l : List Oper} {a : Act} {w : World} {Q : Exit -> Act -> World -> Prop} (D : List (List Nat)) (ds : List (Option Tmp)) (m : Nat) (φ : Nat -> Value -> World -> Prop) (Inv : World -> Prop) (R : World -> World -> Prop)
  (hm : P.follows .mixedOrders = true) (hds : l.map (·.dst) = ds) (hl : l.length = m + 1) (hB : checkB l.toArray D = true) (hI : Inv w.drew)
  (hst : ∀ j, j < m -> ∀ v w w', R w w' -> φ j v w -> φ j v w') (h : Each P ds φ Inv R Q a m 0 D l) : (Code.region id l.toArray true).wp P Q a w := by
 refine wp_region_rg D φ Inv R hm hB hI (fun j hj => hst j (by omega)) (fun i o ho hi vals w hI hφ => ?_) (fun o ho vals w hI hφ => ?_) (by omega)
 ·rw [puts_D hds]
  have := h.step D l 0 i o ho hi vals w hI hφ
  rwa [Nat.zero_add] at this
 ·rw [puts_D hds, show l.length - 1 = m by omega]
  exact h.last D l 0 o ho vals w hI (fun j hj => hφ j (by omega))
end
end Go.Proofs.YtmdnhinpaflamaaGreatDoor.Rg
