/- XSeq2 once more: behind an operation that all the others come ahead of (lst) the invariant need not hold. Over any program. -/
import Derived.Orders
import Derived.Tactics
import Derived.BigQuiet
import Derived.KernelRfl
namespace Go.Proofs.YtmdnhinpaflamaaDoor.Seq3
open Go

section
variable {P : Program} {ops : Array Oper} {Inv : World → Prop} {Q : Exit → Act → World → Prop}

/-- no panic, no other way out -/
def calm (Q : Exit → Act → World → Prop) : Exit → Act → World → Prop
  | .normal, a, w => Q .normal a w
  | _, _, _ => False

theorem calm_normal (Q : Exit → Act → World → Prop) (a : Act) (w : World) : calm Q .normal a w = Q .normal a w := rfl
theorem calm_panic (Q : Exit → Act → World → Prop) (c : List PanicEntry) (a : Act) (w : World) : calm Q (.panic c) a w = False := rfl
theorem not_letsOut (Q : Exit → Act → World → Prop) : ¬ LetsOut (calm Q) := fun ⟨_, _, h⟩ => h

/-- one value at every world of the invariant -/
def YH (P : Program) (ops : Array Oper) (Inv : World → Prop) (q : Option Value) (o : Oper) (v : Value) (a : Act) : Prop :=
  (Region.wanted o (yielded ops a.tmps) = true ∧ ∀ w, Inv w → (execOp a.eval o).run P w = .ok (.value v) w) ∨ (Region.wanted o (yielded ops a.tmps) = false ∧ v = undef) ∨
  (Region.wanted o (yielded ops a.tmps) = true ∧ q = some v ∧ ∃ f args, ∀ w, Inv w → (execOp a.eval o).run P w = .ok (.enter f args) w ∧ Calls P f args w fun e w' => e = .returned v ∧ w' = w)

theorem YH.of_same {q : Option Value} {o : Oper} {v : Value} {a a' : Act} (hy : YH P ops Inv q o v a) (he : execOp a'.eval o = execOp a.eval o)
    (hw : Region.wanted o (yielded ops a'.tmps) = Region.wanted o (yielded ops a.tmps)) : YH P ops Inv q o v a' := by
  unfold YH at *; rw [he, hw]; exact hy

theorem YH.wpOp {q : Option Value} {i : Nat} {o : Oper} {v : Value} {a : Act} {w : World} (hi : ops[i]? = some o) (hy : YH P ops Inv q o v a) (hI : Inv w)
    {K : Act → World → Prop} (h : K (a.put o.dst v) w) : wpOp P ops Q i K a w := by
  unfold Go.wpOp
  simp only [hi]
  rcases hy with ⟨hw, hv⟩ | ⟨hw, rfl⟩ | ⟨hw, _, f, args, hv⟩
  · simp only [hw, if_true, Oper.wp, hv w hI, Oper.upon]; exact .inl h
  · simp only [hw, Bool.false_eq_true, if_false]; exact h
  · obtain ⟨h1, h2⟩ := hv w hI
    simp only [hw, if_true]
    refine .inl ?_
    unfold Oper.wp
    rw [h1, Oper.upon_enter]
    refine h2.mono fun e w' h3 => ?_
    obtain ⟨rfl, rfl⟩ := h3
    exact h

theorem yh_unique {q : Option Value} {o : Oper} {a : Act} {v u : Value} (h : YH P ops Inv q o v a) (k : YH P ops Inv q o u a) {w : World} (hI : Inv w) : v = u := by
  rcases h with ⟨h1, h2⟩ | ⟨h1, rfl⟩ | ⟨h1, h2, f, args, h3⟩ <;> rcases k with ⟨k1, k2⟩ | ⟨k1, rfl⟩ | ⟨k1, k2, f', args', k3⟩
  · have := (h2 w hI).symm.trans (k2 w hI); simpa using this
  · rw [h1] at k1; cases k1
  · have := (h2 w hI).symm.trans (k3 w hI).1; simp at this
  · rw [h1] at k1; cases k1
  · rfl
  · rw [h1] at k1; cases k1
  · have := (k2 w hI).symm.trans (h3 w hI).1; simp at this
  · rw [h1] at k1; cases k1
  · rw [h2] at k2; exact Option.some.inj k2

/-- one step in the order of the text -/
def stepS (P : Program) (ops : Array Oper) (Inv : World → Prop) (Q : Exit → Act → World → Prop) (held : Nat → Bool) (qv : Nat → Option Value) (lst : Nat → Bool) (i : Nat) (K : Act → World → Prop) (a : Act) (w : World) : Prop :=
  match ops[i]? with
  | none => K a w
  | some o => if held i then ∃ v, YH P ops Inv (qv i) o v a ∧ K (a.put o.dst v) w else wpOp P ops (calm Q) i (fun a' w' => (lst i = true ∨ Inv w') ∧ K a' w') a w

theorem stepS_mono {held : Nat → Bool} {qv : Nat → Option Value} {lst : Nat → Bool} {i : Nat} {K K' : Act → World → Prop} {a : Act} {w : World} (h : ∀ a w, K a w → K' a w) (hh : stepS P ops Inv Q held qv lst i K a w) : stepS P ops Inv Q held qv lst i K' a w := by
  unfold stepS at *
  split
  · exact h _ _ (by simpa [*] using hh)
  · rename_i o ho
    simp only [ho] at hh
    split
    · rename_i hw; simp only [hw, if_true] at hh; obtain ⟨v, hy, hK⟩ := hh; exact ⟨v, hy, h _ _ hK⟩
    · rename_i hw; simp only [hw, Bool.false_eq_true, if_false] at hh; exact wpOp_mono (fun a w ⟨x, y⟩ => ⟨x, h _ _ y⟩) hh

/-- (A) a held operation moves ahead of one that acts -/
theorem swap_held {qv : Nat → Option Value} {i k : Nat} {ok oi : Oper} (hk : ops[k]? = some ok) (hap : oi.apart ops ok = true)
    (hsi : ∀ cs b, oi.op ≠ .select cs b) (hsk : ∀ cs b, ok.op ≠ .select cs b)
    {K : Act → World → Prop} {a : Act} {w : World} (h : wpOp P ops (calm Q) k (fun a' w' => Inv w' ∧ ∃ v, YH P ops Inv (qv i) oi v a' ∧ K (a'.put oi.dst v) w') a w) :
    ∃ v, YH P ops Inv (qv i) oi v a ∧ wpOp P ops (calm Q) k (fun a' w' => Inv w' ∧ K a' w') (a.put oi.dst v) w := by
  obtain ⟨h1, h2, h3⟩ := Oper.apart_spec hap
  have back : ∀ (u v : Value), YH P ops Inv (qv i) oi v (a.put ok.dst u) → YH P ops Inv (qv i) oi v a := fun u v hy =>
    hy.of_same (execOp_put oi hsi a ok.dst u h3).symm (wanted_put oi a ok.dst u h3).symm
  have backD : ∀ (d : Deferred) (u v : Value), YH P ops Inv (qv i) oi v (({ a with defers := d :: a.defers } : Act).put ok.dst u) → YH P ops Inv (qv i) oi v a := fun d u v hy =>
    (hy.of_same (execOp_put oi hsi { a with defers := d :: a.defers } ok.dst u h3).symm (wanted_put oi { a with defers := d :: a.defers } ok.dst u h3).symm : YH P ops Inv (qv i) oi v { a with defers := d :: a.defers })
  have main : ∀ (u : Value) (w' : World), (Inv w' ∧ ∃ v, YH P ops Inv (qv i) oi v (a.put ok.dst u) ∧ K ((a.put ok.dst u).put oi.dst v) w') → Inv w' ∧ ∃ v, YH P ops Inv (qv i) oi v a ∧ K ((a.put oi.dst v).put ok.dst u) w' := fun u w' ⟨hI, v, hy, hK⟩ =>
    ⟨hI, v, back u v hy, by rw [Act.put_comm a v u h2]; exact hK⟩
  unfold Go.wpOp at h
  simp only [hk] at h
  by_cases hw : Region.wanted ok (yielded ops a.tmps) = true
  · simp only [hw, if_true] at h
    rcases h with h | ⟨_, h⟩
    case inr => exact absurd h (not_letsOut Q)
    unfold Oper.wp at h
    have goal : ∀ v, ok.upon P (a.put oi.dst v) (fun a' w' => Inv w' ∧ K a' w') (calm Q) ((execOp a.eval ok).run P w) → wpOp P ops (calm Q) k (fun a' w' => Inv w' ∧ K a' w') (a.put oi.dst v) w := fun v hh => by
      unfold Go.wpOp
      simp only [hk]
      rw [wanted_put ok a oi.dst v h1, if_pos hw]
      refine .inl ?_
      unfold Oper.wp
      rw [execOp_put ok hsk a oi.dst v h1]
      exact hh
    generalize (execOp a.eval ok).run P w = r at *
    cases r with
    | ok n w' =>
      cases n <;> simp only [Oper.upon] at h goal
      case value u => obtain ⟨hI, v, hy, hK⟩ := main u w' h; exact ⟨v, hy, goal v ⟨hI, hK⟩⟩
      case skip => obtain ⟨hI, v, hy, hK⟩ := main _ w' h; exact ⟨v, hy, goal v ⟨hI, hK⟩⟩
      case defer d =>
        obtain ⟨hI, v, hy, hK⟩ := h
        refine ⟨v, backD d _ v hy, goal v ⟨hI, ?_⟩⟩
        rw [Act.put_defers, Act.put_comm _ v undef h2]
        exact hK
      case enter f args =>
        obtain ⟨e, w'', fr, hR, _⟩ := h []
        cases e with
        | panicked c => exact hR.elim
        | outgrown => exact absurd hR (not_letsOut Q)
        | returned u =>
          obtain ⟨hI, v, hy, hK⟩ := main u w'' hR
          refine ⟨v, hy, goal v (Calls.mono h fun e w3 he => ?_)⟩
          cases e with
          | panicked c => exact he.elim
          | outgrown => exact absurd he (not_letsOut Q)
          | returned u' =>
            obtain ⟨hI', v', hy', hK'⟩ := main u' w3 he
            rw [yh_unique hy hy' hI']
            exact ⟨hI', hK'⟩
      case row row args =>
        obtain ⟨u, w'', hR, _⟩ := h (Frame.enter P 0 #[] .normal) []
        obtain ⟨hI, v, hy, hK⟩ := main u w'' hR
        refine ⟨v, hy, goal v (Rows.mono h fun u' w3 he => ?_)⟩
        obtain ⟨hI', v', hy', hK'⟩ := main u' w3 he
        rw [yh_unique hy hy' hI']
        exact ⟨hI', hK'⟩
    | halt x w' =>
      cases x <;> simp only [Oper.upon, calm] at h
  · simp only [hw] at h
    obtain ⟨hI, v, hy, hK⟩ := main _ w h
    refine ⟨v, hy, ?_⟩
    unfold Go.wpOp
    simp only [hk]
    rw [wanted_put ok a oi.dst v h1, if_neg (by simpa using hw)]
    exact ⟨hI, hK⟩

/-- (B) one that acts moves ahead of a held one -/
theorem swap_over {qv : Nat → Option Value} {i k : Nat} {ok oi : Oper} (hi : ops[i]? = some oi) (hap : ok.apart ops oi = true)
    (hsi : ∀ cs b, oi.op ≠ .select cs b) (hsk : ∀ cs b, ok.op ≠ .select cs b) {v : Value}
    {K : Act → World → Prop} {a : Act} {w : World} (hy : YH P ops Inv (qv k) ok v a) (h : wpOp P ops (calm Q) i (fun a' w' => Inv w' ∧ K a' w') (a.put ok.dst v) w) :
    wpOp P ops (calm Q) i (fun a' w' => Inv w' ∧ ∃ v, YH P ops Inv (qv k) ok v a' ∧ K (a'.put ok.dst v) w') a w := by
  obtain ⟨h1, h2, h3⟩ := Oper.apart_spec hap
  have keep : ∀ (a : Act), YH P ops Inv (qv k) ok v a → ∀ u, YH P ops Inv (qv k) ok v (a.put oi.dst u) := fun a hy u =>
    hy.of_same (execOp_put ok hsk a oi.dst u h3) (wanted_put ok a oi.dst u h3)
  have keepD : ∀ d, YH P ops Inv (qv k) ok v { a with defers := d :: a.defers } := fun d => hy.of_same rfl rfl
  unfold wpOp at *
  simp only [hi] at *
  rw [wanted_put oi a ok.dst v h1] at h
  split
  · rename_i hw
    simp only [hw, if_true] at h
    rcases h with h | ⟨_, h⟩
    case inr => exact absurd h (not_letsOut Q)
    refine .inl ?_
    unfold Oper.wp at *
    rw [execOp_put oi hsi a ok.dst v h1] at h
    generalize (execOp a.eval oi).run P w = r at *
    cases r with
    | ok n w' =>
      cases n <;> simp only [Oper.upon] at h ⊢
      case value u => exact ⟨h.1, v, keep a hy u, by rw [← Act.put_comm a v u h2]; exact h.2⟩
      case skip => exact ⟨h.1, v, keep a hy _, by rw [← Act.put_comm a v undef h2]; exact h.2⟩
      case defer d =>
        refine ⟨h.1, v, keep _ (keepD d) _, ?_⟩
        rw [← Act.put_comm _ v undef h2, ← Act.put_defers]
        exact h.2
      case enter f args =>
        refine Calls.mono h fun e w'' he => ?_
        cases e with
        | returned u => exact ⟨he.1, v, keep a hy u, by rw [← Act.put_comm a v u h2]; exact he.2⟩
        | panicked c => exact he.elim
        | outgrown => exact absurd he (not_letsOut Q)
      case row row args => exact Rows.mono h fun u w'' he => ⟨he.1, v, keep a hy u, by rw [← Act.put_comm a v u h2]; exact he.2⟩
    | halt x w' =>
      cases x <;> simp only [Oper.upon, calm] at h
  · rename_i hw
    simp only [hw] at h
    exact ⟨h.1, v, keep a hy _, by rw [← Act.put_comm a v undef h2]; exact h.2⟩

/-- the two of a pair may change places -/
def swapB (ops : Array Oper) (held lst : Nat → Bool) (k i : Nat) : Bool :=
  match ops[k]?, ops[i]? with
  | some ok, some oi => ok.apart ops oi && oi.apart ops ok && (held k || held i) && !lst k && !lst i
  | _, _ => false

theorem stepS_swap {held : Nat → Bool} {qv : Nat → Option Value} {lst : Nat → Bool} (hs : Region.noSelect ops = true) {k i : Nat} (hB : swapB ops held lst k i = true) {K : Act → World → Prop} {a : Act} {w : World}
    (h : stepS P ops Inv Q held qv lst k (stepS P ops Inv Q held qv lst i K) a w) : stepS P ops Inv Q held qv lst i (stepS P ops Inv Q held qv lst k K) a w := by
  unfold swapB at hB
  cases hk : ops[k]? with
  | none => simp [hk] at hB
  | some ok =>
  cases hi : ops[i]? with
  | none => simp [hk, hi] at hB
  | some oi =>
  simp only [hk, hi, Bool.and_eq_true, Bool.or_eq_true, Bool.not_eq_true'] at hB
  obtain ⟨⟨⟨⟨hap, hap'⟩, hor⟩, hlk⟩, hli⟩ := hB
  have hsi := fun cs b => Region.noSelect_spec hs i oi cs b hi
  have hsk := fun cs b => Region.noSelect_spec hs k ok cs b hk
  obtain ⟨h1, h2, h3⟩ := Oper.apart_spec hap
  obtain ⟨g1, g2, g3⟩ := Oper.apart_spec hap'
  have ek : ∀ K a w, stepS P ops Inv Q held qv lst k K a w = if held k then ∃ v, YH P ops Inv (qv k) ok v a ∧ K (a.put ok.dst v) w else wpOp P ops (calm Q) k (fun a' w' => Inv w' ∧ K a' w') a w := fun K a w => by unfold stepS; simp only [hk, hlk, Bool.false_eq_true, false_or]
  have ei : ∀ K a w, stepS P ops Inv Q held qv lst i K a w = if held i then ∃ v, YH P ops Inv (qv i) oi v a ∧ K (a.put oi.dst v) w else wpOp P ops (calm Q) i (fun a' w' => Inv w' ∧ K a' w') a w := fun K a w => by unfold stepS; simp only [hi, hli, Bool.false_eq_true, false_or]
  rw [ek] at h
  rw [ei]
  by_cases hik : held i = true
  · rw [if_pos hik]
    by_cases hkk : held k = true
    · rw [if_pos hkk] at h
      obtain ⟨v, hy, hK⟩ := h
      rw [ei, if_pos hik] at hK
      obtain ⟨u, hyu, hKu⟩ := hK
      refine ⟨u, hyu.of_same (execOp_put oi hsi a ok.dst v h1).symm (wanted_put oi a ok.dst v h1).symm, ?_⟩
      rw [ek, if_pos hkk]
      exact ⟨v, hy.of_same (execOp_put ok hsk a oi.dst u g1) (wanted_put ok a oi.dst u g1), by rw [← Act.put_comm a v u h2]; exact hKu⟩
    · rw [if_neg hkk] at h
      obtain ⟨v, hy, hK⟩ := swap_held (qv := qv) (i := i) hk hap' hsi hsk (wpOp_mono (fun a' w' ⟨x, y⟩ => ⟨x, by rw [ei, if_pos hik] at y; exact y⟩) h)
      exact ⟨v, hy, by rw [ek, if_neg hkk]; exact hK⟩
  · have hkk : held k = true := by rcases hor with hor | hor; exact hor; exact absurd hor hik
    rw [if_neg hik]
    rw [if_pos hkk] at h
    obtain ⟨v, hy, hK⟩ := h
    rw [ei, if_neg hik] at hK
    refine wpOp_mono (fun a' w' ⟨x, y⟩ => ⟨x, ?_⟩) (swap_over (qv := qv) (k := k) hi hap hsi hsk hy hK)
    rw [ek, if_pos hkk]
    exact y

/-- many steps in the order of a list -/
def wpS (P : Program) (ops : Array Oper) (Inv : World → Prop) (Q : Exit → Act → World → Prop) (held : Nat → Bool) (qv : Nat → Option Value) (lst : Nat → Bool) : List Nat → Act → World → Prop
  | [], a, w => Q .normal a w
  | i :: l, a, w => stepS P ops Inv Q held qv lst i (wpS P ops Inv Q held qv lst l) a w

theorem wpS_bubble {held : Nat → Bool} {qv : Nat → Option Value} {lst : Nat → Bool} (hs : Region.noSelect ops = true) {i : Nat} : ∀ (l1 l2 : List Nat) (a : Act) (w : World), (∀ k ∈ l1, swapB ops held lst k i = true) →
    wpS P ops Inv Q held qv lst (l1 ++ i :: l2) a w → stepS P ops Inv Q held qv lst i (wpS P ops Inv Q held qv lst (l1 ++ l2)) a w
  | [], l2, a, w, _, h => h
  | k :: l1, l2, a, w, hB, h => by
    have h' : stepS P ops Inv Q held qv lst k (wpS P ops Inv Q held qv lst (l1 ++ i :: l2)) a w := h
    have h2 := stepS_mono (fun a w hh => wpS_bubble hs l1 l2 a w (fun k hk => hB k (List.mem_cons_of_mem _ hk)) hh) h'
    exact stepS_swap hs (hB k (List.mem_cons_self ..)) h2

/-- the operations that bind an operation to come behind them, through others too -/
def predB (md : Region.Mode) (ops : Array Oper) : Nat → Nat → Nat → Bool
  | 0, _, _ => false
  | n + 1, k, i => match ops[i]? with
    | none => false
    | some o => o.after.toList.any fun e => Region.binds md e && (e.on == k || predB md ops n k e.on)

def orderB (md : Region.Mode) (ops : Array Oper) (held lst : Nat → Bool) : Bool :=
  (List.range ops.size).all fun i => ((ops[i]?).map fun o => o.after.toList.all fun e => !Region.binds md e || decide (e.on < i)).getD false && ((List.range i).all fun k => swapB ops held lst k i || predB md ops ops.size k i) && (!lst i || (List.range ops.size).all fun k => k == i || predB md ops ops.size k i)

def Down (md : Region.Mode) (ops : Array Oper) (listed : Array Bool) : Prop :=
  ∀ j o, ops[j]? = some o → listed.getD j false = true → ∀ e ∈ o.after, Region.binds md e = true → listed.getD e.on false = true

theorem pred_listed {md : Region.Mode} {listed : Array Bool} (hd : Down md ops listed) : ∀ (n k i : Nat) (o : Oper), ops[i]? = some o →
    (∀ e ∈ o.after, Region.binds md e = true → listed.getD e.on false = true) → predB md ops n k i = true → listed.getD k false = true
  | 0, _, _, _, _, _, h => by simp [predB] at h
  | n + 1, k, i, o, ho, hall, h => by
    unfold predB at h
    simp only [ho, List.any_eq_true, Bool.and_eq_true, Bool.or_eq_true, beq_iff_eq] at h
    obtain ⟨e, he, hb, hor⟩ := h
    have he' : e ∈ o.after := by simpa using he
    have hl := hall e he' hb
    rcases hor with rfl | hp
    · exact hl
    · cases ho2 : ops[e.on]? with
      | none => cases n <;> simp [predB, ho2] at hp
      | some o2 => exact pred_listed hd n k e.on o2 ho2 (fun e2 he2 hb2 => hd e.on o2 ho2 hl e2 he2 hb2) hp

/-- what is left, in the order of the text -/
def left (ops : Array Oper) (listed : Array Bool) : List Nat := (List.range ops.size).filter fun i => !listed.getD i false

theorem getD_two {listed : Array Bool} {j : Nat} (hj : j < listed.size) : listed.getD j true = listed.getD j false := by
  simp [Array.getD_eq_getD_getElem?, hj]

theorem filter_split {p : Nat → Bool} {i : Nat} (hp : p i = true) : ∀ (n : Nat), i < n →
    ∃ l2, (List.range n).filter p = (List.range i).filter p ++ i :: l2 ∧ (List.range n).filter (fun j => p j && !(j == i)) = (List.range i).filter p ++ l2
  | 0, h => by omega
  | n + 1, h => by
    rcases Nat.lt_or_ge i n with h' | h'
    · obtain ⟨l2, e1, e2⟩ := filter_split hp n h'
      refine ⟨l2 ++ [n].filter p, ?_, ?_⟩
      · rw [List.range_succ, List.filter_append, e1]; simp
      · rw [List.range_succ, List.filter_append, e2, List.append_assoc]
        congr 2
        have hne : (n == i) = false := by simp; omega
        cases hpn : p n <;> simp [hpn, hne]
    · obtain rfl : i = n := by omega
      refine ⟨[], ?_, ?_⟩
      · rw [List.range_succ, List.filter_append]; simp [hp]
      · rw [List.range_succ, List.filter_append]
        have e : (List.range i).filter (fun j => p j && !(j == i)) = (List.range i).filter p := by
          apply List.filter_congr
          intro j hj
          have hlt : j < i := List.mem_range.1 hj
          have hne : (j == i) = false := by simp; omega
          simp [hne]
        rw [e]; simp

theorem wpAny_of_wpS {md : Region.Mode} {held : Nat → Bool} {qv : Nat → Option Value} {lst : Nat → Bool} (hs : Region.noSelect ops = true) (hO : orderB md ops held lst = true) : ∀ (fuel : Nat) (listed : Array Bool) (a : Act) (w : World),
    listed.size = ops.size → Down md ops listed → (left ops listed).length ≤ fuel → (Inv w ∨ left ops listed = []) → wpS P ops Inv Q held qv lst (left ops listed) a w → wpAny P md ops Q fuel listed a w := by
  have step : ∀ (listed : Array Bool), listed.size = ops.size → Down md ops listed → ∀ i ∈ Region.ready md ops listed, ∃ l1 l2, left ops listed = l1 ++ i :: l2 ∧ left ops (listed.setIfInBounds i true) = l1 ++ l2 ∧ (∀ k ∈ l1, swapB ops held lst k i = true) ∧
      Down md ops (listed.setIfInBounds i true) ∧ ∃ o, ops[i]? = some o := by
    intro listed hsz hd i hi
    obtain ⟨hun, o, ho, hall⟩ := mem_ready.1 hi
    have hlt : i < ops.size := (Array.getElem?_eq_some_iff.1 ho).1
    have hp : (!listed.getD i false) = true := by rw [← getD_two (by omega), hun]; rfl
    obtain ⟨l2, e1, e2⟩ := filter_split (p := fun j => !listed.getD j false) hp ops.size hlt
    refine ⟨_, l2, e1, ?_, ?_, ?_, o, ho⟩
    · rw [← e2]
      unfold left
      apply List.filter_congr
      intro j hj
      have hlt' : j < ops.size := List.mem_range.1 hj
      by_cases hji : j = i
      · subst hji
        have : (listed.setIfInBounds j true).getD j false = true := by simp [hsz, hlt]
        rw [this]; simp
      · have hne : (j == i) = false := by simpa using hji
        rw [getD_set_ne false (Ne.symm hji), hne]; simp
    · intro k hk
      obtain ⟨hk1, hk2⟩ := List.mem_filter.1 hk
      have hki : k < i := List.mem_range.1 hk1
      unfold orderB at hO
      have hOi := List.all_eq_true.1 hO i (List.mem_range.2 hlt)
      simp only [Bool.and_eq_true] at hOi
      have := List.all_eq_true.1 hOi.1.2 k (List.mem_range.2 hki)
      simp only [Bool.or_eq_true] at this
      rcases this with hsw | hpr
      · exact hsw
      · have hl := pred_listed hd _ k i o ho hall hpr
        rw [hl] at hk2
        cases hk2
    · intro j oj hoj hlj e he hb
      by_cases hji : j = i
      · subst hji
        rw [ho] at hoj
        cases hoj
        exact getD_set_true (hall e he hb)
      · rw [getD_set_ne false (Ne.symm hji)] at hlj
        exact getD_set_true (hd j oj hoj hlj e he hb)
  intro fuel
  induction fuel with
  | zero =>
    intro listed a w hsz hd hlen hI h
    have hnil : left ops listed = [] := List.eq_nil_of_length_eq_zero (by omega)
    rw [hnil] at h
    refine ⟨?_, h⟩
    rcases hr : Region.ready md ops listed with _ | ⟨i, r⟩
    · rfl
    · obtain ⟨l1, l2, e1, _⟩ := step listed hsz hd i (by rw [hr]; exact List.mem_cons_self ..)
      rw [hnil] at e1
      simp at e1
  | succ fuel ih =>
    intro listed a w hsz hd hlen hI h
    have next : ∀ i ∈ Region.ready md ops listed, wpOp P ops Q i (wpAny P md ops Q fuel (listed.setIfInBounds i true)) a w := by
      intro i hi
      obtain ⟨l1, l2, e1, e2, hsw, hd', o, ho⟩ := step listed hsz hd i hi
      rw [e1] at h
      have hb := wpS_bubble hs l1 l2 a w hsw h
      have hIw : Inv w := hI.resolve_right (by rw [e1]; simp)
      have hend : lst i = true → left ops (listed.setIfInBounds i true) = [] := fun hl => by
        obtain ⟨hun, o2, ho2, hall⟩ := mem_ready.1 hi
        have hlt : i < ops.size := (Array.getElem?_eq_some_iff.1 ho2).1
        unfold orderB at hO
        have hOi := List.all_eq_true.1 hO i (List.mem_range.2 hlt)
        simp only [Bool.and_eq_true, Bool.or_eq_true, Bool.not_eq_true'] at hOi
        have hlast : ∀ k, k < ops.size → k ≠ i → predB md ops ops.size k i = true := fun k hk hne => by
          rcases hOi.2 with h0 | h0
          · rw [hl] at h0; cases h0
          · have := List.all_eq_true.1 h0 k (List.mem_range.2 hk)
            simp only [Bool.or_eq_true, beq_iff_eq] at this
            exact this.resolve_left hne
        unfold left
        rw [List.filter_eq_nil_iff]
        intro k hk
        have hk := List.mem_range.1 hk
        by_cases hki : k = i
        · subst hki
          simp [hsz, hk]
        · rw [getD_set_ne false (Ne.symm hki), pred_listed hd _ k i o2 ho2 hall (hlast k hk hki)]
          simp
      have hlen' : (left ops (listed.setIfInBounds i true)).length ≤ fuel := by rw [e2]; rw [e1] at hlen; simp at hlen ⊢; omega
      have go : ∀ a' w', (lst i = true ∨ Inv w') → wpS P ops Inv Q held qv lst (l1 ++ l2) a' w' → wpAny P md ops Q fuel (listed.setIfInBounds i true) a' w' := fun a' w' hI' hh =>
        ih _ a' w' (by simp [hsz]) hd' hlen' (hI'.elim (fun h => .inr (hend h)) .inl) (by rw [e2]; exact hh)
      unfold stepS at hb
      simp only [ho] at hb
      by_cases hh : held i = true
      · rw [if_pos hh] at hb
        obtain ⟨v, hy, hK⟩ := hb
        exact hy.wpOp ho hIw (go _ _ (.inr hIw) hK)
      · rw [if_neg hh] at hb
        have hm := wpOp_mono (K' := wpAny P md ops Q fuel (listed.setIfInBounds i true)) (fun a' w' ⟨x, y⟩ => go a' w' x y) hb
        -- from 'calm Q' to 'Q'
        unfold Go.wpOp at hm ⊢
        simp only [ho] at hm ⊢
        split
        · rename_i hw
          simp only [hw, if_true] at hm
          rcases hm with hm | ⟨_, hm⟩
          case inr => exact absurd hm (not_letsOut Q)
          refine .inl ?_
          unfold Oper.wp at hm ⊢
          generalize (execOp a.eval o).run P w = r at hm ⊢
          cases r with
          | ok n w' =>
            cases n <;> simp only [Oper.upon] at hm ⊢
            case enter f args => exact Calls.mono hm fun e w'' he => by cases e with | returned u => exact he | panicked c => exact he.elim | outgrown => exact absurd he (not_letsOut Q)
            case row row args => exact hm
            all_goals exact hm
          | halt x w' => cases x <;> simp only [Oper.upon, calm] at hm
        · rename_i hw
          simp only [hw] at hm
          exact hm
    refine ⟨fun h0 => ?_, next⟩
    -- nothing is ready: nothing is left
    rcases hl : left ops listed with _ | ⟨i, r⟩
    · rw [hl] at h; exact h
    · exfalso
      have hmem : i ∈ left ops listed := by rw [hl]; exact List.mem_cons_self ..
      obtain ⟨hi1, hi2⟩ := List.mem_filter.1 hmem
      have hlt : i < ops.size := List.mem_range.1 hi1
      obtain ⟨o, ho⟩ : ∃ o, ops[i]? = some o := ⟨ops[i], by simp [hlt]⟩
      have hOi := List.all_eq_true.1 hO i (List.mem_range.2 hlt)
      rw [Bool.and_eq_true] at hOi
      have hback := ((Bool.and_eq_true _ _).mp hOi.1).1
      simp only [ho, Option.map_some, Option.getD_some, List.all_eq_true, Bool.or_eq_true, decide_eq_true_eq, Bool.not_eq_true'] at hback
      have hun : listed.getD i false = false := by simpa using hi2
      have hr : i ∈ Region.ready md ops listed := by
        rw [mem_ready]
        refine ⟨by rw [getD_two (by omega)]; exact hun, o, ho, fun e he hb => ?_⟩
        have hlt2 : e.on < i := by
          rcases hback e (by simpa using he) with hx | hx
          · rw [hb] at hx; cases hx
          · exact hx
        cases hle : listed.getD e.on false with
        | true => rfl
        | false =>
          exfalso
          have hm2 : e.on ∈ left ops listed := List.mem_filter.2 ⟨List.mem_range.2 (by omega), by rw [hle]; rfl⟩
          rw [hl] at hm2
          have hsorted : (left ops listed).Pairwise (· < ·) := List.Pairwise.filter _ List.pairwise_lt_range
          rw [hl] at hsorted
          rcases List.mem_cons.1 hm2 with he2 | he2
          · omega
          · have := (List.pairwise_cons.1 hsorted).1 _ he2
            omega
      rw [h0] at hr
      cases hr

theorem wp_region_wpS {id : Nat} {held : Nat → Bool} {qv : Nat → Option Value} {lst : Nat → Bool} {a : Act} {w : World} (hm : P.follows .mixedOrders = true) (hs : Region.noSelect ops = true) (hO : orderB .any ops held lst = true)
    (hI : Inv { w with drawn := w.drawn + 1 }) (h : wpS P ops Inv Q held qv lst (List.range ops.size) a { w with drawn := w.drawn + 1 }) : (Code.region id ops true).wp P Q a w := by
  have hleft : left ops (Array.replicate ops.size false) = List.range ops.size := by
    unfold left
    rw [List.filter_eq_self]
    intro j _
    by_cases hj : j < ops.size <;> simp [hj]
  refine wp_region_any hm (wpAny_of_wpS hs hO ops.size _ a _ (by simp) ?_ (by rw [hleft]; simp) (.inl hI) (by rw [hleft]; exact h))
  intro j o ho hl
  exfalso
  by_cases hj : j < ops.size <;> simp [hj] at hl

/-- the steps over the list of the operations itself; 'k': the place of the first -/
def wpL (P : Program) (ops : Array Oper) (Inv : World → Prop) (Q : Exit → Act → World → Prop) (held : Nat → Bool) (qv : Nat → Option Value) (lst : Nat → Bool) : Nat → List Oper → Act → World → Prop
  | _, [], a, w => Q .normal a w
  | k, o :: l, a, w =>
    if Region.wanted o (yielded ops a.tmps) then
      if held k then ∃ v, ((∀ w', Inv w' → (execOp a.eval o).run P w' = .ok (.value v) w') ∨ (qv k = some v ∧ ∃ f args, ∀ w', Inv w' → (execOp a.eval o).run P w' = .ok (.enter f args) w' ∧ Calls P f args w' fun e w'' => e = .returned v ∧ w'' = w')) ∧ wpL P ops Inv Q held qv lst (k + 1) l (a.put o.dst v) w
      else o.wp P a w (fun a' w' => (lst k = true ∨ Inv w') ∧ wpL P ops Inv Q held qv lst (k + 1) l a' w') (calm Q)
    else Inv w ∧ wpL P ops Inv Q held qv lst (k + 1) l (a.put o.dst undef) w

theorem wpS_of_wpL {held : Nat → Bool} {qv : Nat → Option Value} {lst : Nat → Bool} : ∀ (l : List Oper) (k : Nat) (a : Act) (w : World), (∀ j, l[j]? = ops[k + j]?) → wpL P ops Inv Q held qv lst k l a w → wpS P ops Inv Q held qv lst (List.range' k l.length) a w
  | [], _, _, _, _, h => h
  | o :: l, k, a, w, hl, h => by
    have h0 : ops[k]? = some o := by simpa using (hl 0).symm
    have hl' : ∀ j, l[j]? = ops[k + 1 + j]? := fun j => by have := hl (j + 1); simpa [Nat.add_assoc, Nat.add_comm 1 j] using this
    rw [List.length_cons, List.range'_succ]
    show stepS P ops Inv Q held qv lst k (wpS P ops Inv Q held qv lst (List.range' (k + 1) l.length)) a w
    unfold stepS
    simp only [h0]
    unfold wpL at h
    by_cases hw : Region.wanted o (yielded ops a.tmps) = true
    · rw [if_pos hw] at h
      by_cases hh : held k = true
      · rw [if_pos hh] at h ⊢
        obtain ⟨v, hv, hK⟩ := h
        exact ⟨v, (by rcases hv with hv | ⟨hq, f, args, hv⟩; exact .inl ⟨hw, hv⟩; exact .inr (.inr ⟨hw, hq, f, args, hv⟩)), wpS_of_wpL l (k + 1) _ _ hl' hK⟩
      · rw [if_neg hh] at h ⊢
        unfold Go.wpOp
        simp only [h0]
        rw [if_pos hw]
        exact .inl (Oper.wp_mono (fun a' w' ⟨x, y⟩ => ⟨x, wpS_of_wpL l (k + 1) _ _ hl' y⟩) h)
    · rw [if_neg hw] at h
      by_cases hh : held k = true
      · rw [if_pos hh]
        exact ⟨undef, .inr (.inl ⟨by simpa using hw, rfl⟩), wpS_of_wpL l (k + 1) _ _ hl' h.2⟩
      · rw [if_neg hh]
        unfold Go.wpOp
        simp only [h0]
        rw [if_neg hw]
        exact ⟨.inr h.1, wpS_of_wpL l (k + 1) _ _ hl' h.2⟩

/-- THE REGION IN THE ORDER OF ITS TEXT. -/
theorem wp_region_text {id : Nat} {l : List Oper} {a : Act} {w : World} (held : Nat → Bool) (qv : Nat → Option Value) (lst : Nat → Bool) (Inv : World → Prop) (hm : P.follows .mixedOrders = true)
    (hB : (Region.noSelect l.toArray && orderB .any l.toArray held lst) = true) (hI : Inv w.drew) (h : wpL P l.toArray Inv Q held qv lst 0 l a w.drew) : (Code.region id l.toArray true).wp P Q a w := by
  rw [Bool.and_eq_true] at hB
  refine wp_region_wpS (held := held) (qv := qv) (Inv := Inv) hm hB.1 hB.2 hI ?_
  have := wpS_of_wpL (ops := l.toArray) l 0 a w.drew (by simp) h
  rw [List.range_eq_range']
  simpa using this

section
variable {held : Nat → Bool} {qv : Nat → Option Value} {lst : Nat → Bool} {k : Nat} {o : Oper} {l : List Oper} {a : Act} {w : World}
theorem wpL_nil (h : Q .normal a w) : wpL P ops Inv Q held qv lst k [] a w := h
theorem wpL_held {v : Value} (hk : held k = true) (hw : Region.wanted o (yielded ops a.tmps) = true) (hv : ∀ w', Inv w' → (execOp a.eval o).run P w' = .ok (.value v) w')
    (h : wpL P ops Inv Q held qv lst (k + 1) l (a.put o.dst v) w) : wpL P ops Inv Q held qv lst k (o :: l) a w := by
  unfold wpL; rw [if_pos hw, if_pos hk]; exact ⟨v, .inl hv, h⟩
/-- a call that returns one value and turns nothing -/
theorem wpL_qcall {v : Value} {f : FuncId} {args : Array Value} (hk : held k = true) (hq : qv k = some v) (hw : Region.wanted o (yielded ops a.tmps) = true) (hv : ∀ w', Inv w' → (execOp a.eval o).run P w' = .ok (.enter f args) w' ∧ Calls P f args w' fun e w'' => e = .returned v ∧ w'' = w')
    (h : wpL P ops Inv Q held qv lst (k + 1) l (a.put o.dst v) w) : wpL P ops Inv Q held qv lst k (o :: l) a w := by
  unfold wpL; rw [if_pos hw, if_pos hk]; exact ⟨v, .inr ⟨hq, f, args, hv⟩, h⟩
theorem wpL_skip (hI : Inv w) (hw : Region.wanted o (yielded ops a.tmps) = false) (h : wpL P ops Inv Q held qv lst (k + 1) l (a.put o.dst undef) w) : wpL P ops Inv Q held qv lst k (o :: l) a w := by
  unfold wpL; rw [if_neg (by simpa using hw)]; exact ⟨hI, h⟩
theorem wpL_act (hk : held k = false) (hw : Region.wanted o (yielded ops a.tmps) = true)
    (h : ∀ K : Act → World → Prop, (∀ a' w', (lst k = true ∨ Inv w') → wpL P ops Inv Q held qv lst (k + 1) l a' w' → K a' w') → o.wp P a w K (calm Q)) : wpL P ops Inv Q held qv lst k (o :: l) a w := by
  unfold wpL; rw [if_pos hw, if_neg (by simpa using hk)]; exact h _ (fun _ _ hI hh => ⟨hI, hh⟩)
/-- a call of a Go function -/
theorem wpL_call {f : FuncId} {args : Array Value} (hk : held k = false) (hw : Region.wanted o (yielded ops a.tmps) = true) (he : (execOp a.eval o).run P w = .ok (.enter f args) w)
    {R : Ending → World → Prop} (hc : Calls P f args w R)
    (h : ∀ e w', R e w' → ∃ v, e = .returned v ∧ Inv w' ∧ wpL P ops Inv Q held qv lst (k + 1) l (a.put o.dst v) w') : wpL P ops Inv Q held qv lst k (o :: l) a w := by
  refine wpL_act hk hw fun K hK => ?_
  unfold Oper.wp
  rw [he, Oper.upon_enter]
  refine hc.mono fun e w' hR => ?_
  obtain ⟨v, rfl, hI, hh⟩ := h e w' hR
  exact hK _ _ (.inr hI) hh
theorem upon_value {s : Sem Value} {C : World → Prop} {v : Value} (h : Oper.quietUpon P C w v ((do pure (Next.value (← s)) : Sem Next).run P w)) : (do pure (Next.value (← s)) : Sem Next).run P w = .ok (.value v) w := by
  rw [Sem.run_bind] at *
  cases hs : s.run P w with
  | ok x w' =>
    rw [hs] at h
    simp only [Result.andThen_ok, Sem.run_pure, Oper.quietUpon] at h ⊢
    obtain ⟨rfl, rfl⟩ := h
    rfl
  | halt x w' =>
    rw [hs] at h
    cases x <;> simp only [Result.andThen, Oper.quietUpon] at h
/-- operations that yield a value and enter nothing -/
def plainOp : Op → Bool
  | .move _ | .assign _ | .binOp .. | .unOp .. | .load .. | .fieldAddr .. | .indexAddr .. | .index .. | .convert .. | .extract .. | .slice .. => true
  | _ => false
theorem run_of_quiet {C : World → Prop} {v : Value} (h : o.quietAt P a C w v) (hp : plainOp o.op = true) : (execOp a.eval o).run P w = .ok (.value v) w := by
  unfold Oper.quietAt at h
  obtain ⟨dst, op, type, pos, after, guard⟩ := o
  cases op <;> simp only [plainOp, Bool.false_eq_true] at hp
  case move x => simpa [execOp, Oper.quietUpon, Sem.run_pure] using h.symm
  case assign x => simpa [execOp, Oper.quietUpon, Sem.run_pure] using h.symm
  all_goals exact upon_value h
theorem wpL_quiet (hk : held k = true) (hw : Region.wanted o (yielded ops a.tmps) = true) (hp : plainOp o.op = true)
    (h : ∀ K : Act → Prop, (∀ a', wpL P ops Inv Q held qv lst (k + 1) l a' w → K a') → o.quiet P a Inv K) : wpL P ops Inv Q held qv lst k (o :: l) a w := by
  obtain ⟨v, h1, h2⟩ := h _ (fun _ hh => hh)
  exact wpL_held hk hw (fun w' hI => run_of_quiet (h1 w' hI) hp) h2
theorem wpL_val {v : Value} {w' : World} (hk : held k = false) (hw : Region.wanted o (yielded ops a.tmps) = true) (he : (execOp a.eval o).run P w = .ok (.value v) w') (hI : Inv w')
    (h : wpL P ops Inv Q held qv lst (k + 1) l (a.put o.dst v) w') : wpL P ops Inv Q held qv lst k (o :: l) a w := by
  refine wpL_act hk hw fun K hK => ?_
  unfold Oper.wp
  rw [he]
  exact hK _ _ (.inr hI) h
/-- a store that keeps the invariant -/
theorem wpL_store {w' : World} (hk : held k = false) (hw : Region.wanted o (yielded ops a.tmps) = true) (he : (execOp a.eval o).run P w = .ok .skip w') (hI : Inv w')
    (h : wpL P ops Inv Q held qv lst (k + 1) l (a.put o.dst undef) w') : wpL P ops Inv Q held qv lst k (o :: l) a w := by
  refine wpL_act hk hw fun K hK => ?_
  unfold Oper.wp
  rw [he]
  exact hK _ _ (.inr hI) h
theorem wpL_last {v : Value} {w' : World} (hk : held k = false) (hl : lst k = true) (hw : Region.wanted o (yielded ops a.tmps) = true) (he : (execOp a.eval o).run P w = .ok (.value v) w')
    (h : wpL P ops Inv Q held qv lst (k + 1) l (a.put o.dst v) w') : wpL P ops Inv Q held qv lst k (o :: l) a w := by
  refine wpL_act hk hw fun K hK => ?_
  unfold Oper.wp
  rw [he]
  exact hK _ _ (.inl hl) h
theorem wpL_lasts {w' : World} (hk : held k = false) (hl : lst k = true) (hw : Region.wanted o (yielded ops a.tmps) = true) (he : (execOp a.eval o).run P w = .ok .skip w')
    (h : wpL P ops Inv Q held qv lst (k + 1) l (a.put o.dst undef) w') : wpL P ops Inv Q held qv lst k (o :: l) a w := by
  refine wpL_act hk hw fun K hK => ?_
  unfold Oper.wp
  rw [he]
  exact hK _ _ (.inl hl) h
end
end
end Go.Proofs.YtmdnhinpaflamaaDoor.Seq3
