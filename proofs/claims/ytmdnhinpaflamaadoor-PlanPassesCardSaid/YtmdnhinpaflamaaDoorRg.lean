/- A region that draws its order, by what each operation does wherever it stands: a fact of each operation's value that the others keep. Over any program. -/
import Derived.Test.YtmdnhinpaflamaaDoorSeq3
namespace Go.Proofs.YtmdnhinpaflamaaDoor.Rg
open Go
open Seq3 (predB Down pred_listed left getD_two)
section
variable {P : Program} {ops : Array Oper}

/-- what an operation does -/
def Does (P : Program) (o : Oper) (a : Act) (w : World) (R : Value → World → Prop) : Prop :=
  (∃ v w', (execOp a.eval o).run P w = .ok (.value v) w' ∧ R v w') ∨
  (∃ w', (execOp a.eval o).run P w = .ok .skip w' ∧ R undef w') ∨
  (∃ f args, (execOp a.eval o).run P w = .ok (.enter f args) w ∧ Calls P f args w fun e w' => ∃ v, e = .returned v ∧ R v w')
theorem Does.val {o : Oper} {a : Act} {w : World} {R : Value → World → Prop} {v : Value} {w' : World} (h : (execOp a.eval o).run P w = .ok (.value v) w') (hR : R v w') : Does P o a w R := .inl ⟨v, w', h, hR⟩
theorem Does.skip {o : Oper} {a : Act} {w : World} {R : Value → World → Prop} {w' : World} (h : (execOp a.eval o).run P w = .ok .skip w') (hR : R undef w') : Does P o a w R := .inr (.inl ⟨w', h, hR⟩)
theorem Does.call {o : Oper} {a : Act} {w : World} {R : Value → World → Prop} {f : FuncId} {args : Array Value} {S : Ending → World → Prop} (h : (execOp a.eval o).run P w = .ok (.enter f args) w) (hc : Calls P f args w S) (hR : ∀ e w', S e w' → ∃ v, e = .returned v ∧ R v w') : Does P o a w R :=
  .inr (.inr ⟨f, args, h, hc.mono fun e w' hs => hR e w' hs⟩)
theorem Does.wp {o : Oper} {a a' : Act} {w : World} {R : Value → World → Prop} {K : Act → World → Prop} {Q : Exit → Act → World → Prop} (h : Does P o a w R) (he : execOp a'.eval o = execOp a.eval o) (hK : ∀ v w', R v w' → K (a'.put o.dst v) w') : o.wp P a' w K Q := by
  unfold Oper.wp
  rw [he]
  rcases h with ⟨v, w', h1, h2⟩ | ⟨w', h1, h2⟩ | ⟨f, args, h1, h2⟩
  · rw [h1]; exact hK _ _ h2
  · rw [h1]; exact hK _ _ h2
  · rw [h1, Oper.upon_enter]
    refine h2.mono fun e w' h => ?_
    obtain ⟨v, rfl, e2⟩ := h
    exact hK _ _ e2

def dstOf (ops : Array Oper) (i : Nat) : Option Tmp := (ops[i]?).bind (·.dst)
def puts (ops : Array Oper) (vals : Nat → Value) : List Nat → Act → Act
  | [], a => a
  | i :: l, a => puts ops vals l (a.put (dstOf ops i) (vals i))
theorem puts_snoc (vals : Nat → Value) (i : Nat) : ∀ (l : List Nat) (a : Act), puts ops vals (l ++ [i]) a = (puts ops vals l a).put (dstOf ops i) (vals i)
  | [], _ => rfl
  | _ :: l, _ => puts_snoc vals i l _
theorem puts_congr {vals vals' : Nat → Value} : ∀ (l : List Nat) (a : Act), (∀ i ∈ l, vals i = vals' i) → puts ops vals l a = puts ops vals' l a
  | [], _, _ => rfl
  | j :: l, a, h => by
    show puts ops vals l (a.put _ (vals j)) = puts ops vals' l (a.put _ (vals' j))
    rw [h j (by simp)]
    exact puts_congr l _ (fun i hi => h i (by simp [hi]))
theorem put_size (a : Act) (d : Option Tmp) (v : Value) : (a.put d v).tmps.size = a.tmps.size := by cases d <;> simp [Act.put]
theorem puts_size (vals : Nat → Value) : ∀ (l : List Nat) (a : Act), (puts ops vals l a).tmps.size = a.tmps.size
  | [], _ => rfl
  | j :: l, a => by rw [puts, puts_size vals l, put_size]
theorem puts_defers (vals : Nat → Value) : ∀ (l : List Nat) (a : Act), (puts ops vals l a).defers = a.defers
  | [], _ => rfl
  | j :: l, a => by
    rw [puts, puts_defers vals l]
    cases dstOf ops j <;> rfl
theorem puts_not (vals : Nat → Value) (d : Nat) : ∀ (l : List Nat) (a : Act), (∀ i ∈ l, dstOf ops i ≠ some d) → (puts ops vals l a).tmps[d]? = a.tmps[d]?
  | [], _, _ => rfl
  | j :: l, a, h => by
    rw [puts, puts_not vals d l _ (fun i hi => h i (by simp [hi]))]
    have hj := h j (by simp)
    cases hd : dstOf ops j with
    | none => rfl
    | some e =>
      have : e ≠ d := fun he => hj (by rw [hd, he])
      simp [Act.put, Array.getElem?_setIfInBounds_ne this]
theorem puts_at (hu : ∀ i j d, dstOf ops i = some d → dstOf ops j = some d → i = j) (vals : Nat → Value) {d i : Nat} (hd : dstOf ops i = some d) : ∀ (l : List Nat) (a : Act), i ∈ l → (puts ops vals l a).tmps[d]? = if d < a.tmps.size then some (vals i) else none
  | j :: l, a, h => by
    by_cases hil : i ∈ l
    · rw [puts, puts_at hu vals hd l _ hil, put_size]
    · have hj : i = j := by rcases List.mem_cons.1 h with h | h; exact h; exact absurd h hil
      subst hj
      rw [puts, puts_not vals d l _ (fun k hk hkd => hil (by rw [hu i k d hd hkd]; exact hk)), hd]
      simp only [Act.put, Array.getElem?_setIfInBounds_self]
theorem puts_eq (hu : ∀ i j d, dstOf ops i = some d → dstOf ops j = some d → i = j) (vals : Nat → Value) (a : Act) {l m : List Nat} (h : ∀ i, i ∈ l ↔ i ∈ m) : puts ops vals l a = puts ops vals m a := by
  have ht : (puts ops vals l a).tmps = (puts ops vals m a).tmps := by
    refine Array.ext_getElem? fun d => ?_
    by_cases hx : ∃ i ∈ l, dstOf ops i = some d
    · obtain ⟨i, hi, hd⟩ := hx
      rw [puts_at hu vals hd l a hi, puts_at hu vals hd m a ((h i).1 hi)]
    · rw [puts_not vals d l a (fun i hi hd => hx ⟨i, hi, hd⟩), puts_not vals d m a (fun i hi hd => hx ⟨i, (h i).2 hi, hd⟩)]
  have hd : (puts ops vals l a).defers = (puts ops vals m a).defers := by rw [puts_defers, puts_defers]
  generalize puts ops vals l a = x at ht hd
  generalize puts ops vals m a = y at ht hd
  cases x; cases y
  simp_all
theorem exec_eq (hu : ∀ i j d, dstOf ops i = some d → dstOf ops j = some d → i = j) {o : Oper} (hs : ∀ cs b, o.op ≠ .select cs b) (vals : Nat → Value) (a : Act) {l D : List Nat} (hDl : ∀ i ∈ D, i ∈ l) (hD : ∀ t, Operand.tmp t ∈ o.op.operands → ∀ j ∈ l, dstOf ops j = some t → j ∈ D) :
    execOp (puts ops vals l a).eval o = execOp (puts ops vals D a).eval o := by
  refine execOp_congr o hs fun x hx => ?_
  cases x with
  | tmp t =>
    have key : (puts ops vals l a).tmps[t]? = (puts ops vals D a).tmps[t]? := by
      by_cases hy : ∃ i ∈ l, dstOf ops i = some t
      · obtain ⟨i, hi, hd⟩ := hy
        rw [puts_at hu vals hd l a hi, puts_at hu vals hd D a (hD t (by simpa using hx) i hi hd)]
      · rw [puts_not vals t l a (fun i hi hd => hy ⟨i, hi, hd⟩), puts_not vals t D a (fun i hi hd => hy ⟨i, hDl i hi, hd⟩)]
    simp only [Act.eval, Array.getD_eq_getD_getElem?, key]
  | _ => rfl

/-- what is checked of a region: no guard, no select; each place is written once; what an operation reads is of D, and done ahead; the last comes last -/
def checkB (ops : Array Oper) (D : List (List Nat)) : Bool :=
  Region.noSelect ops && (List.range ops.size).all fun i =>
    ((ops[i]?).map fun o => o.guard.isNone && (o.after.toList.all fun e => !Region.binds .any e || decide (e.on < i)) &&
      ((List.range ops.size).all fun j => (i == j || (dstOf ops j).isNone || dstOf ops i != dstOf ops j) &&
        (!(o.op.operands.toList.any fun x => match x with | .tmp t => dstOf ops j == some t | _ => false) || ((D.getD i []).contains j || j + 1 == ops.size)))).getD false &&
    ((D.getD i []).all fun j => predB .any ops ops.size j i) && (i + 1 != ops.size || (List.range i).all fun j => predB .any ops ops.size j i)

theorem any_done {Q : Exit → Act → World → Prop} {listed : Array Bool} (hl : left ops listed = []) (hsz : listed.size = ops.size) {a : Act} {w : World} (h : Q .normal a w) (fuel : Nat) : wpAny P .any ops Q fuel listed a w := by
  have hr : Region.ready .any ops listed = [] := by
    refine List.eq_nil_iff_forall_not_mem.2 fun i hi => ?_
    obtain ⟨hun, o, ho, hall⟩ := mem_ready.1 hi
    have hlt : i < ops.size := (Array.getElem?_eq_some_iff.1 ho).1
    have : i ∈ left ops listed := List.mem_filter.2 ⟨List.mem_range.2 hlt, by rw [← getD_two (by omega), hun]; rfl⟩
    rw [hl] at this
    cases this
  cases fuel with
  | zero => exact ⟨hr, h⟩
  | succ n => exact ⟨fun _ => h, fun i hi => by rw [hr] at hi; cases hi⟩

theorem wp_region_rg {id : Nat} {l : List Oper} {a : Act} {w : World} {Q : Exit → Act → World → Prop} (D : List (List Nat)) (φ : Nat → Value → World → Prop) (Inv : World → Prop) (R : World → World → Prop)
    (hm : P.follows .mixedOrders = true) (hB : checkB l.toArray D = true) (hI : Inv w.drew)
    (hst : ∀ j, j + 1 < l.length → ∀ v w w', R w w' → φ j v w → φ j v w')
    (hstep : ∀ i o, l[i]? = some o → i + 1 < l.length → ∀ vals w, Inv w → (∀ j ∈ D.getD i [], φ j (vals j) w) → Does P o (puts l.toArray vals (D.getD i []) a) w fun v w' => Inv w' ∧ R w w' ∧ φ i v w')
    (hlast : ∀ o, l[l.length - 1]? = some o → ∀ vals w, Inv w → (∀ j, j + 1 < l.length → φ j (vals j) w) → Does P o (puts l.toArray vals (List.range (l.length - 1)) a) w fun v w' => Q .normal ((puts l.toArray vals (List.range (l.length - 1)) a).put o.dst v) w')
    (hn : 0 < l.length) : (Code.region id l.toArray true).wp P Q a w := by
  have hsz0 : l.toArray.size = l.length := by simp
  generalize hops : l.toArray = ops at *
  have hget : ∀ i, ops[i]? = l[i]? := fun i => by rw [← hops]; exact List.getElem?_toArray ..
  unfold checkB at hB
  rw [Bool.and_eq_true] at hB
  obtain ⟨hs, hB⟩ := hB
  have hC : ∀ i o, ops[i]? = some o → o.guard = none ∧ (∀ e ∈ o.after, Region.binds .any e = true → e.on < i) ∧ (∀ j, j < ops.size → (i = j ∨ dstOf ops j = none ∨ dstOf ops i ≠ dstOf ops j) ∧ (∀ t, Operand.tmp t ∈ o.op.operands → dstOf ops j = some t → j ∈ D.getD i [] ∨ j + 1 = ops.size)) ∧
      (∀ j ∈ D.getD i [], predB .any ops ops.size j i = true) ∧ (i + 1 = ops.size → ∀ j, j < i → predB .any ops ops.size j i = true) := by
    intro i o ho
    have hlt : i < ops.size := (Array.getElem?_eq_some_iff.1 ho).1
    have h := List.all_eq_true.1 hB i (List.mem_range.2 hlt)
    simp only [ho, Option.map_some, Option.getD_some, Bool.and_eq_true] at h
    obtain ⟨⟨⟨⟨h1, h2⟩, h3⟩, h4⟩, h5⟩ := h
    refine ⟨by simpa using h1, fun e he hb => ?_, fun j hj => ?_, fun j hj => List.all_eq_true.1 h4 j hj, fun hi j hj => ?_⟩
    · have := List.all_eq_true.1 h2 e (by simpa using he)
      simpa [hb] using this
    · have h := List.all_eq_true.1 h3 j (List.mem_range.2 hj)
      rw [Bool.and_eq_true] at h
      refine ⟨by simpa [or_assoc] using h.1, fun t ht hd => ?_⟩
      have h2 := h.2
      rw [Bool.or_eq_true] at h2
      rcases h2 with h2 | h2
      · have : (o.op.operands.toList.any fun x => match x with | .tmp t => dstOf ops j == some t | _ => false) = true := List.any_eq_true.2 ⟨.tmp t, by simpa using ht, by simp [hd]⟩
        rw [this] at h2
        cases h2
      · simpa using h2
    · have := h5
      rw [Bool.or_eq_true] at this
      rcases this with h | h
      · simp [hi] at h
      · exact List.all_eq_true.1 h j (List.mem_range.2 hj)
  have hu : ∀ i j d, dstOf ops i = some d → dstOf ops j = some d → i = j := by
    intro i j d hi hj
    obtain ⟨oi, hoi⟩ : ∃ o, ops[i]? = some o := by
      cases h : ops[i]? with
      | none => simp [dstOf, h] at hi
      | some o => exact ⟨o, rfl⟩
    have hlt : j < ops.size := by
      cases h : ops[j]? with
      | none => simp [dstOf, h] at hj
      | some o => exact (Array.getElem?_eq_some_iff.1 h).1
    rcases ((hC i oi hoi).2.2.1 j hlt).1 with h | h | h
    · exact h
    · rw [h] at hj; cases hj
    · exact absurd (hi.trans hj.symm) h
  have hwant : ∀ (i : Nat) (o : Oper) (b : Act), ops[i]? = some o → Region.wanted o (yielded ops b.tmps) = true := by
    intro i o b ho
    unfold Region.wanted
    rw [(hC i o ho).1]
  have main : ∀ (fuel : Nat) (listed : Array Bool) (hist : List Nat) (vals : Nat → Value) (w : World), listed.size = ops.size → Down .any ops listed → (left ops listed).length ≤ fuel → (∀ i, i ∈ hist ↔ i < ops.size ∧ listed.getD i false = true) → listed.getD (ops.size - 1) false = false →
      Inv w → (∀ i ∈ hist, φ i (vals i) w) → wpAny P .any ops Q fuel listed (puts ops vals hist a) w := by
    intro fuel
    induction fuel with
    | zero =>
      intro listed hist vals w hsz hd hlen hh hlst hI hφ
      exfalso
      have : ops.size - 1 ∈ left ops listed := List.mem_filter.2 ⟨List.mem_range.2 (by omega), by rw [hlst]; rfl⟩
      rw [List.eq_nil_of_length_eq_zero (by omega : (left ops listed).length = 0)] at this
      cases this
    | succ fuel ih =>
      intro listed hist vals w hsz hd hlen hh hlst hI hφ
      refine ⟨fun h0 => ?_, fun i hi => ?_⟩
      · exfalso
        -- the first that is left is ready
        have hex : ∃ i, i < ops.size ∧ listed.getD i false = false ∧ ∀ j, j < i → listed.getD j false = true := by
          have : ∀ k, k ≤ ops.size → (∃ i, i < k ∧ listed.getD i false = false ∧ ∀ j, j < i → listed.getD j false = true) ∨ ∀ j, j < k → listed.getD j false = true := by
            intro k
            induction k with
            | zero => exact fun _ => .inr (fun j hj => by omega)
            | succ k ihk =>
              intro hk
              rcases ihk (by omega) with ⟨i, h1, h2⟩ | h
              · exact .inl ⟨i, by omega, h2⟩
              · cases hl : listed.getD k false with
                | false => exact .inl ⟨k, by omega, hl, h⟩
                | true => exact .inr (fun j hj => by rcases Nat.lt_or_ge j k with h' | h'; exact h j h'; rw [show j = k by omega]; exact hl)
          rcases this ops.size (Nat.le_refl _) with h | h
          · exact h
          · have := h (ops.size - 1) (by omega)
            rw [hlst] at this
            cases this
        obtain ⟨i, hi, hl, hall⟩ := hex
        have hr : i ∈ Region.ready .any ops listed := by
          rw [mem_ready]
          refine ⟨by rw [getD_two (by omega)]; exact hl, ops[i], by simp [hi], fun e he hb => hall _ ((hC i ops[i] (by simp [hi])).2.1 e he hb)⟩
        rw [h0] at hr
        cases hr
      · obtain ⟨hun, o, ho, hall⟩ := mem_ready.1 hi
        have hlt : i < ops.size := (Array.getElem?_eq_some_iff.1 ho).1
        obtain ⟨c1, c2, c3, c4, c5⟩ := hC i o ho
        have hunF : listed.getD i false = false := by rw [← getD_two (by omega)]; exact hun
        have hDh : ∀ j ∈ D.getD i [], j ∈ hist := fun j hj => by
          have hl := pred_listed hd _ j i o ho hall (c4 j hj)
          refine (hh j).2 ⟨?_, hl⟩
          rcases Nat.lt_or_ge j ops.size with h | h
          · exact h
          · simp [Array.getD_eq_getD_getElem?, show listed[j]? = none from Array.getElem?_eq_none (by omega)] at hl
        have hnh : i ∉ hist := fun h => by rw [((hh i).1 h).2] at hunF; cases hunF
        have hset : ∀ j, (listed.setIfInBounds i true).getD j false = true ↔ j = i ∨ listed.getD j false = true := by
          intro j
          by_cases hji : j = i
          · subst hji; simp [hsz, hlt]
          · rw [getD_set_ne false (Ne.symm hji)]; simp [hji]
        have hd' : Down .any ops (listed.setIfInBounds i true) := by
          intro j oj hoj hlj e he hb
          rcases (hset j).1 hlj with rfl | h
          · rw [ho] at hoj
            cases hoj
            exact (hset _).2 (.inr (hall e he hb))
          · exact (hset _).2 (.inr (hd j oj hoj h e he hb))
        have hlen' : (left ops (listed.setIfInBounds i true)).length < (left ops listed).length := by
          have hp : (!listed.getD i false) = true := by rw [hunF]; rfl
          obtain ⟨l2, e1, e2⟩ := Seq3.filter_split (p := fun j => !listed.getD j false) hp ops.size hlt
          have e3 : left ops (listed.setIfInBounds i true) = (List.range ops.size).filter (fun j => (!listed.getD j false) && !(j == i)) := by
            unfold left
            refine List.filter_congr fun j _ => ?_
            by_cases hji : j = i
            · subst hji
              rw [(hset j).2 (.inl rfl)]; simp
            · rw [getD_set_ne false (Ne.symm hji)]; simp [hji]
          have e1' : left ops listed = _ := e1
          rw [e3, e2, e1']
          simp
        unfold wpOp
        simp only [ho]
        rw [if_pos (hwant i o _ ho)]
        refine .inl ?_
        have hcd : ∀ t, Operand.tmp t ∈ o.op.operands → ∀ j ∈ hist, dstOf ops j = some t → j ∈ D.getD i [] := by
          intro t ht j hj hd
          rcases (c3 j ((hh j).1 hj).1).2 t ht hd with h | h
          · exact h
          · have := ((hh j).1 hj).2
            rw [show j = ops.size - 1 by omega, hlst] at this
            cases this
        by_cases hil : i + 1 < ops.size
        · have hx := hstep i o (by rw [← hget]; exact ho) (by omega) vals w hI (fun j hj => hφ j (hDh j hj))
          refine hx.wp (exec_eq hu (fun cs b => Region.noSelect_spec hs i o cs b ho) vals a hDh hcd) fun v w' ⟨h1, h2, h3⟩ => ?_
          have hvals : puts ops vals hist a = puts ops (fun k => if k = i then v else vals k) hist a := puts_congr hist a fun k hk => by
            show vals k = if k = i then v else vals k
            rw [if_neg (fun (h : k = i) => hnh (h ▸ hk))]
          have hput : (puts ops vals hist a).put o.dst v = puts ops (fun k => if k = i then v else vals k) (hist ++ [i]) a := by
            rw [puts_snoc, ← hvals]
            simp only [if_true]
            congr 1
            simp [dstOf, ho]
          rw [hput]
          refine ih _ _ _ _ (by simp [hsz]) hd' (by omega) (fun j => ?_) ?_ h1 (fun j hj => ?_)
          · rw [List.mem_append, List.mem_singleton, hh j, hset j]
            constructor
            · rintro (h | rfl)
              · exact ⟨h.1, .inr h.2⟩
              · exact ⟨hlt, .inl rfl⟩
            · rintro ⟨h1, rfl | h2⟩
              · exact .inr rfl
              · exact .inl ⟨h1, h2⟩
          · cases hc : (listed.setIfInBounds i true).getD (ops.size - 1) false with
            | false => rfl
            | true =>
              rcases (hset _).1 hc with h | h
              · omega
              · rw [hlst] at h; cases h
          · rcases List.mem_append.1 hj with h | h
            · have hne : j ≠ i := fun e => hnh (e ▸ h)
              have hjl : j < ops.size ∧ _ := (hh j).1 h
              have hj1 : j + 1 < l.length := by
                rcases Nat.lt_or_ge (j + 1) ops.size with h' | h'
                · omega
                · have := hjl.2
                  rw [show j = ops.size - 1 by omega, hlst] at this
                  cases this
              simp only [if_neg hne]
              exact hst j hj1 _ _ _ h2 (hφ j h)
            · rw [List.mem_singleton.1 h]
              simp only [if_true]
              exact h3
        · have hie : i = ops.size - 1 := by omega
          have hhist : ∀ j, j ∈ hist ↔ j ∈ List.range (l.length - 1) := by
            intro j
            rw [List.mem_range, hh j]
            constructor
            · rintro ⟨h1, h2⟩
              rcases Nat.lt_or_ge j (l.length - 1) with h' | h'
              · exact h'
              · rw [show j = ops.size - 1 by omega, hlst] at h2
                cases h2
            · intro h
              exact ⟨by omega, pred_listed hd _ j i o ho hall (c5 (by omega) j (by omega))⟩
          have hx := hlast o (by rw [← hget, ← hsz0, ← hie]; exact ho) vals w hI (fun j hj => hφ j ((hhist j).2 (List.mem_range.2 (by omega))))
          have heq := puts_eq hu vals a hhist
          rw [heq]
          refine hx.wp rfl fun v w' hq => any_done ?_ (by simp [hsz]) hq _
          unfold left
          rw [List.filter_eq_nil_iff]
          intro k hk
          have hk := List.mem_range.1 hk
          have : (listed.setIfInBounds i true).getD k false = true := by
            rw [hset]
            by_cases hki : k = i
            · exact .inl hki
            · exact .inr (pred_listed hd _ k i o ho hall (c5 (by omega) k (by omega)))
          rw [this]
          simp
  refine wp_region_any hm ?_
  have hleft : left ops (Array.replicate ops.size false) = List.range ops.size := by
    unfold left
    rw [List.filter_eq_self]
    intro j _
    by_cases hj : j < ops.size <;> simp [hj]
  exact main ops.size _ [] (fun _ => undef) _ (by simp) (fun j o ho hl => by
    exfalso
    by_cases hj : j < ops.size <;> simp [hj] at hl) (by rw [hleft]; simp) (fun i => by
    constructor
    · intro h; cases h
    · rintro ⟨h1, h2⟩
      simp [h1] at h2) (by
    have h : ∀ k, (Array.replicate ops.size false).getD k false = false := fun k => by by_cases hk : k < ops.size <;> simp [hk]
    exact h _) hI (fun i hi => by cases hi)
/-- the same, with the places written out -/
def putsD (ds : List (Option Tmp)) (vals : Nat → Value) : List Nat → Act → Act
  | [], a => a
  | i :: l, a => putsD ds vals l (a.put (ds.getD i none) (vals i))
theorem puts_D {l : List Oper} {ds : List (Option Tmp)} (hds : l.map (·.dst) = ds) (vals : Nat → Value) : ∀ (m : List Nat) (a : Act), puts l.toArray vals m a = putsD ds vals m a
  | [], _ => rfl
  | i :: m, a => by
    have h : dstOf l.toArray i = ds.getD i none := by
      subst hds
      unfold dstOf
      simp only [List.getElem?_toArray, List.getD_eq_getElem?_getD, List.getElem?_map]
      cases l[i]? <;> rfl
    rw [puts, putsD, h, puts_D hds vals m]
/-- the operations, one behind another; 'k': the place of the first; 'm': the last one's; 'D': what each one left reads -/
def Each (P : Program) (ds : List (Option Tmp)) (φ : Nat → Value → World → Prop) (Inv : World → Prop) (R : World → World → Prop) (Q : Exit → Act → World → Prop) (a : Act) (m : Nat) : Nat → List (List Nat) → List Oper → Prop
  | _, _, [] => True
  | _, _, [o] => ∀ vals w, Inv w → (∀ j, j < m → φ j (vals j) w) → Does P o (putsD ds vals (List.range m) a) w fun v w' => Q .normal ((putsD ds vals (List.range m) a).put o.dst v) w'
  | k, [], o :: r => (∀ vals w, Inv w → Does P o (putsD ds vals [] a) w fun v w' => Inv w' ∧ R w w' ∧ φ k v w') ∧ Each P ds φ Inv R Q a m (k + 1) [] r
  | k, d :: D, o :: r => (∀ vals w, Inv w → (∀ j ∈ d, φ j (vals j) w) → Does P o (putsD ds vals d a) w fun v w' => Inv w' ∧ R w w' ∧ φ k v w') ∧ Each P ds φ Inv R Q a m (k + 1) D r
theorem Each.cons {ds : List (Option Tmp)} {φ : Nat → Value → World → Prop} {Inv : World → Prop} {R : World → World → Prop} {Q : Exit → Act → World → Prop} {a : Act} {m k : Nat} {d : List Nat} {D : List (List Nat)} {o o' : Oper} {r : List Oper}
    (h : ∀ vals w, Inv w → (∀ j ∈ d, φ j (vals j) w) → Does P o (putsD ds vals d a) w fun v w' => Inv w' ∧ R w w' ∧ φ k v w') (hr : Each P ds φ Inv R Q a m (k + 1) D (o' :: r)) : Each P ds φ Inv R Q a m k (d :: D) (o :: o' :: r) := ⟨h, hr⟩
theorem Each.one {ds : List (Option Tmp)} {φ : Nat → Value → World → Prop} {Inv : World → Prop} {R : World → World → Prop} {Q : Exit → Act → World → Prop} {a : Act} {m k : Nat} {D : List (List Nat)} {o : Oper}
    (h : ∀ vals w, Inv w → (∀ j, j < m → φ j (vals j) w) → Does P o (putsD ds vals (List.range m) a) w fun v w' => Q .normal ((putsD ds vals (List.range m) a).put o.dst v) w') : Each P ds φ Inv R Q a m k D [o] := by
  cases D <;> exact h
theorem Each.step {ds : List (Option Tmp)} {φ : Nat → Value → World → Prop} {Inv : World → Prop} {R : World → World → Prop} {Q : Exit → Act → World → Prop} {a : Act} {m : Nat} : ∀ (D : List (List Nat)) (l : List Oper) (k i : Nat) (o : Oper), Each P ds φ Inv R Q a m k D l → l[i]? = some o → i + 1 < l.length →
    ∀ vals w, Inv w → (∀ j ∈ D.getD i [], φ j (vals j) w) → Does P o (putsD ds vals (D.getD i []) a) w fun v w' => Inv w' ∧ R w w' ∧ φ (k + i) v w'
  | _, [], k, i, o, _, h, _ => by simp at h
  | _, [x], k, i, o, _, _, h => by simp at h
  | [], x :: y :: r, k, 0, o, h, ho, _ => by
    cases ho
    exact fun vals w hI _ => h.1 vals w hI
  | d :: D, x :: y :: r, k, 0, o, h, ho, _ => by
    cases ho
    exact h.1
  | [], x :: y :: r, k, i + 1, o, h, ho, hi => by
    have := Each.step [] (y :: r) (k + 1) i o h.2 (by simpa using ho) (by simpa using hi)
    rw [show k + 1 + i = k + (i + 1) by omega] at this
    exact this
  | d :: D, x :: y :: r, k, i + 1, o, h, ho, hi => by
    have := Each.step D (y :: r) (k + 1) i o h.2 (by simpa using ho) (by simpa using hi)
    rw [show k + 1 + i = k + (i + 1) by omega] at this
    exact this
theorem Each.last {ds : List (Option Tmp)} {φ : Nat → Value → World → Prop} {Inv : World → Prop} {R : World → World → Prop} {Q : Exit → Act → World → Prop} {a : Act} {m : Nat} : ∀ (D : List (List Nat)) (l : List Oper) (k : Nat) (o : Oper), Each P ds φ Inv R Q a m k D l → l[l.length - 1]? = some o →
    ∀ vals w, Inv w → (∀ j, j < m → φ j (vals j) w) → Does P o (putsD ds vals (List.range m) a) w fun v w' => Q .normal ((putsD ds vals (List.range m) a).put o.dst v) w'
  | _, [], _, _, _, h => by simp at h
  | [], [x], _, o, h, ho => by
    cases ho
    exact h
  | _ :: _, [x], _, o, h, ho => by
    cases ho
    exact h
  | [], x :: y :: r, k, o, h, ho => Each.last [] (y :: r) (k + 1) o h.2 (by simpa using ho)
  | _ :: D, x :: y :: r, k, o, h, ho => Each.last D (y :: r) (k + 1) o h.2 (by simpa using ho)
theorem wp_region {id : Nat} {l : List Oper} {a : Act} {w : World} {Q : Exit → Act → World → Prop} (D : List (List Nat)) (ds : List (Option Tmp)) (m : Nat) (φ : Nat → Value → World → Prop) (Inv : World → Prop) (R : World → World → Prop)
    (hm : P.follows .mixedOrders = true) (hds : l.map (·.dst) = ds) (hl : l.length = m + 1) (hB : checkB l.toArray D = true) (hI : Inv w.drew)
    (hst : ∀ j, j < m → ∀ v w w', R w w' → φ j v w → φ j v w') (h : Each P ds φ Inv R Q a m 0 D l) : (Code.region id l.toArray true).wp P Q a w := by
  refine wp_region_rg D φ Inv R hm hB hI (fun j hj => hst j (by omega)) (fun i o ho hi vals w hI hφ => ?_) (fun o ho vals w hI hφ => ?_) (by omega)
  · rw [puts_D hds]
    have := h.step D l 0 i o ho hi vals w hI hφ
    rwa [Nat.zero_add] at this
  · rw [puts_D hds, show l.length - 1 = m by omega]
    exact h.last D l 0 o ho vals w hI (fun j hj => hφ j (by omega))
end
end Go.Proofs.YtmdnhinpaflamaaDoor.Rg
