/- A statement that is cut off between its words. No program in sight. -/
import Derived.Test.YtmdnhinpaflamaaDoorPlC
namespace Go.Proofs.YtmdnhinpaflamaaDoor
open Go.RowKit
set_option linter.unusedVariables false
namespace CM
open LexM (Tok)
open PM (B Ex Col It St PS zeroTok wordy two un colEx opOr opAnd opSum opTerm opComp)

section
variable {e : Tok} {α β : Type} {N M : Nat} {X : List Tok}
/-- at the end alone -/
def Oz (e : Tok) (f : P α) : Prop := (∃ a, f [e] = .ok (a, [e])) ∨ f [e] = .error ((e.pos : Int), 5)
/-- where the words end earlier -/
def Tri (e : Tok) (X : List Tok) (f' : P α) (T : List Tok) (a : α) (r : List Tok) : Prop :=
  (∃ R, R ≠ [] ∧ R.length ≤ T.length ∧ r = R ++ X ∧ f' (T ++ [e]) = .ok (a, R ++ [e])) ∨ (∃ a', f' (T ++ [e]) = .ok (a', [e])) ∨ f' (T ++ [e]) = .error ((e.pos : Int), 5)
structure Cu (e : Tok) (N M : Nat) (f f' : P α) : Prop where
  oz : Oz e f'
  c : ∀ T X a r, T ≠ [] → (T ++ X).length ≤ N → T.length + 1 ≤ M → f (T ++ X) = .ok (a, r) → Tri e X f' T a r
theorem tri_of_oz {f' : P α} (h : Oz e f') (a : α) (r : List Tok) : Tri e X f' [] a r := by
  rcases h with ⟨a', h⟩ | h
  · exact .inr (.inl ⟨a', h⟩)
  · exact .inr (.inr h)
/-- at any words -/
theorem Cu.all {f f' : P α} (h : Cu e N M f f') (T X : List Tok) (a : α) (r : List Tok) (h1 : (T ++ X).length ≤ N) (h2 : T.length + 1 ≤ M) (hf : f (T ++ X) = .ok (a, r)) : Tri e X f' T a r := by
  by_cases hT : T = []
  · subst hT; exact tri_of_oz h.oz a r
  · exact h.c T X a r hT h1 h2 hf
theorem Cu.mono {N' M' : Nat} {f f' : P α} (h : Cu e N M f f') (h1 : N' ≤ N) (h2 : M' ≤ M) : Cu e N' M' f f' := ⟨h.oz, fun T X a r hT a1 a2 hf => h.c T X a r hT (by omega) (by omega) hf⟩
theorem cu_ret (a : α) : Cu e N M (ret a) (ret a) := ⟨.inl ⟨a, rfl⟩, fun T X b r hT _ _ h => by
  obtain ⟨rfl, rfl⟩ := (Prod.mk.injEq _ _ _ _).mp (Except.ok.inj h)
  exact .inl ⟨T, hT, Nat.le_refl _, rfl, rfl⟩⟩
theorem cu_err : Cu e N M (err 5 : P α) (err 5) := ⟨.inr rfl, fun T X b r _ _ _ h => by cases h⟩
theorem Tri.then {f f' : P α} {g g' : α → P β} {T r1 r : List Tok} {a1 : α} {a : β} (h : Tri e X f' T a1 r1) (hg : ∀ a, Cu e N M (g a) (g' a)) (h1 : (T ++ X).length ≤ N) (h2 : T.length + 1 ≤ M) (h3 : g a1 r1 = .ok (a, r)) : Tri e X (bnd f' g') T a r := by
  rcases h with ⟨R, hR, hl, rfl, h4⟩ | ⟨a', h4⟩ | h4
  · have hX : (R ++ X).length ≤ N := by simp only [List.length_append] at h1 ⊢; omega
    have e1 : bnd f' g' (T ++ [e]) = g' a1 (R ++ [e]) := by unfold bnd; rw [h4]
    rcases (hg a1).c R X a r hR hX (by omega) h3 with ⟨R2, k1, k2, k3, k4⟩ | ⟨a', k4⟩ | k4
    · exact .inl ⟨R2, k1, by omega, k3, e1.trans k4⟩
    · exact .inr (.inl ⟨a', e1.trans k4⟩)
    · exact .inr (.inr (e1.trans k4))
  · have e1 : bnd f' g' (T ++ [e]) = g' a' [e] := by unfold bnd; rw [h4]
    rcases (hg a').oz with ⟨b, k⟩ | k
    · exact .inr (.inl ⟨b, e1.trans k⟩)
    · exact .inr (.inr (e1.trans k))
  · exact .inr (.inr (by unfold bnd; rw [h4]))
theorem bnd_inv {f : P α} {g : α → P β} {l r : List Tok} {a : β} (h : bnd f g l = .ok (a, r)) : ∃ a1 r1, f l = .ok (a1, r1) ∧ g a1 r1 = .ok (a, r) := by
  unfold bnd at h
  split at h
  · cases h
  · rename_i a1 r1 h1
    exact ⟨a1, r1, h1, h⟩
theorem cu_bnd {f f' : P α} {g g' : α → P β} (hf : Cu e N M f f') (hg : ∀ a, Cu e N M (g a) (g' a)) : Cu e N M (bnd f g) (bnd f' g') := by
  refine ⟨?_, fun T X a r hT h1 h2 h => ?_⟩
  · rcases hf.oz with ⟨a, h⟩ | h
    · have e1 : bnd f' g' [e] = g' a [e] := by unfold bnd; rw [h]
      rcases (hg a).oz with ⟨b, k⟩ | k
      · exact .inl ⟨b, e1.trans k⟩
      · exact .inr (e1.trans k)
    · exact .inr (by unfold bnd; rw [h])
  · obtain ⟨a1, r1, k1, k2⟩ := bnd_inv h
    exact Tri.then (f := f) (hf.c T X a1 r1 hT h1 h2 k1) hg h1 h2 k2
/-- the first word says which way -/
theorem cu_match {γ : Type} (o : Tok → Option γ) (ho : o e = none) {f f' : γ → P α} {g g' : P α} (hf : ∀ x, Cu e N M (f x) (f' x)) (hg : Cu e (N + 1) (M + 1) g g') :
    Cu e (N + 1) (M + 1) (fun l => (o (now l)).elim (g l) (fun x => f x l.tail)) (fun l => (o (now l)).elim (g' l) (fun x => f' x l.tail)) := by
  refine ⟨?_, fun T X a r hT h1 h2 h => ?_⟩
  · have e1 : (o (now [e])).elim (g' [e]) (fun x => f' x [e].tail) = g' [e] := by rw [show now [e] = e from rfl, ho]; rfl
    rcases hg.oz with ⟨b, k⟩ | k
    · exact .inl ⟨b, e1.trans k⟩
    · exact .inr (e1.trans k)
  · cases T with
    | nil => exact absurd rfl hT
    | cons t T =>
      have h : (o t).elim (g (t :: T ++ X)) (fun x => f x (T ++ X)) = .ok (a, r) := h
      cases hot : o t with
      | none =>
        have e1 : (o (now (t :: T ++ [e]))).elim (g' (t :: T ++ [e])) (fun x => f' x (t :: T ++ [e]).tail) = g' (t :: T ++ [e]) := by rw [show now (t :: T ++ [e]) = t from rfl, hot]; rfl
        rw [hot] at h
        rcases hg.c (t :: T) X a r hT h1 h2 h with ⟨R, k1, k2, k3, k4⟩ | ⟨a', k4⟩ | k4
        · exact .inl ⟨R, k1, k2, k3, e1.trans k4⟩
        · exact .inr (.inl ⟨a', e1.trans k4⟩)
        · exact .inr (.inr (e1.trans k4))
      | some x =>
        have e1 : (o (now (t :: T ++ [e]))).elim (g' (t :: T ++ [e])) (fun x => f' x (t :: T ++ [e]).tail) = f' x (T ++ [e]) := by rw [show now (t :: T ++ [e]) = t from rfl, hot]; rfl
        rw [hot] at h
        simp only [List.cons_append, List.length_cons] at h1 h2
        rcases (hf x).all T X a r (by omega) (by omega) h with ⟨R, k1, k2, k3, k4⟩ | ⟨a', k4⟩ | k4
        · exact .inl ⟨R, k1, by simp only [List.length_cons]; omega, k3, e1.trans k4⟩
        · exact .inr (.inl ⟨a', e1.trans k4⟩)
        · exact .inr (.inr (e1.trans k4))
theorem cu_ite (p : Tok → Prop) [DecidablePred p] {f f' g g' : P α} (hf : Cu e N M f f') (hg : Cu e N M g g') : Cu e N M (fun l => if p (now l) then f l else g l) (fun l => if p (now l) then f' l else g' l) := by
  refine ⟨?_, fun T X a r hT h1 h2 h => ?_⟩
  · by_cases hp : p e
    · have e1 : (if p (now [e]) then f' [e] else g' [e]) = f' [e] := if_pos hp
      rcases hf.oz with ⟨b, k⟩ | k
      · exact .inl ⟨b, e1.trans k⟩
      · exact .inr (e1.trans k)
    · have e1 : (if p (now [e]) then f' [e] else g' [e]) = g' [e] := if_neg hp
      rcases hg.oz with ⟨b, k⟩ | k
      · exact .inl ⟨b, e1.trans k⟩
      · exact .inr (e1.trans k)
  · cases T with
    | nil => exact absurd rfl hT
    | cons t T =>
      have h : (if p t then f (t :: T ++ X) else g (t :: T ++ X)) = .ok (a, r) := h
      by_cases hp : p t
      · have e1 : (if p (now (t :: T ++ [e])) then f' (t :: T ++ [e]) else g' (t :: T ++ [e])) = f' (t :: T ++ [e]) := if_pos hp
        rw [if_pos hp] at h
        rcases hf.c (t :: T) X a r hT h1 h2 h with ⟨R, k1, k2, k3, k4⟩ | ⟨a', k4⟩ | k4
        · exact .inl ⟨R, k1, k2, k3, e1.trans k4⟩
        · exact .inr (.inl ⟨a', e1.trans k4⟩)
        · exact .inr (.inr (e1.trans k4))
      · have e1 : (if p (now (t :: T ++ [e])) then f' (t :: T ++ [e]) else g' (t :: T ++ [e])) = g' (t :: T ++ [e]) := if_neg hp
        rw [if_neg hp] at h
        rcases hg.c (t :: T) X a r hT h1 h2 h with ⟨R, k1, k2, k3, k4⟩ | ⟨a', k4⟩ | k4
        · exact .inl ⟨R, k1, k2, k3, e1.trans k4⟩
        · exact .inr (.inl ⟨a', e1.trans k4⟩)
        · exact .inr (.inr (e1.trans k4))
theorem Cu.of {f f' g g' : P α} (h : Cu e N M f f') (h1 : ∀ l, g l = f l) (h2 : ∀ l, g' l = f' l) : Cu e N M g g' := by
  rw [show g = f from funext h1, show g' = f' from funext h2]; exact h
theorem Cu.pos {f f' : P α} (ho : Oz e f') (h : 1 ≤ N → 1 ≤ M → Cu e N M f f') : Cu e N M f f' := ⟨ho, fun T X a r hT h1 h2 hf => by
  have : 1 ≤ T.length := by cases T with | nil => exact absurd rfl hT | cons => simp
  simp only [List.length_append] at h1
  exact (h (by omega) (by omega)).c T X a r hT (by simp only [List.length_append]; omega) h2 hf⟩
def isO (w : B) (t : Tok) : Option Unit := if (wordy t && t.text == w) = true then some () else none
theorem isO_end (he : e.kind = 6) (w : B) : isO w e = none := by unfold isO wordy; rw [he]; rfl
theorem opt_elim (w : B) (f g : P α) (l : List Tok) : opt w f g l = (isO w (now l)).elim (g l) (fun _ => f l.tail) := by
  unfold opt isO CM.is
  by_cases h : (wordy (now l) && (now l).text == w) = true
  · rw [if_pos h, if_pos h]; rfl
  · rw [if_neg h, if_neg h]; rfl
/-- one word less for what follows it -/
theorem cu_optS (he : e.kind = 6) (w : B) {f f' g g' : P α} (hf : Cu e N M f f') (hg : Cu e (N + 1) (M + 1) g g') : Cu e (N + 1) (M + 1) (opt w f g) (opt w f' g') :=
  (cu_match (isO w) (isO_end he w) (f := fun _ => f) (f' := fun _ => f') (fun _ => hf) hg).of (opt_elim w f g) (opt_elim w f' g')
theorem oz_opt (he : e.kind = 6) (w : B) {f' g' : P α} (hg : Oz e g') : Oz e (opt w f' g') := by
  have e1 : opt w f' g' [e] = g' [e] := by rw [opt_elim, show now [e] = e from rfl, isO_end he]; rfl
  rcases hg with ⟨b, k⟩ | k
  · exact .inl ⟨b, e1.trans k⟩
  · exact .inr (e1.trans k)
theorem cu_opt (he : e.kind = 6) (w : B) {f f' g g' : P α} (hf : Cu e N M f f') (hg : Cu e N M g g') : Cu e N M (opt w f g) (opt w f' g') := by
  refine Cu.pos (oz_opt he w hg.oz) fun h1 h2 => ?_
  obtain ⟨N, rfl⟩ : ∃ k, N = k + 1 := ⟨N - 1, by omega⟩
  obtain ⟨M, rfl⟩ : ∃ k, M = k + 1 := ⟨M - 1, by omega⟩
  exact cu_optS he w (hf.mono (by omega) (by omega)) hg
theorem cu_need (he : e.kind = 6) (w : B) : Cu e N M (need w) (need w) := cu_opt he w (cu_ret ()) cu_err
theorem cu_needs (he : e.kind = 6) : ∀ ws : List B, Cu e N M (needs ws) (needs ws)
  | [] => cu_ret ()
  | w :: r => cu_bnd (cu_need he w) fun _ => cu_needs he r
theorem cu_word (he : e.kind = 6) (k : Int) (hk : k ≠ 6) : Cu e N M (word k) (word k) := by
  refine ⟨.inr ?_, fun T X a r hT h1 h2 h => ?_⟩
  · unfold word
    rw [if_neg (by rw [show now [e] = e from rfl, he]; exact fun h => hk h.symm)]
    rfl
  · cases T with
    | nil => exact absurd rfl hT
    | cons t T =>
      have h : (if t.kind = k then .ok (t, T ++ X) else .error ((t.pos : Int), 5) : Except (Int × Int) (Tok × List Tok)) = .ok (a, r) := h
      by_cases hp : t.kind = k
      · rw [if_pos hp] at h
        obtain ⟨rfl, rfl⟩ := (Prod.mk.injEq _ _ _ _).mp (Except.ok.inj h)
        have e1 : word k (t :: T ++ [e]) = .ok (t, T ++ [e]) := if_pos hp
        cases T with
        | nil => exact .inr (.inl ⟨t, e1⟩)
        | cons u T => exact .inl ⟨u :: T, by simp, by simp, rfl, e1⟩
      · rw [if_neg hp] at h
        cases h
theorem cu_name (he : e.kind = 6) : Cu e N M name name := cu_bnd (cu_word he 1 (by decide)) fun _ => cu_ret _
theorem cu_more (he : e.kind = 6) {one one' : P α} : ∀ (m n N M : Nat) (acc : List α), Cu e N M one one' → N ≤ n → M ≤ m → Cu e N M (more one n acc) (more one' m acc)
  | 0, n, N, M, acc, _, _, hm => Cu.pos (.inl ⟨acc, rfl⟩) fun _ h => by omega
  | m + 1, n, N, M, acc, h, hn, hm => by
    refine Cu.pos (oz_opt he _ (.inl ⟨acc, rfl⟩)) fun h1 h2 => ?_
    obtain ⟨N, rfl⟩ : ∃ k, N = k + 1 := ⟨N - 1, by omega⟩
    obtain ⟨M, rfl⟩ : ∃ k, M = k + 1 := ⟨M - 1, by omega⟩
    obtain ⟨n, rfl⟩ : ∃ k, n = k + 1 := ⟨n - 1, by omega⟩
    have h' := h.mono (show N ≤ N + 1 by omega) (show M ≤ M + 1 by omega)
    exact cu_optS he _ (cu_bnd h' fun x => cu_more he m n N M (acc ++ [x]) h' (by omega) (by omega)) (cu_ret acc)
theorem cu_len {f f' : Nat → P α} (h : ∀ N' M' n m, N' ≤ N → M' ≤ M → N' ≤ n → M' ≤ m → Cu e N' M' (f n) (f' m)) : Cu e N M (fun l => f l.length l) (fun l => f' l.length l) :=
  ⟨(h 0 0 0 1 (by omega) (by omega) (by omega) (by omega)).oz, fun T X a r hT h1 h2 hf => (h (T ++ X).length (T.length + 1) (T ++ X).length (T ++ [e]).length h1 h2 (Nat.le_refl _) (by simp)).c T X a r hT (Nat.le_refl _) (Nat.le_refl _) hf⟩
theorem cu_list (he : e.kind = 6) {one one' : P α} (h : Cu e N M one one') : Cu e N M (list one) (list one') :=
  cu_bnd h fun x => cu_len (f := fun n => more one n [x]) (f' := fun n => more one' n [x]) fun N' M' n m a b c d => cu_more he m n N' M' [x] (h.mono a b) c d
def opO (ops : B → Option Int) (t : Tok) : Option Int := ops (if wordy t then t.text else [])
theorem opO_end (he : e.kind = 6) {ops : B → Option Int} (h0 : ops [] = none) : opO ops e = none := by unfold opO wordy; rw [he]; exact h0
theorem cu_rowsF (he : e.kind = 6) {ops : B → Option Int} (h0 : ops [] = none) {one one' : P Ex} : ∀ (m n N M : Nat) (x : Ex), Cu e N M one one' → N ≤ n → M ≤ m → Cu e N M (rowsF one ops n x) (rowsF one' ops m x)
  | 0, n, N, M, x, _, _, hm => Cu.pos (.inl ⟨x, rfl⟩) fun _ h => by omega
  | m + 1, n, N, M, x, h, hn, hm => by
    have key : ∀ (one : P Ex) (n : Nat) (l : List Tok), rowsF one ops (n + 1) x l = (opO ops (now l)).elim (ret x l) (fun op => bnd one (fun y => rowsF one ops n (two op x y)) l.tail) := fun one n l => by
      show (match ops (sign l) with | none => Except.ok (x, l) | some op => bnd one (fun y => rowsF one ops n (two op x y)) l.tail : Except (Int × Int) (Ex × List Tok)) = _
      unfold opO
      unfold sign
      cases ops (if wordy (now l) then (now l).text else []) <;> rfl
    refine Cu.pos ?_ fun h1 h2 => ?_
    · refine .inl ⟨x, ?_⟩
      rw [key, show now [e] = e from rfl, opO_end he h0]
      rfl
    obtain ⟨N, rfl⟩ : ∃ k, N = k + 1 := ⟨N - 1, by omega⟩
    obtain ⟨M, rfl⟩ : ∃ k, M = k + 1 := ⟨M - 1, by omega⟩
    obtain ⟨n, rfl⟩ : ∃ k, n = k + 1 := ⟨n - 1, by omega⟩
    have h' := h.mono (show N ≤ N + 1 by omega) (show M ≤ M + 1 by omega)
    exact (cu_match (opO ops) (opO_end he h0) (g := ret x) (g' := ret x) (fun op => cu_bnd h' fun y => cu_rowsF he h0 m n N M (two op x y) h' (by omega) (by omega)) (cu_ret x)).of (key one n) (key one' m)
theorem cu_rows (he : e.kind = 6) {ops : B → Option Int} (h0 : ops [] = none) {one one' : P Ex} (h : Cu e N M one one') : Cu e N M (rows one ops) (rows one' ops) :=
  cu_bnd h fun x => cu_len (f := fun n => rowsF one ops n x) (f' := fun n => rowsF one' ops n x) fun N' M' n m a b c d => cu_rowsF he h0 m n N' M' x (h.mono a b) c d
theorem cu_exprF (he : e.kind = 6) {nt nt' : P Ex} (h : Cu e N M nt nt') : Cu e N M (exprF nt) (exprF nt') := cu_rows he (by decide) (cu_rows he (by decide) h)
theorem cu_sumF (he : e.kind = 6) {nt nt' : P Ex} (h : Cu e N M nt nt') : Cu e N M (sumF nt) (sumF nt') := cu_rows he (by decide) (cu_rows he (by decide) h)
theorem cu_compF (he : e.kind = 6) {u u' : P Ex} (h : Cu e N M u u') : Cu e N M (compF u) (compF u') := by
  refine cu_bnd (cu_sumF he h) fun x => ?_
  have key : ∀ (u : P Ex) (l : List Tok), (match opComp (sign l) with | none => .ok (x, l) | some op => bnd (sumF u) (fun y => ret (two op x y)) l.tail : Except (Int × Int) (Ex × List Tok)) = (opO opComp (now l)).elim (ret x l) (fun op => bnd (sumF u) (fun y => ret (two op x y)) l.tail) := fun u l => by
    unfold opO
    unfold sign
    cases opComp (if wordy (now l) then (now l).text else []) <;> rfl
  refine Cu.pos ?_ fun h1 h2 => ?_
  · refine .inl ⟨x, ?_⟩
    have := key u' [e]
    rw [show now [e] = e from rfl, opO_end he (by decide)] at this
    exact this
  obtain ⟨N, rfl⟩ : ∃ k, N = k + 1 := ⟨N - 1, by omega⟩
  obtain ⟨M, rfl⟩ : ∃ k, M = k + 1 := ⟨M - 1, by omega⟩
  have h' := h.mono (show N ≤ N + 1 by omega) (show M ≤ M + 1 by omega)
  exact (cu_match (opO opComp) (opO_end he (by decide)) (g := ret x) (g' := ret x) (fun op => cu_bnd (cu_sumF he h') fun y => cu_ret (two op x y)) (cu_ret x)).of (key u) (key u')
theorem nests_at {sg : B} {inn : Int → P Ex} {d : Int} {l : List Tok} (h : is sg l = true) : nests sg inn d l = if d = 64 then err 6 l else inn (d + 1) l.tail := by
  unfold nests
  split
  · rfl
  · exact bnd_ok (opt_yes h)
/-- a bracket, a sign, a not -/
theorem cu_nests (he : e.kind = 6) (sg : B) {inn inn' : Int → P Ex} (d : Int) {g g' : P Ex} (h : ∀ d, Cu e N M (inn d) (inn' d)) (hg : Cu e (N + 1) (M + 1) g g') :
    Cu e (N + 1) (M + 1) (fun l => if is sg l then nests sg inn d l else g l) (fun l => if is sg l then nests sg inn' d l else g' l) := by
  by_cases hd : d = 64
  · refine ⟨?_, fun T X a r hT h1 h2 hf => ?_⟩
    · have e1 : (if is sg [e] then nests sg inn' d [e] else g' [e]) = g' [e] := if_neg (by rw [show is sg [e] = false from by unfold CM.is wordy; rw [show now [e] = e from rfl, he]; rfl]; decide)
      rcases hg.oz with ⟨b, k⟩ | k
      · exact .inl ⟨b, e1.trans k⟩
      · exact .inr (e1.trans k)
    · cases T with
      | nil => exact absurd rfl hT
      | cons t T =>
        have hf : (if is sg (t :: T ++ X) then nests sg inn d (t :: T ++ X) else g (t :: T ++ X)) = .ok (a, r) := hf
        by_cases hi : is sg (t :: T ++ X) = true
        · rw [if_pos hi, nests_at hi, if_pos hd] at hf
          cases hf
        · rw [if_neg hi] at hf
          have hi' : ¬ is sg (t :: T ++ [e]) = true := hi
          have e1 : (if is sg (t :: T ++ [e]) then nests sg inn' d (t :: T ++ [e]) else g' (t :: T ++ [e])) = g' (t :: T ++ [e]) := if_neg hi'
          rcases hg.c (t :: T) X a r hT h1 h2 hf with ⟨R, k1, k2, k3, k4⟩ | ⟨a', k4⟩ | k4
          · exact .inl ⟨R, k1, k2, k3, e1.trans k4⟩
          · exact .inr (.inl ⟨a', e1.trans k4⟩)
          · exact .inr (.inr (e1.trans k4))
  · have key : ∀ (inn : Int → P Ex) (g : P Ex) (l : List Tok), (if is sg l then nests sg inn d l else g l) = opt sg (inn (d + 1)) g l := fun inn g l => by
      unfold opt
      by_cases hi : is sg l = true
      · rw [if_pos hi, if_pos hi, nests_at hi, if_neg hd]
      · rw [if_neg hi, if_neg hi]
    exact (cu_optS he sg (h (d + 1)) hg).of (key inn g) (key inn' g')
theorem cu_column (he : e.kind = 6) : Cu e N M column column := cu_bnd (cu_name he) fun _ => cu_opt he _ (cu_bnd (cu_name he) fun _ => cu_ret _) (cu_ret _)
theorem cu_unaryF (he : e.kind = 6) {u nt u' nt' : Int → P Ex} (d : Int) (hu : ∀ d, Cu e N M (u d) (u' d)) (hn : ∀ d, Cu e N M (nt d) (nt' d)) : Cu e (N + 1) (M + 1) (unaryF u nt d) (unaryF u' nt' d) := by
  refine cu_nests he _ d (fun d => cu_bnd (hu d) fun x => cu_ret (un 3 x)) ?_
  refine cu_nests he _ d (fun d => cu_bnd (cu_exprF he (hn d)) fun x => cu_bnd (cu_needs he _) fun _ => cu_ret x) ?_
  refine cu_ite (fun t => t.kind = 3) (cu_bnd (cu_word he 3 (by decide)) fun _ => cu_ret _) ?_
  exact cu_ite (fun t => t.kind = 4) (cu_bnd (cu_word he 4 (by decide)) fun _ => cu_ret _) (cu_column he)
theorem cu_notF (he : e.kind = 6) {u nt u' nt' : Int → P Ex} (d : Int) (hu : ∀ d, Cu e (N + 1) (M + 1) (u d) (u' d)) (hn : ∀ d, Cu e N M (nt d) (nt' d)) : Cu e (N + 1) (M + 1) (notF u nt d) (notF u' nt' d) :=
  cu_nests he _ d (fun d => cu_bnd (hn d) fun x => cu_ret (un 4 x)) (cu_compF he (hu d))
theorem cu_lev (he : e.kind = 6) : ∀ (m n N M : Nat), N ≤ n → M ≤ m → ∀ d, Cu e N M ((lev n).1 d) ((lev m).1 d) ∧ Cu e N M ((lev n).2 d) ((lev m).2 d)
  | 0, n, N, M, _, hm, d => ⟨Cu.pos (.inl ⟨_, rfl⟩) fun _ h => by omega, Cu.pos (.inl ⟨_, rfl⟩) fun _ h => by omega⟩
  | m + 1, n, N, M, hn, hm, d => by
    have hoz : ∀ d, Cu e 1 (m + 1) ((lev 1).1 d) ((lev (m + 1)).1 d) ∧ Cu e 1 (m + 1) ((lev 1).2 d) ((lev (m + 1)).2 d) := fun d => by
      have ih := fun d => cu_lev he m 0 0 m (by omega) (by omega) d
      have hu : ∀ d, Cu e 1 (m + 1) ((lev 1).1 d) ((lev (m + 1)).1 d) := fun d => cu_unaryF he d (fun d => (ih d).1) (fun d => (ih d).2)
      exact ⟨hu d, cu_notF he d hu (fun d => (ih d).2)⟩
    by_cases h1 : 1 ≤ N
    · obtain ⟨N, rfl⟩ : ∃ k, N = k + 1 := ⟨N - 1, by omega⟩
      obtain ⟨n, rfl⟩ : ∃ k, n = k + 1 := ⟨n - 1, by omega⟩
      have ih := fun d => cu_lev he m n N (min (M - 1) m) (by omega) (by omega) d
      have hu : ∀ d, Cu e (N + 1) (min (M - 1) m + 1) ((lev (n + 1)).1 d) ((lev (m + 1)).1 d) := fun d => cu_unaryF he d (fun d => (ih d).1) (fun d => (ih d).2)
      exact ⟨(hu d).mono (Nat.le_refl _) (by omega), (cu_notF he d hu (fun d => (ih d).2)).mono (Nat.le_refl _) (by omega)⟩
    · exact ⟨Cu.pos (hoz d).1.oz fun h _ => by omega, Cu.pos (hoz d).2.oz fun h _ => by omega⟩
theorem cu_expr (he : e.kind = 6) {n m : Nat} (hn : N ≤ n) (hm : M ≤ m) (d : Int) : Cu e N M (expr n d) (expr m d) := cu_exprF he (cu_lev he m n N M hn hm d).2
theorem cu_tag (he : e.kind = 6) : Cu e N M tag tag := by
  have hb : Cu e N M (bnd (word 3) (fun t => ret (t.int % 65536))) (bnd (word 3) (fun t => ret (t.int % 65536))) := cu_bnd (cu_word he 3 (by decide)) fun _ => cu_ret _
  refine ⟨?_, fun T X a r hT h1 h2 hf => ?_⟩
  · have e1 : tag [e] = bnd (word 3) (fun t => ret (t.int % 65536)) [e] := if_neg (fun h => by have := h.1; rw [show now [e] = e from rfl, he] at this; cases this)
    rcases hb.oz with ⟨b, k⟩ | k
    · exact .inl ⟨b, e1.trans k⟩
    · exact .inr (e1.trans k)
  · cases T with
    | nil => exact absurd rfl hT
    | cons t T =>
      by_cases hc : t.kind = 3 ∧ 65535 < t.int
      · have e1 : tag (t :: T ++ X) = .error ((t.pos : Int), 3) := if_pos hc
        rw [e1] at hf
        cases hf
      · have e1 : tag (t :: T ++ X) = bnd (word 3) (fun t => ret (t.int % 65536)) (t :: T ++ X) := if_neg hc
        have e2 : tag (t :: T ++ [e]) = bnd (word 3) (fun t => ret (t.int % 65536)) (t :: T ++ [e]) := if_neg hc
        rw [e1] at hf
        rcases hb.c (t :: T) X a r hT h1 h2 hf with ⟨R, k1, k2, k3, k4⟩ | ⟨a', k4⟩ | k4
        · exact .inl ⟨R, k1, k2, k3, e2.trans k4⟩
        · exact .inr (.inl ⟨a', e2.trans k4⟩)
        · exact .inr (.inr (e2.trans k4))
theorem cu_tags (he : e.kind = 6) : Cu e N M tags tags := cu_ite (fun t => t.kind = 3) (cu_list he (cu_tag he)) (cu_ret [])
theorem cu_col (he : e.kind = 6) : Cu e N M col col := cu_bnd (cu_name he) fun _ => cu_bnd (cu_opt he _ (cu_ret _) (cu_opt he _ (cu_ret _) cu_err)) fun _ => cu_opt he _ (cu_bnd (cu_name he) fun _ => cu_ret _) (cu_ret _)
def aggO (t : Tok) : Option Int := if agg (if wordy t then t.text else []) = 0 then none else some (agg (if wordy t then t.text else []))
theorem cu_item (he : e.kind = 6) : Cu e N M item item := by
  refine cu_opt he _ (cu_bnd (cu_needs he _) fun _ => cu_ret _) ?_
  have key : ∀ (l : List Tok), (if agg (sign l) = 0 then bnd column (fun c => ret (⟨0, Ex.table c, Ex.name c⟩ : It)) l
      else bnd (needs [[40]]) (fun _ => bnd column fun c => bnd (needs [[41]]) fun _ => ret ⟨agg (sign l), Ex.table c, Ex.name c⟩) l.tail) = (aggO (now l)).elim (bnd column (fun c => ret (⟨0, Ex.table c, Ex.name c⟩ : It)) l) (fun a => bnd (needs [[40]]) (fun _ => bnd column fun c => bnd (needs [[41]]) fun _ => ret (⟨a, Ex.table c, Ex.name c⟩ : It)) l.tail) := fun l => by
    unfold aggO
    unfold sign
    by_cases h : agg (if wordy (now l) then (now l).text else []) = 0
    · rw [if_pos h, if_pos h]; rfl
    · rw [if_neg h, if_neg h]; rfl
  have hend : aggO e = none := by unfold aggO wordy; rw [he]; rfl
  have hg : ∀ {N M : Nat}, Cu e N M (bnd column (fun c => ret (⟨0, Ex.table c, Ex.name c⟩ : It))) (bnd column (fun c => ret (⟨0, Ex.table c, Ex.name c⟩ : It))) := cu_bnd (cu_column he) fun _ => cu_ret _
  refine Cu.pos ?_ fun h1 h2 => ?_
  · have e1 := key [e]
    rw [show now [e] = e from rfl, hend] at e1
    rcases (hg (N := 0) (M := 0)).oz with ⟨b, k⟩ | k
    · exact .inl ⟨b, e1.trans k⟩
    · exact .inr (e1.trans k)
  obtain ⟨N, rfl⟩ : ∃ k, N = k + 1 := ⟨N - 1, by omega⟩
  obtain ⟨M, rfl⟩ : ∃ k, M = k + 1 := ⟨M - 1, by omega⟩
  exact (cu_match aggO hend (fun _ => cu_bnd (cu_needs he _) fun _ => cu_bnd (cu_column he) fun _ => cu_bnd (cu_needs he _) fun _ => cu_ret _) hg).of key key
theorem cu_wheres (he : e.kind = 6) {n m : Nat} (hn : N ≤ n) (hm : M ≤ m) (d : Int) : Cu e N M (wheres n d) (wheres m d) := cu_opt he _ (cu_bnd (cu_expr he hn hm d) fun _ => cu_ret _) (cu_ret _)
theorem cu_joins (he : e.kind = 6) : Cu e N M joins joins := cu_opt he _ (cu_bnd (cu_name he) fun _ => cu_bnd (cu_needs he _) fun _ => cu_bnd (cu_column he) fun _ => cu_bnd (cu_needs he _) fun _ => cu_bnd (cu_column he) fun _ => cu_ret _) (cu_ret _)
theorem cu_desc (he : e.kind = 6) : Cu e N M desc desc := cu_opt he _ (cu_ret _) (cu_ret _)
theorem cu_orders (he : e.kind = 6) : Cu e N M orders orders := cu_opt he _ (cu_bnd (cu_needs he _) fun _ => cu_bnd (cu_column he) fun _ => cu_bnd (cu_desc he) fun _ => cu_ret _) (cu_ret _)
theorem cu_items (he : e.kind = 6) : Cu e N M items items := cu_opt he _ (cu_ret _) (cu_list he (cu_item he))
theorem cu_selects (he : e.kind = 6) {n m : Nat} (hn : N ≤ n) (hm : M ≤ m) (d : Int) : Cu e N M (selects n d) (selects m d) := cu_bnd (cu_items he) fun _ => cu_bnd (cu_needs he _) fun _ => cu_bnd (cu_name he) fun _ => cu_bnd (cu_joins he) fun _ => cu_bnd (cu_wheres he hn hm d) fun _ => cu_bnd (cu_orders he) fun _ => cu_ret _
theorem cu_inserts (he : e.kind = 6) {n m : Nat} (hn : N ≤ n) (hm : M ≤ m) (d : Int) : Cu e N M (inserts n d) (inserts m d) := cu_bnd (cu_needs he _) fun _ => cu_bnd (cu_name he) fun _ => cu_bnd (cu_needs he _) fun _ => cu_bnd (cu_list he (cu_expr he hn hm d)) fun _ => cu_bnd (cu_needs he _) fun _ => cu_ret _
theorem cu_updates (he : e.kind = 6) {n m : Nat} (hn : N ≤ n) (hm : M ≤ m) (d : Int) : Cu e N M (updates n d) (updates m d) := cu_bnd (cu_name he) fun _ => cu_bnd (cu_needs he _) fun _ => cu_bnd (cu_name he) fun _ => cu_bnd (cu_needs he _) fun _ => cu_bnd (cu_expr he hn hm d) fun _ => cu_bnd (cu_wheres he hn hm d) fun _ => cu_ret _
theorem cu_deletes (he : e.kind = 6) {n m : Nat} (hn : N ≤ n) (hm : M ≤ m) (d : Int) : Cu e N M (deletes n d) (deletes m d) := cu_bnd (cu_needs he _) fun _ => cu_bnd (cu_name he) fun _ => cu_bnd (cu_wheres he hn hm d) fun _ => cu_ret _
theorem cu_writes (he : e.kind = 6) {n m : Nat} (hn : N ≤ n) (hm : M ≤ m) (d : Int) {els els' : P St} (h : Cu e N M els els') : Cu e N M (writes n d els) (writes m d els') := cu_opt he _ (cu_inserts he hn hm d) (cu_opt he _ (cu_updates he hn hm d) (cu_opt he _ (cu_deletes he hn hm d) h))
theorem cu_door (he : e.kind = 6) (kind : Int) {inn inn' : P St} (h : Cu e N M inn inn') : Cu e N M (door kind inn) (door kind inn') := cu_bnd (cu_name he) fun _ => cu_bnd (cu_needs he _) fun _ => cu_bnd (cu_tags he) fun _ => cu_bnd (cu_needs he _) fun _ => cu_bnd h fun _ => cu_ret _
theorem cu_create (he : e.kind = 6) {n m : Nat} (hn : N ≤ n) (hm : M ≤ m) (d : Int) : Cu e N M (create n d) (create m d) :=
  cu_opt he _ (cu_bnd (cu_name he) fun _ => cu_bnd (cu_needs he _) fun _ => cu_bnd (cu_list he (cu_col he)) fun _ => cu_bnd (cu_needs he _) fun _ => cu_ret _)
    (cu_opt he _ (cu_bnd (cu_needs he _) fun _ => cu_bnd (cu_name he) fun _ => cu_bnd (cu_needs he _) fun _ => cu_bnd (cu_name he) fun _ => cu_bnd (cu_needs he _) fun _ => cu_ret _)
      (cu_opt he _ (cu_door he 3 (cu_opt he _ (cu_selects he hn hm d) cu_err)) (cu_opt he _ (cu_door he 4 (cu_writes he hn hm d cu_err)) cu_err)))
theorem cu_rest (he : e.kind = 6) : Cu e N M rest rest := cu_opt he _ (cu_bnd (cu_list he (cu_tag he)) fun _ => cu_ret _) (cu_opt he _ (cu_bnd (cu_name he) fun _ => cu_ret _) (cu_opt he _ (cu_ret _) (cu_opt he _ (cu_ret _) (cu_opt he _ (cu_ret _) cu_err))))
theorem cu_stmt (he : e.kind = 6) {n m : Nat} (hn : N ≤ n) (hm : M ≤ m) (d : Int) : Cu e N M (stmt n d) (stmt m d) :=
  cu_opt he _ (cu_create he hn hm d) (cu_opt he _ (cu_inserts he hn hm d) (cu_opt he _ (cu_selects he hn hm d) (cu_opt he _ (cu_updates he hn hm d) (cu_opt he _ (cu_deletes he hn hm d) (cu_rest he)))))
/-- a statement that is cut off is one, or none at its end -/
theorem cut_ok {T X : List Tok} {st : St} (he : e.kind = 6) (h : parseL (T ++ X) = .inr st) : (∃ st', parseL (T ++ [e]) = .inr st') ∨ parseL (T ++ [e]) = .inl ((e.pos : Int), 5) := by
  unfold parseL at h ⊢
  cases hs : stmt (T ++ X).length 0 (T ++ X) with
  | error x => rw [hs] at h; cases h
  | ok p =>
    obtain ⟨a, r⟩ := p
    rw [hs] at h
    have hk : (now r).kind = 6 := by
      by_cases hk : (now r).kind = 6
      · exact hk
      · unfold ends at h
        simp only [] at h
        rw [if_neg hk] at h
        cases h
    have hc := (cu_stmt (e := e) (N := (T ++ X).length) (M := T.length + 1) he (Nat.le_refl _) (show T.length + 1 ≤ (T ++ [e]).length by simp) 0).all T X a r (Nat.le_refl _) (Nat.le_refl _) hs
    rcases hc with ⟨R, hR, _, rfl, h4⟩ | ⟨a', h4⟩ | h4
    · rw [h4]
      cases R with
      | nil => exact absurd rfl hR
      | cons t R =>
        have hk : t.kind = 6 := hk
        exact .inl ⟨a, if_pos hk⟩
    · rw [h4]
      exact .inl ⟨a', if_pos he⟩
    · rw [h4]
      exact .inr rfl
end
end CM
end Go.Proofs.YtmdnhinpaflamaaDoor
namespace Go.Proofs.YtmdnhinpaflamaaDoor
open Go.RowKit
set_option linter.unusedVariables false
namespace CM
open LexM (Tok)
open PM (B Ex Col It St PS zeroTok wordy two un colEx opOr opAnd opSum opTerm opComp)
open Pc (Pc Line okName okText)

section
variable {α β : Type}
/-- deeper: the same, or too deep -/
def Dp (f : Int → P α) : Prop := ∀ d d' l, d ≤ d' → d' ≤ 64 → f d' l = f d l ∨ ∃ p, f d' l = .error (p, 6)
theorem dp_const (f : P α) : Dp (fun _ => f) := fun _ _ _ _ _ => .inl rfl
theorem dp_bnd {f : Int → P α} {g : α → Int → P β} (hf : Dp f) (hg : ∀ a, Dp (g a)) : Dp (fun d => bnd (f d) (fun a => g a d)) := fun d d' l h h6 => by
  rcases hf d d' l h h6 with e | ⟨p, e⟩
  · simp only [bnd]
    rw [e]
    cases f d l with
    | error x => exact .inl rfl
    | ok x => exact hg x.1 d d' x.2 h h6
  · refine .inr ⟨p, ?_⟩
    simp only [bnd]
    rw [e]
theorem dp_opt (w : B) {f g : Int → P α} (hf : Dp f) (hg : Dp g) : Dp (fun d => opt w (f d) (g d)) := fun d d' l h h6 => by
  simp only [opt]
  split
  · exact hf d d' _ h h6
  · exact hg d d' _ h h6
theorem dp_ite (p : List Tok → Prop) [DecidablePred p] {f g : Int → P α} (hf : Dp f) (hg : Dp g) : Dp (fun d l => if p l then f d l else g d l) := fun d d' l h h6 => by
  simp only []
  split
  · exact hf d d' _ h h6
  · exact hg d d' _ h h6
theorem dp_more {one : Int → P α} (h1 : Dp one) : ∀ (n : Nat) (acc : List α), Dp (fun d => more (one d) n acc)
  | 0, acc => dp_const _
  | n + 1, acc => dp_opt _ (dp_bnd h1 fun x => dp_more h1 n (acc ++ [x])) (dp_const (ret acc))
theorem dp_list {one : Int → P α} (h1 : Dp one) : Dp (fun d => list (one d)) := dp_bnd (g := fun x d l => more (one d) l.length [x] l) h1 fun x d d' l h h6 => dp_more h1 l.length [x] d d' l h h6
theorem dp_rowsF {one : Int → P Ex} (h1 : Dp one) (ops : B → Option Int) : ∀ (n : Nat) (x : Ex), Dp (fun d => rowsF (one d) ops n x)
  | 0, x => dp_const _
  | n + 1, x => fun d d' l h h6 => by
    simp only [rowsF]
    split
    · exact .inl rfl
    · exact dp_bnd h1 (fun y => dp_rowsF h1 ops n _) d d' _ h h6
theorem dp_rows {one : Int → P Ex} (h1 : Dp one) (ops : B → Option Int) : Dp (fun d => rows (one d) ops) := dp_bnd (g := fun x d l => rowsF (one d) ops l.length x l) h1 fun x d d' l h h6 => dp_rowsF h1 ops l.length x d d' l h h6
theorem dp_exprF {nt : Int → P Ex} (h : Dp nt) : Dp (fun d => exprF (nt d)) := dp_rows (dp_rows h _) _
theorem dp_sumF {u : Int → P Ex} (h : Dp u) : Dp (fun d => sumF (u d)) := dp_rows (dp_rows h _) _
theorem dp_compF {u : Int → P Ex} (h : Dp u) : Dp (fun d => compF (u d)) := by
  refine dp_bnd (g := fun x d l => match opComp (sign l) with | none => .ok (x, l) | some op => bnd (sumF (u d)) (fun y => ret (two op x y)) l.tail) (dp_sumF h) fun x d d' l h1 h6 => ?_
  simp only []
  split
  · exact .inl rfl
  · exact dp_bnd (dp_sumF h) (fun y => dp_const _) d d' _ h1 h6
theorem dp_nests (sg : B) {inn : Int → P Ex} (h : Dp inn) : Dp (nests sg inn) := fun d d' l h1 h6 => by
  unfold nests
  by_cases e : d' = 64
  · refine .inr ⟨((now l).pos : Int), ?_⟩
    rw [if_pos e]
    rfl
  · rw [if_neg e, if_neg (by omega)]
    simp only [bnd]
    cases need sg l with
    | error x => exact .inl rfl
    | ok x => exact h (d + 1) (d' + 1) x.2 (by omega) (by omega)
theorem dp_unaryF {u nt : Int → P Ex} (hu : Dp u) (hn : Dp nt) : Dp (unaryF u nt) :=
  dp_ite (fun l => is [45] l = true) (dp_nests _ (dp_bnd hu fun x => dp_const _))
    (dp_ite (fun l => is [40] l = true) (dp_nests _ (dp_bnd (dp_exprF hn) fun x => dp_const _)) (dp_const _))
theorem dp_notF {u nt : Int → P Ex} (hu : Dp u) (hn : Dp nt) : Dp (notF u nt) := dp_ite (fun l => is [110, 111, 116] l = true) (dp_nests _ (dp_bnd hn fun x => dp_const _)) (dp_compF hu)
theorem dp_lev : ∀ n, Dp (lev n).1 ∧ Dp (lev n).2
  | 0 => ⟨dp_const _, dp_const _⟩
  | n + 1 => ⟨dp_unaryF (dp_lev n).1 (dp_lev n).2, dp_notF (dp_unaryF (dp_lev n).1 (dp_lev n).2) (dp_lev n).2⟩
theorem dp_expr (n : Nat) : Dp (expr n) := dp_exprF (dp_lev n).2
theorem dp_wheres (n : Nat) : Dp (wheres n) := dp_opt _ (dp_bnd (dp_expr n) fun x => dp_const _) (dp_const _)
theorem dp_selects (n : Nat) : Dp (selects n) := dp_bnd (dp_const items) fun its => dp_bnd (dp_const _) fun _ => dp_bnd (dp_const name) fun t => dp_bnd (dp_const joins) fun j => dp_bnd (dp_wheres n) fun wh => dp_const _
theorem dp_inserts (n : Nat) : Dp (inserts n) := dp_bnd (dp_const _) fun _ => dp_bnd (dp_const name) fun t => dp_bnd (dp_const _) fun _ => dp_bnd (dp_list (dp_expr n)) fun vs => dp_const _
theorem dp_updates (n : Nat) : Dp (updates n) := dp_bnd (dp_const name) fun t => dp_bnd (dp_const _) fun _ => dp_bnd (dp_const name) fun m => dp_bnd (dp_const _) fun _ => dp_bnd (dp_expr n) fun x => dp_bnd (dp_wheres n) fun wh => dp_const _
theorem dp_deletes (n : Nat) : Dp (deletes n) := dp_bnd (dp_const _) fun _ => dp_bnd (dp_const name) fun t => dp_bnd (dp_wheres n) fun wh => dp_const _
theorem dp_writes (n : Nat) (els : P St) : Dp (fun d => writes n d els) := dp_opt _ (dp_inserts n) (dp_opt _ (dp_updates n) (dp_opt _ (dp_deletes n) (dp_const els)))
theorem dp_door (kind : Int) {inn : Int → P St} (h : Dp inn) : Dp (fun d => door kind (inn d)) := dp_bnd (dp_const name) fun m => dp_bnd (dp_const _) fun _ => dp_bnd (dp_const tags) fun ts => dp_bnd (dp_const _) fun _ => dp_bnd h fun st => dp_const _
theorem dp_create (n : Nat) : Dp (create n) := dp_opt _ (dp_const tables) (dp_opt _ (dp_const indexes) (dp_opt _ (dp_door 3 (dp_opt _ (dp_selects n) (dp_const _))) (dp_opt _ (dp_door 4 (dp_writes n _)) (dp_const _))))
theorem dp_stmt (n : Nat) : Dp (stmt n) := dp_opt _ (dp_create n) (dp_opt _ (dp_inserts n) (dp_opt _ (dp_selects n) (dp_opt _ (dp_updates n) (dp_opt _ (dp_deletes n) (dp_const rest)))))
end
/-- what is shown, however deep, is parsed as it was, or lies too deep -/
theorem parseL_deep {q : Qs} {D : Nat} (hD : 64 ≤ D) (ho : q.ok D = true) (p e : Nat) : parseL (Pc.toks p q.line ++ [⟨6, [], 0, e⟩]) = .inr q.st ∨ ∃ k, parseL (Pc.toks p q.line ++ [⟨6, [], 0, e⟩]) = .inl (k, 6) := by
  have h1 := stmt_ok (D := D) ho (Nat.le_refl _) (starts_toks q.line p [⟨6, [], 0, e⟩]) (end_tok e)
  unfold parseL
  rcases dp_stmt (Pc.toks p q.line ++ [(⟨6, [], 0, e⟩ : Tok)]).length (64 - (D : Int)) 0 (Pc.toks p q.line ++ [⟨6, [], 0, e⟩]) (by omega) (by omega) with h | ⟨k, h⟩
  · left
    rw [h, h1]
    rfl
  · right
    refine ⟨k, ?_⟩
    rw [h]
    rfl
/-- where it is not too deep -/
theorem parseL_keys {q : Qs} {L : Line} (ho : q.ok 64 = true) (hk : keys L = keys q.line) (p e : Nat) : parseL (Pc.toks p L ++ [⟨6, [], 0, e⟩]) = .inr q.st := by
  have h0 := starts_toks L p [⟨6, [], 0, e⟩]
  rw [hk] at h0
  have h1 := stmt_ok (D := 64) ho (Nat.le_refl _) h0 (end_tok e)
  unfold parseL
  rw [show (64 - ((64 : Nat) : Int)) = 0 from rfl] at h1
  rw [h1]
  rfl
/-- a bracket behind it is one too many -/
theorem parseL_close {q : Qs} {L : Line} (ho : q.ok 64 = true) (hk : keys L = keys q.line) (p k e : Nat) : parseL (Pc.toks p L ++ [⟨5, [41], 0, k⟩, ⟨6, [], 0, e⟩]) = .inl ((k : Int), 5) := by
  have h0 := starts_toks L p [⟨5, [41], 0, k⟩, ⟨6, [], 0, e⟩]
  rw [hk] at h0
  have h1 := stmt_ok (D := 64) ho (Nat.le_refl _) h0 (end_close k [⟨6, [], 0, e⟩])
  unfold parseL
  rw [show (64 - ((64 : Nat) : Int)) = 0 from rfl] at h1
  rw [h1]
  rfl
end CM
end Go.Proofs.YtmdnhinpaflamaaDoor
namespace Go.Proofs.YtmdnhinpaflamaaDoor
open Go.RowKit
set_option linter.unusedVariables false
set_option linter.unusedSimpArgs false
namespace CM
open LexM (Tok)
open PM (B Ex Col It St PS zeroTok wordy two un colEx opOr opAnd opSum opTerm opComp)
open Pc (Pc Line okName okText render toks blanks)

/-- so many spaces more ahead of each word -/
def wide (n : Nat) (L : Line) : Line := L.map fun x => (x.1 + n, x.2)
theorem keys_wide (n : Nat) (L : Line) : keys (wide n L) = keys L := by simp [keys, wide]
/-- the pieces from word to word, with so many spaces behind each -/
def spread (n : Nat) (S : B) : List Nat → B
  | a :: b :: r => (S.drop a).take (b - a) ++ blanks n ++ spread n S (b :: r)
  | _ => []
theorem blanks_add (a b : Nat) : blanks (a + b) = blanks a ++ blanks b := by simp [blanks, List.replicate_append_replicate]
theorem tok_pos (c : Pc) (q : Nat) : (c.tok q).pos = q := by cases c <;> rfl
theorem spread_line (S : B) (n : Nat) : ∀ (L : Line) (g : Nat) (c : Pc) (p : Nat), S.drop p = render ((g, c) :: L) → p ≤ S.length →
    blanks (g + n) ++ spread n S (((toks p ((g, c) :: L)).map (·.pos)) ++ [S.length]) = render (wide n ((g, c) :: L)) ++ blanks n
  | [], g, c, p, h, hp => by
    have h1 : S.drop (p + g) = c.bytes := by
      rw [← List.drop_drop, h]
      simp [render, blanks]
    have h2 : S.length - (p + g) = c.bytes.length := by rw [← h1]; simp
    simp only [toks, List.map_cons, List.map_nil, tok_pos, List.cons_append, List.nil_append, spread, h1, h2, List.take_length, wide, render, List.append_assoc]
    simp
  | (g', c') :: L, g, c, p, h, hp => by
    have h1 : S.drop (p + g) = c.bytes ++ render ((g', c') :: L) := by
      rw [← List.drop_drop, h]
      simp [render, blanks]
    have h3 : S.drop (p + g + c.bytes.length) = render ((g', c') :: L) := by rw [← List.drop_drop, h1, List.drop_left]
    have hl : p + g + c.bytes.length ≤ S.length := by
      have := congrArg List.length h
      simp [render, blanks] at this
      omega
    have ih := spread_line S n L g' c' (p + g + c.bytes.length) h3 hl
    have h4 : (S.drop (p + g)).take (p + g + c.bytes.length + g' - (p + g)) = c.bytes ++ blanks g' := by
      rw [h1, show p + g + c.bytes.length + g' - (p + g) = (c.bytes ++ blanks g').length by simp [blanks]; omega]
      simp only [render]
      rw [← List.append_assoc]
      exact List.take_left' rfl
    have h5 : spread n S (((toks p ((g, c) :: (g', c') :: L)).map (·.pos)) ++ [S.length]) = c.bytes ++ blanks g' ++ blanks n ++ spread n S (((toks (p + g + c.bytes.length) ((g', c') :: L)).map (·.pos)) ++ [S.length]) := by
      simp only [toks, List.map_cons, tok_pos, List.cons_append, spread, h4]
    rw [h5]
    have e1 : c.bytes ++ blanks g' ++ blanks n ++ spread n S (((toks (p + g + c.bytes.length) ((g', c') :: L)).map (·.pos)) ++ [S.length]) = c.bytes ++ (render (wide n ((g', c') :: L)) ++ blanks n) := by
      rw [← ih, blanks_add]
      simp only [List.append_assoc]
    rw [e1]
    simp [wide, render]

/-! ### one text, one statement -/
theorem noname : okName [] = false := by decide
theorem pr_inj : ∀ {p q : Pr}, p.ok = true → q.ok = true → p.ex = q.ex → p = q := by
  intro p
  induction p with
  | int v => intro q h1 h2 h; cases q <;> simp_all [Pr.ex, un, two, colEx]; all_goals omega
  | text t => intro q h1 h2 h; cases q <;> simp_all [Pr.ex, un, two, colEx]; all_goals omega
  | col n =>
    intro q h1 h2 h
    cases q <;> simp only [Pr.ex, un, two, colEx, Ex.mk.injEq] at h
    case col m => rw [h.2.2.2.2.2.1]
    case tcol t m =>
      rw [← h.2.2.2.2.1] at h2
      simp [Pr.ok, noname] at h2
    all_goals exact absurd h.1 (by omega)
  | tcol t n =>
    intro q h1 h2 h
    cases q <;> simp only [Pr.ex, un, two, colEx, Ex.mk.injEq] at h
    case col m =>
      rw [h.2.2.2.2.1] at h1
      simp [Pr.ok, noname] at h1
    case tcol t' m => rw [h.2.2.2.2.1, h.2.2.2.2.2.1]
    all_goals exact absurd h.1 (by omega)
  | neg a ih =>
    intro q h1 h2 h
    cases q <;> simp only [Pr.ex, un, two, colEx, Ex.mk.injEq] at h
    case neg b =>
      rw [ih (q := b) h1 h2 (List.cons.inj h.2.2.2.2.2.2).1]
    all_goals exact absurd h.1 (by omega)
  | not a ih =>
    intro q h1 h2 h
    cases q <;> simp only [Pr.ex, un, two, colEx, Ex.mk.injEq] at h
    case not b =>
      rw [ih (q := b) h1 h2 (List.cons.inj h.2.2.2.2.2.2).1]
    all_goals exact absurd h.1 (by omega)
  | bin o a b iha ihb =>
    intro q h1 h2 h
    cases q <;> simp only [Pr.ex, un, two, colEx, Ex.mk.injEq] at h
    case bin o' a' b' =>
      simp only [Pr.ok, Bool.and_eq_true] at h1 h2
      have e := List.cons.inj h.2.2.2.2.2.2
      rw [iha h1.1.2 h2.1.2 e.1, ihb h1.2 h2.2 (List.cons.inj e.2).1, show o = o' by omega]
    all_goals exact absurd h.1 (by omega)
theorem map_inj {α β : Type} {f : α → β} {p : α → Bool} (h : ∀ {a b}, p a = true → p b = true → f a = f b → a = b) : ∀ {l m : List α}, l.all p = true → m.all p = true → l.map f = m.map f → l = m
  | [], [], _, _, _ => rfl
  | [], _ :: _, _, _, e => by cases e
  | _ :: _, [], _, _, e => by cases e
  | a :: l, b :: m, h1, h2, e => by
    simp only [List.all_cons, Bool.and_eq_true] at h1 h2
    simp only [List.map_cons, List.cons.injEq] at e
    rw [h h1.1 h2.1 e.1, map_inj h h1.2 h2.2 e.2]
theorem cl_inj {a b : Cl} (h : a.ex = b.ex) : a = b := by
  cases a
  cases b
  simp only [Cl.ex, colEx, Ex.mk.injEq] at h
  rw [h.2.2.2.2.1, h.2.2.2.2.2.1]
theorem im_inj {a b : Im} (h1 : a.ok = true) (h2 : b.ok = true) (h : a.it = b.it) : a = b := by
  cases a with
  | col c => cases b with
    | col d => obtain ⟨t, n⟩ := c; obtain ⟨t', n'⟩ := d; simp only [Im.it, It.mk.injEq] at h; rw [h.2.1, h.2.2]
    | count => simp [Im.it] at h
    | agg k d => simp only [Im.it, It.mk.injEq] at h; exact absurd h.1 (by omega)
  | count => cases b with
    | col d => simp [Im.it] at h
    | count => rfl
    | agg k d => simp only [Im.it, It.mk.injEq] at h; exact absurd h.1 (by omega)
  | agg k c => cases b with
    | col d => simp only [Im.it, It.mk.injEq] at h; exact absurd h.1 (by omega)
    | count => simp only [Im.it, It.mk.injEq] at h; exact absurd h.1 (by omega)
    | agg k' d => obtain ⟨t, n⟩ := c; obtain ⟨t', n'⟩ := d; simp only [Im.it, It.mk.injEq] at h; rw [h.2.1, h.2.2, show k = k' by omega]
theorem co_inj {a b : Co} (h : a.col = b.col) : a = b := by
  obtain ⟨n, t, r⟩ := a
  obtain ⟨n', t', r'⟩ := b
  simp only [Co.col, Col.mk.injEq] at h
  obtain ⟨rfl, h, rfl⟩ := h
  cases t <;> cases t' <;> simp at h <;> rfl
theorem wh_inj {D : Nat} {a b : Option Pr} (h1 : okW D a = true) (h2 : okW D b = true) (h : whE a = whE b) : a = b := by
  cases a with
  | none => cases b with
    | none => rfl
    | some y => cases h
  | some x => cases b with
    | none => cases h
    | some y => rw [pr_inj (okPr_ok h1) (okPr_ok h2) (List.cons.inj h).1]
theorem jn_inj {a b : Option (B × Cl × Cl)} (h1 : joinN a = joinN b) (h2 : joinE a = joinE b) : a = b := by
  cases a with
  | none => cases b with
    | none => rfl
    | some y => cases h2
  | some x => cases b with
    | none => cases h2
    | some y =>
      obtain ⟨j, c, d⟩ := x
      obtain ⟨j', c', d'⟩ := y
      simp only [joinN, joinE] at h1 h2
      have e := List.cons.inj h2
      rw [h1, cl_inj e.1, cl_inj (List.cons.inj e.2).1]
theorem or_inj {a b : Option (Cl × Bool)} (h1 : orderE a = orderE b) (h2 : orderD a = orderD b) : a = b := by
  cases a with
  | none => cases b with
    | none => rfl
    | some y => cases h1
  | some x => cases b with
    | none => cases h1
    | some y =>
      obtain ⟨c, d⟩ := x
      obtain ⟨c', d'⟩ := y
      simp only [orderE, orderD] at h1 h2
      rw [h2, cl_inj (List.cons.inj h1).1]
theorem sel_inj {D : Nat} {a b : Sel} (h1 : a.ok D = true) (h2 : b.ok D = true) (h : a.st = b.st) : a = b := by
  obtain ⟨its, t, j, wh, o⟩ := a
  obtain ⟨its', t', j', wh', o'⟩ := b
  simp only [Sel.ok, Bool.and_eq_true] at h1 h2
  simp only [Sel.st, St.mk.injEq] at h
  obtain ⟨_, rfl, _, _, _, _, e1, e2, e3, e4, e5, e6, _⟩ := h
  rw [map_inj im_inj h1.1.1.1.1 h2.1.1.1.1 e1, jn_inj e2 e3, wh_inj h1.1.2 h2.1.2 e4, or_inj e5 e6]
theorem wr_inj {D : Nat} {a b : Wr} (h1 : a.ok D = true) (h2 : b.ok D = true) (h : a.st = b.st) : a = b := by
  cases a <;> cases b <;> simp only [Wr.st, St.mk.injEq] at h <;> first | exact absurd h.1 (by decide) | skip
  · rename_i t x r t' x' r'
    obtain ⟨_, rfl, _, _, _, e, _⟩ := h
    simp only [Wr.ok, Bool.and_eq_true] at h1 h2
    have e := List.cons.inj e
    rw [pr_inj (okPr_ok h1.1.2) (okPr_ok h2.1.2) e.1, map_inj (p := okPr D) (fun a b => pr_inj (okPr_ok a) (okPr_ok b)) h1.2 h2.2 e.2]
  · rename_i t m x wh t' m' x' wh'
    obtain ⟨_, rfl, rfl, _, _, e, _, _, _, e2, _⟩ := h
    simp only [Wr.ok, Bool.and_eq_true] at h1 h2
    rw [pr_inj (okPr_ok h1.1.2) (okPr_ok h2.1.2) (List.cons.inj e).1, wh_inj h1.2 h2.2 e2]
  · rename_i t wh t' wh'
    obtain ⟨_, rfl, _, _, _, _, _, _, _, e2, _⟩ := h
    simp only [Wr.ok, Bool.and_eq_true] at h1 h2
    rw [wh_inj h1.2 h2.2 e2]
theorem tag_inj {a b : Nat} (h : tagI a = tagI b) : a = b := by unfold tagI at h; omega
theorem sel_kind (s : Sel) : ∃ t its j on wh o d, s.st = .mk 6 t [] [] [] [] its j on wh o d [] := ⟨_, _, _, _, _, _, _, rfl⟩
def St.kind : St → Int | .mk k _ _ _ _ _ _ _ _ _ _ _ _ => k
/-- one statement is shown one way -/
theorem qs_inj {D : Nat} {a b : Qs} (h1 : a.ok D = true) (h2 : b.ok D = true) (h : a.st = b.st) : a = b := by
  cases a <;> cases b
  case table.table m c r m' c' r' =>
    simp only [Qs.st, St.mk.injEq] at h
    obtain ⟨_, _, rfl, e, _⟩ := h
    have e := List.cons.inj e
    simp only [Qs.ok, Bool.and_eq_true] at h1 h2
    rw [co_inj e.1, map_inj (p := Co.ok) (fun _ _ h => co_inj h) h1.2 h2.2 e.2]
  case index.index => simp only [Qs.st, St.mk.injEq] at h; obtain ⟨_, rfl, rfl, _⟩ := h; rfl
  case view.view m ts s m' ts' s' =>
    simp only [Qs.st, doorSt, St.mk.injEq] at h
    obtain ⟨_, _, rfl, _, e, _, _, _, _, _, _, _, e2⟩ := h
    simp only [Qs.ok, Bool.and_eq_true] at h1 h2
    rw [map_inj (p := okTag) (fun _ _ h => tag_inj h) h1.1.2 h2.1.2 e, sel_inj h1.2 h2.2 (List.cons.inj e2).1]
  case closure.closure m ts s m' ts' s' =>
    simp only [Qs.st, doorSt, St.mk.injEq] at h
    obtain ⟨_, _, rfl, _, e, _, _, _, _, _, _, _, e2⟩ := h
    simp only [Qs.ok, Bool.and_eq_true] at h1 h2
    rw [map_inj (p := okTag) (fun _ _ h => tag_inj h) h1.1.2 h2.1.2 e, wr_inj h1.2 h2.2 (List.cons.inj e2).1]
  case select.select s s' => rw [sel_inj h1 h2 h]
  case write.write s s' => rw [wr_inj h1 h2 h]
  case plain.plain k k' => simp only [Qs.st, St.ofKind, St.mk.injEq] at h; rw [show k = k' by omega]
  case raise.raise t r t' r' =>
    simp only [Qs.st, St.mk.injEq] at h
    have e := List.cons.inj h.2.2.2.2.1
    simp only [Qs.ok, Bool.and_eq_true] at h1 h2
    rw [tag_inj e.1, map_inj (p := okTag) (fun _ _ h => tag_inj h) h1.2 h2.2 e.2]
  case call.call => simp only [Qs.st, St.mk.injEq] at h; obtain ⟨_, _, rfl, _⟩ := h; rfl
  all_goals
    exfalso
    have hk := congrArg St.kind h
    simp only [Qs.ok, decide_eq_true_eq] at h1 h2
    first
    | (simp only [Qs.st, doorSt, Sel.st, St.ofKind, St.kind] at hk; omega)
    | (rename_i s _ _ _; cases s <;> simp only [Qs.st, Wr.st, doorSt, Sel.st, St.ofKind, St.kind] at hk <;> omega)
    | (rename_i s _ _; cases s <;> simp only [Qs.st, Wr.st, doorSt, Sel.st, St.ofKind, St.kind] at hk <;> omega)
    | (rename_i s _; cases s <;> simp only [Qs.st, Wr.st, doorSt, Sel.st, St.ofKind, St.kind] at hk <;> omega)
    | (rename_i s; cases s <;> simp only [Qs.st, Wr.st, doorSt, Sel.st, St.ofKind, St.kind] at hk <;> omega)
    | trace_state
end CM
end Go.Proofs.YtmdnhinpaflamaaDoor
