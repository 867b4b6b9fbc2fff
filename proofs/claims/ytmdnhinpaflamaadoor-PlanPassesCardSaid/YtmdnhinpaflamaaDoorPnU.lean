/- The document's Eval, of any expression that is shown; Holds. -/
import Derived.Test.YtmdnhinpaflamaaDoorPnT
namespace Go.Proofs.YtmdnhinpaflamaaDoor
open Go.RowKit
set_option linter.unusedVariables false
set_option linter.unusedSimpArgs false
namespace Pn
open PM (Ex B Col It)
open CM (Pr)
open Gn (put3 frPut3 blkPut3 c3_of)
open Px (ItS itC)
theorem e_inv {A : Nat → Prop} {w : World} {op kind int : Int} {text table name : B} {args : List Ex} {cs : List Value} (h : Rep.E 41 A w (.mk op kind int text table name args) cs) : ∃ (a : Option Addr) (n c : Nat),
    cs = [.int .i64 op, .int .i64 kind, .int .i64 int, .string ⟨text.toArray⟩, .string ⟨table.toArray⟩, .string ⟨name.toArray⟩, .slice a n c] ∧ Rep.Es 41 A w args (.slice a n c) := by
  obtain ⟨_, _, _, _, _, _, _, a, n, c, hx, rfl, hes⟩ := Sm.e_cells h
  cases hx
  exact ⟨a, n, c, rfl, hes⟩
theorem EvA.keep {vc vv : Value} {w W : World} {x : Ex} {P : Int → Int → B → Int → Prop} (h : EvA vc vv w x P) (hW : Fr [] w W) : EvA vc vv W x P := fun A W' cs hf hr => h A W' cs (hW.trans hf) hr
abbrev AnyP : Int → Int → B → Int → Prop := fun _ i t _ => Fine i t
theorem eval_any (A1 A2 : Nat → Prop) (vc vv : Value) (l : List It) (vals : List (Int × Int × B)) (hvl : vals.length ≤ l.length) (hl : l.length ≤ 20) (hfine : ∀ v ∈ vals, Fine v.2.1 v.2.2) (w : World) (hc : ItS A1 w vc l) (hv : ValS A2 w vv vals) : ∀ p : Pr, p.ok = true → EvA vc vv w p.ex AnyP
  | .int v, h => fun A W cs hf hr => by
    obtain ⟨a, n, c, rfl, -⟩ := e_inv hr
    refine (ev_lit vc vv 1 v [] [] [] a n c W).mono fun e w' ⟨h1, h2⟩ => ⟨h1.mono ?_, h2⟩
    rintro k i t x ⟨rfl, rfl, rfl, rfl⟩
    have hv : v ≤ 9223372036854775807 := by simpa [Pr.ok] using h
    exact ⟨ok_iff.2 (by omega), Nat.zero_le _⟩
  | .text z, h => fun A W cs hf hr => by
    obtain ⟨a, n, c, rfl, -⟩ := e_inv hr
    refine (ev_lit vc vv 2 0 z [] [] a n c W).mono fun e w' ⟨h1, h2⟩ => ⟨h1.mono ?_, h2⟩
    rintro k i t x ⟨rfl, rfl, rfl, rfl⟩
    have h2 : Pc.okText t = true := h
    simp only [Pc.okText, Bool.and_eq_true, decide_eq_true_eq] at h2
    exact ⟨by decide, by omega⟩
  | .col n, h => fun A W cs hf hr => col_any [] n A W cs hf hr
  | .tcol t n, h => fun A W cs hf hr => col_any t n A W cs hf hr
  | .neg p, h => fun A W cs hf hr => by
    obtain ⟨a, n, c, rfl, hes⟩ := e_inv hr
    exact ev_neg vc vv 0 0 [] [] [] p.ex a n c A W hes ((eval_any A1 A2 vc vv l vals hvl hl hfine w hc hv p h).keep hf)
  | .not p, h => fun A W cs hf hr => by
    obtain ⟨a, n, c, rfl, hes⟩ := e_inv hr
    exact ev_not vc vv 0 0 [] [] [] p.ex a n c A W hes ((eval_any A1 A2 vc vv l vals hvl hl hfine w hc hv p h).keep hf)
  | .bin o p q, h => fun A W cs hf hr => by
    obtain ⟨a, n, c, rfl, hes⟩ := e_inv hr
    have ho : o < 11 ∧ p.ok = true ∧ q.ok = true := by simp only [Pr.ok, Bool.and_eq_true, decide_eq_true_eq] at h; exact ⟨h.1.1, h.1.2, h.2⟩
    have hp := (eval_any A1 A2 vc vv l vals hvl hl hfine w hc hv p ho.2.1).keep hf
    have hq := (eval_any A1 A2 vc vv l vals hvl hl hfine w hc hv q ho.2.2).keep hf
    by_cases h9 : o = 9
    · subst h9
      exact (ev_and vc vv AnyP AnyP (fun _ _ _ _ h => h) (fun _ _ _ _ h => h) 0 0 [] [] [] p.ex q.ex a n c A W hes hp hq).mono fun e w' ⟨h1, h2⟩ => ⟨h1.mono fun _ _ _ _ h => h.1, h2⟩
    by_cases h10 : o = 10
    · subst h10
      exact (ev_or vc vv AnyP AnyP (fun _ _ _ _ h => h) (fun _ _ _ _ h => h) 0 0 [] [] [] p.ex q.ex a n c A W hes hp hq).mono fun e w' ⟨h1, h2⟩ => ⟨h1.mono fun _ _ _ _ h => h.1, h2⟩
    · exact (ev_bin vc vv AnyP AnyP (fun _ _ _ _ h => h) (fun _ _ _ _ h => h) (5 + o) 0 0 [] [] [] p.ex q.ex a n c (by omega) (by omega) A W hes hp hq).mono fun e w' ⟨h1, h2⟩ => ⟨h1.mono fun _ _ _ _ h => h.1, h2⟩
where
  col_any (tb nm : B) : EvA vc vv w (PM.colEx tb nm) AnyP := fun A W cs hf hr => by
    obtain ⟨a, n, c, rfl, -⟩ := e_inv hr
    refine (ev_col _ _ vc vv l vals hvl hl 0 0 [] tb nm a n c W (Px.FlatS.keep hf (by simp) hc) (Px.FlatS.keep hf (by simp) hv)).mono fun e w' ⟨h1, h2⟩ => ⟨h1.mono ?_, h2⟩
    rintro k i t x ⟨h1, h2⟩
    by_cases h0 : (atF ((l.take vals.length).map (mt tb nm)) 0 (-1)).2 = 0
    · obtain ⟨_, hk, he⟩ := h1 h0
      have := hfine _ (List.getElem_mem hk)
      rw [← he] at this
      exact this
    · obtain ⟨_, rfl, rfl⟩ := h2 h0
      exact ⟨by decide, Nat.zero_le _⟩
/-- what Holds returns -/
structure HoR (P : Int → Int → B → Int → Prop) (e : Ending) : Prop where
  ex : ∃ (k i : Int) (t : B) (er : Int) (b : Bool), e = .returned (.tuple #[.bool b, .int .i64 er]) ∧ P k i t er ∧ (b = true ↔ er = 0 ∧ i = 1)
set_option maxRecDepth 1000000 in
set_option maxHeartbeats 4000000 in
/-- Holds -/
theorem holds_any (vc vv v : Value) (x : Ex) (P : Int → Int → B → Int → Prop) (A : Nat → Prop) (w : World) (hE : Rep.Es 41 A w [x] v) (hx : EvA vc vv w x P) :
    Calls Tryd.prog 18 #[vc, vv, v] w fun e w' => HoR P e ∧ Fr [] w w' := by
  obtain ⟨g, off, cap, ys, rfl, hcap, -, hy, hc⟩ := Rep.Es.at hE 0 (by simp)
  simp only [List.getElem_cons_zero, List.length_cons, List.length_nil, Nat.zero_add] at hy hcap ⊢
  have HX := Lib.hid (hx A w ys (Fr.refl [] w) hy)
  obtain ⟨xo, xk, xi, xz, xt, xm, xg, xa, xn, xc, hxx, rfl, -⟩ := Sm.e_cells hy
  have hgl : g < w.heap.size := World.block_lt_of_cell? w _ (hc 0 _ rfl)
  have z0 := hc 0 _ rfl
  have z1 := hc 1 _ rfl
  have z2 := hc 2 _ rfl
  have z3 := hc 3 _ rfl
  have z4 := hc 4 _ rfl
  have z5 := hc 5 _ rfl
  have z6 := hc 6 _ rfl
  simp only [Nat.zero_mul, Nat.add_zero] at z0 z1 z2 z3 z4 z5 z6
  have hcp : (1 : Int) ≤ cap := by omega
  clear hE hx hy hc hxx hcap
  go_enter Tryd.func18, Tryd.ntmps18
  go_wp2_with fail
  refine HX.out.mono ?_
  rintro e w1 ⟨he, hf1⟩
  obtain ⟨k, i, t, er, rfl, hp⟩ := he.ex
  have HP := Lib.hid hp
  have HF1 := Lib.hid (hf1.alloc (.cells #[.int .i64 k, .int .i64 i, .string ⟨t.toArray⟩] 38))
  clear he hp hf1 z0 z1 z2 z3 z4 z5 z6
  by_cases her : er = 0
  · subst her
    by_cases hi : i = 1
    · subst hi
      go_wp2_with fail
      go_ret2
      exact ⟨⟨k, 1, t, 0, true, rfl, HP.out, by simp⟩, HF1.out⟩
    · go_wp2_with fail
      go_ret2
      exact ⟨⟨k, i, t, 0, _, rfl, HP.out, by simp⟩, HF1.out⟩
  · go_wp2_with fail
    go_ret2
    exact ⟨⟨k, i, t, er, false, rfl, HP.out, by simp [her]⟩, HF1.out⟩
end Pn
end Go.Proofs.YtmdnhinpaflamaaDoor
