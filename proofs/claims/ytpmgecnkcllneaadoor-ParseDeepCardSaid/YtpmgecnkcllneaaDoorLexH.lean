/- lex: Lex. -/
import Derived.Test.YtpmgecnkcllneaaDoorLexG
namespace Go.Proofs.YtpmgecnkcllneaaDoor
open Go.RowKit

namespace Lx
open LexM (Tok)

/-- a word's cells -/
def tokC (t : Tok) : List Value := [.int .i64 t.kind, .string ⟨t.text.toArray⟩, .int .i64 t.int, .int .i64 t.pos]
def toksC (l : List Tok) : List Value := l.flatMap tokC
theorem toksC_length (l : List Tok) : (toksC l).length = l.length * 4 := by
  induction l with
  | nil => rfl
  | cons t r ih => simp only [toksC, List.flatMap_cons, List.length_append, List.length_cons] at *; rw [ih]; simp [tokC]; omega
theorem toksC_snoc (l : List Tok) (t : Tok) : toksC (l ++ [t]) = toksC l ++ tokC t := by simp [toksC]

theorem infoT : (Tryd.prog.info? 67).map (fun i => (i.zero, i.size, i.bytes)) = some (some (tokA 0 [] 0 0), 4, 40) := by kernel_rfl

/-- what the loop keeps -/
def LxI (w : World) (S : List UInt8) (v : Value) (wr : World) : Prop :=
  ∃ (p : Nat) (acc : List Tok), p ≤ S.length ∧ acc.length ≤ p ∧ Hid (LS S 0 = pre acc (LS S p)) ∧ Rd wr w.heap.size S p ∧ Row wr 67 4 v acc.length (toksC acc) ∧ (v.ownBlock = none ∨ ∃ k, w.heap.size < k ∧ v.ownBlock = some k) ∧ Fr [] w wr

/-- what Lex returns -/
def LxR (w w' : World) (e : Ending) : (Nat × Int) ⊕ List Tok → Prop
  | .inl (q, x) => e = .returned (.tuple #[.slice none 0 0, .int .i64 q, .int .i64 x]) ∧ Fr [] w w'
  | .inr l => ∃ v, e = .returned (.tuple #[v, .int .i64 0, .int .i64 0]) ∧ Row w' 67 4 v l.length (toksC l) ∧ (v.ownBlock = none ∨ ∃ k, w.heap.size < k ∧ v.ownBlock = some k) ∧ Fr [] w w'

theorem four_new (w : World) (E : TypeId) (l : List Value) (j : Nat) (u : Value) (h : l[j]? = some u) : (w.alloc (.cells l.toArray E)).cell? ((⟨w.heap.size, 0, none⟩ : Addr).add j) = some u := by
  rw [Addr.add_lit, Nat.zero_add]
  exact ((Blk.new w E l).cell j).trans h
theorem four_new2 (w : World) (o : Obj) (E : TypeId) (l : List Value) (j : Nat) (u : Value) (h : l[j]? = some u) : ((w.alloc o).alloc (.cells l.toArray E)).cell? ((⟨w.heap.size + 1, 0, none⟩ : Addr).add j) = some u := by
  have := four_new (w.alloc o) E l j u h
  rwa [show (w.alloc o).heap.size = w.heap.size + 1 by simp] at this
theorem one_tok (t : Tok) : ∀ u ∈ tokC t, u.oneCell' = true := by simp [tokC, Value.oneCell']
theorem lim {n : Nat} (h : n ≤ 1000000) : n + 1 ≤ maxLen ∧ (n + 1) * 40 ≤ 140737488355328 := by unfold maxLen; omega
theorem own_not {v : Value} {n : Nat} (h : v.ownBlock = none ∨ ∃ k, n < k ∧ v.ownBlock = some k) : ∀ k, v.ownBlock = some k → some k ∉ [some n] := by
  intro k hk
  rcases h with h | ⟨k2, hk2, h⟩ <;> rw [h] at hk <;> simp at hk
  simp; omega
theorem own_not' {v : Value} {n : Nat} (h : v.ownBlock = none ∨ ∃ k, n < k ∧ v.ownBlock = some k) : some n ∉ [v.ownBlock] := by
  rcases h with h | ⟨k, hk, h⟩ <;> rw [h] <;> simp
  omega
theorem own_behind {v v' : Value} {n z : Nat} (h : v.ownBlock = none ∨ ∃ k, n < k ∧ v.ownBlock = some k) (hb : v'.ownBlock = v.ownBlock ∨ ∃ k, z ≤ k ∧ v'.ownBlock = some k) (hz : n < z) : v'.ownBlock = none ∨ ∃ k, n < k ∧ v'.ownBlock = some k := by
  rcases hb with h1 | ⟨k, hk, h1⟩
  · rw [h1]; exact h
  · exact .inr ⟨k, by omega, h1⟩
theorem own_fr {v : Value} {w w1 w' : World} (hF : Fr [] w w1) (hf : Fr [v.ownBlock] w1 w') (h : v.ownBlock = none ∨ ∃ k, w.heap.size < k ∧ v.ownBlock = some k) : Fr [] w w' :=
  hF.trans' hf (by
    intro i hi
    rcases h with h | ⟨k, hk, h⟩ <;> rw [h] at hi <;> simp at hi
    exact .inr (by omega))

theorem LxI.step {w wa w' : World} {S : List UInt8} {q r z : Nat} {acc : List Tok} {t : Tok} {v v' : Value} (hX : LS S 0 = pre acc (LS S q)) (hlt : q < S.length) (hne : at0 S q ≠ 32) (ht : LexM.tok1 q (S.drop q) = .inr (t, r)) (hacc : acc.length ≤ q)
    (hR : Rd wa w.heap.size S r) (hown : v.ownBlock = none ∨ ∃ k, w.heap.size < k ∧ v.ownBlock = some k) (hF : Fr [] w wa) (hz : w.heap.size < z)
    (hr' : Row w' 67 4 v' (acc.length + 1) (toksC acc ++ tokC t)) (hf' : Fr [v.ownBlock] wa w') (hb' : v'.ownBlock = v.ownBlock ∨ ∃ k, z ≤ k ∧ v'.ownBlock = some k) : LxI w S v' w' ∧ meaQ w.heap.size S w' = S.length + 1 - r := by
  obtain ⟨h1, h2, _⟩ := tok_range hlt ht
  have hR' : Rd w' w.heap.size S r := hR.keep hf' (own_not' hown)
  refine ⟨⟨r, acc ++ [t], h2, by rw [List.length_append]; simp only [List.length_cons, List.length_nil]; omega, by rw [Hid, hX]; exact pre_tok acc hlt hne ht, hR', ?_, own_behind hown hb' hz, own_fr hF hf' hown⟩, ?_⟩
  · rw [List.length_append, toksC_snoc]; exact hr'
  · rw [meaQ_eq hR'.c1]; simp

set_option maxRecDepth 100000 in
set_option maxHeartbeats 2000000 in
theorem lex_any (S : List UInt8) (w : World) (m : Int) (hm : w.cell? ⟨0, 0, none⟩ = some (.int .i64 m)) (h00 : 0 < w.heap.size) (hS : S.length ≤ 1000000) :
    Calls Tryd.prog 16 #[.string ⟨S.toArray⟩] w fun e w' => LxR w w' e (LexM.lex S) := by
  have HM := Lib.hid hm
  have HS := Lib.hid hS
  clear hm hS
  by_cases h400 : 400 < S.length
  · have h4' : (400 : Int) < (S.length : Int) := by omega
    have HL : Hid (LexM.lex S = .inl (0, 7)) := if_pos h400
    clear h400
    go_enter Tryd.func16, Tryd.ntmps16
    go_wp2_with fail
    go_ret3
    rw [HL.out]
    exact ⟨rfl, Fr.refl _ _⟩
  have h4' : (S.length : Int) ≤ 400 := by omega
  have HL : Hid (LexM.lex S = LS S 0) := if_neg h400
  obtain ⟨i0, hi, hz0, hz1, hz2⟩ := info_parts infoT
  clear h400
  go_enter Tryd.func16, Tryd.ntmps16
  go_wp2_with fail
  go_loopw [2] (fun v wr => LxI w S v wr) (fun _ wr => meaQ w.heap.size S wr)
  case atStart =>
    exact ⟨0, [], Nat.zero_le _, Nat.le_refl _, pre_nil _, Blk.new w 85 [.string ⟨S.toArray⟩, .int .i64 0], Row.nil _ _ _, .inl rfl, (Fr.refl [] w).alloc _⟩
  case round =>
    obtain ⟨p, acc, hp, hacc, HX, hr, hrow, hown, hfr⟩ := hrel
    have HR := Lib.hid hr
    have HROW := Lib.hid hrow
    have HF := Lib.hid hfr
    have HOWN := Lib.hid hown
    have HMEA := Lib.hid (meaQ_eq (S := S) hr.c1)
    clear hr hrow hfr hown
    go_wp2_with fail
    refine (while_any 28 blank (fun v w => by kernel_rfl) blank_any w.heap.size S p wr HR.out HS.out hp).mono ?_
    rintro e w1 ⟨rfl, hr1, hf1⟩
    obtain ⟨b1, b2, b3⟩ := LS_blanks S _ p hp rfl
    obtain ⟨q, hq⟩ : ∃ q, p + ((S.drop p).takeWhile blank).length = q := ⟨_, rfl⟩
    have hpq : p ≤ q := by omega
    rw [hq] at hr1 b1 b2 b3
    rw [b1] at HX
    have h1 := hr1.c1
    have HR1 := Lib.hid hr1
    have HB3 := Lib.hid b3
    have HROW1 := Lib.hid (HROW.out.keep hf1 (own_not HOWN.out))
    have HF1 : Hid (Fr [] w w1) := HF.out.trans' hf1 (by simp)
    have HF1s := Lib.hid HF1.out.size
    have HR1l := Lib.hid hr1.lt
    have hlim := lim (Nat.le_trans hacc (Nat.le_trans hp HS.out))
    obtain ⟨hmx, hby⟩ := hlim
    clear hr1 hf1 b1 b3 hq
    by_cases hend : q = S.length
    · subst hend
      have heq : ((S.length : Int) == (S.length : Int)) = true := by simp
      go_wp2_with (at_builtin; refine wpList_append_row rfl _ _ 59 rfl 67 i0 (tokA 0 [] 0 0) 4 40 Tryd.underlying59 hi hz0 hz1 hz2 rfl (by decide) u2 acc.length (toksC acc) rfl (HROW1.out.keep ((Fr.refl [] _).alloc _) (by simp)) ⟨w1.heap.size, 0, none⟩ 1 1 (tokC ⟨6, [], 0, S.length⟩) rfl rfl ?c1 (one_tok _) hmx hby ?_)
      case c1 => exact four_new _ _ _
      intro v' w' hr' hf' hb'
      clear heq
      have HR' := Lib.hid hr'
      have HF' := Lib.hid (own_fr (HF1.out.alloc _) hf' HOWN.out)
      have HB' := Lib.hid (own_behind HOWN.out hb' (Nat.lt_succ_of_lt HR1l.out))
      clear hr' hf' hb'
      go_wp2_with fail
      go_ret3
      rw [HL.out, HX.out, pre_end]
      refine ⟨v', rfl, ?_, HB'.out, HF'.out⟩
      rw [List.length_append, toksC_snoc]
      exact HR'.out
    · have hlt : q < S.length := by omega
      have hne : ((q : Int) == (S.length : Int)) = false := by simp; omega
      clear hend
      have HM1 : Hid (w1.cell? ⟨0, 0, none⟩ = some (.int .i64 m)) := (HF1.out.cell h00 (by simp)).trans HM.out
      have HTK := Lib.hid (token_any w.heap.size S q w1 m HM1.out (Nat.lt_of_lt_of_le h00 HF1s.out) (Nat.ne_of_gt h00) HR1.out HS.out hlt)
      go_wp2_with fail
      refine HTK.out.mono ?_
      rintro e w2 ⟨rfl, ha, hf2⟩
      have HA := Lib.hid ha
      have HROW2 := Lib.hid (HROW1.out.keep hf2 (own_not HOWN.out))
      have HF2 : Hid (Fr [] w w2) := HF1.out.trans' hf2 (by simp)
      clear ha hf2 hne
      rcases hX : LexM.tok1 q (S.drop q) with ⟨r, x⟩ | ⟨t, r⟩
      · rw [hX] at HA
        have hx0 : (x != 0) = true := by simpa using tok_err hlt hX
        have HT := Lib.hid hX
        clear hX
        simp only [tokR, tokA]
        go_wp2_with fail
        go_ret3
        rw [HL.out, HX.out, pre_bad acc hlt (HB3.out hlt) HT.out]
        exact ⟨rfl, HF2.out.alloc _⟩
      · rw [hX] at HA
        have HT := Lib.hid hX
        clear hX
        simp only [tokR, tokV, tokA]
        go_wp2_with (at_builtin; refine wpList_append_row rfl _ _ 59 rfl 67 i0 (tokA 0 [] 0 0) 4 40 Tryd.underlying59 hi hz0 hz1 hz2 rfl (by decide) u2 acc.length (toksC acc) rfl ?c0 ⟨w2.heap.size + 1, 0, none⟩ 1 1 (tokC t) rfl rfl ?c1 (one_tok _) hmx hby ?_)
        case c0 => exact (HROW2.out.keep ((Fr.refl [] _).alloc _) (by simp)).keep ((Fr.refl [] _).alloc _) (by simp)
        case c1 => exact four_new2 _ _ _ _
        intro v' w' hr' hf' hb'
        have hA : Rd w2 w.heap.size S r := HA.out
        have hsz : w.heap.size < w2.heap.size := hA.lt
        obtain ⟨st1, st2⟩ := LxI.step HX.out hlt (HB3.out hlt) HT.out (Nat.le_trans hacc hpq) (Blk.alloc (Blk.alloc hA _) _) HOWN.out ((HF2.out.alloc _).alloc _) (Nat.lt_succ_of_lt (Nat.lt_succ_of_lt hsz)) hr' hf' hb'
        have htr := tok_range hlt HT.out
        have HST := Lib.hid st1
        have HME : Hid (meaQ w.heap.size S w' < meaQ w.heap.size S wr) := by
          rw [Hid, st2, HMEA.out]
          omega
        clear hr' hf' hb' hA hsz st1 st2 htr
        go_wp2_with fail
        go_roundw
        case rel => exact HST.out
        case measure => exact HME.out
end Lx
end Go.Proofs.YtpmgecnkcllneaaDoor
