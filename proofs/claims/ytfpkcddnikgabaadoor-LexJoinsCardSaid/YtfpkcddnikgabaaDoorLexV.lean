/- lex: the document's Lex. -/
import Derived.Test.YtfpkcddnikgabaaDoorLexQ
namespace Go.Proofs.YtfpkcddnikgabaaDoor
open Go.RowKit

namespace Lx
open LexM (Tok)

theorem one_any (S : List UInt8) (p : Nat) (w : World) (hS : S.length ≤ 1000000) (hp : p < S.length) :
    Calls Tryd.prog 18 #[.string ⟨S.toArray⟩, .int .i64 p] w fun e w' => DocR e (LexM.tok1 p (S.drop p)) ∧ Fr [] w w' := by
  cases hl : LexM.letter (at0 S p)
  · cases hd : LexM.dig (at0 S p)
    · by_cases h39 : at0 S p = 39
      · rw [tok_text hp h39]; exact one_text S p w hS hp h39
      · rw [tok_sign hp hl hd h39]; exact one_sign S p w hS hp hl hd h39
    · rw [tok_num hp hl hd]; exact one_num S p w hS hp hl hd
  · rw [tok_name hp hl]; exact one_name S p w hS hp hl

/-- what the loop keeps -/
def DxI (w : World) (S : List UInt8) (v u : Value) (wr : World) : Prop :=
  ∃ (p : Nat) (acc : List Tok), u = .int .i64 p ∧ p ≤ S.length ∧ acc.length ≤ p ∧ Hid (LS S 0 = pre acc (LS S p)) ∧ Hid (Row wr 30 4 v acc.length (toksC acc)) ∧ Hid (v.ownBlock = none ∨ ∃ k, w.heap.size ≤ k ∧ v.ownBlock = some k) ∧ Hid (Fr [] w wr)
/-- what it returns -/
def DxR (w w' : World) (e : Ending) : (Nat × Int) ⊕ List Tok → Prop
  | .inl (q, x) => e = .returned (.tuple #[.slice none 0 0, .int .i64 q, .int .i64 x]) ∧ Fr [] w w'
  | .inr l => ∃ v, e = .returned (.tuple #[v, .int .i64 0, .int .i64 0]) ∧ Row w' 30 4 v l.length (toksC l) ∧ Fr [] w w'
theorem own_fr' {v : Value} {w w1 w' : World} (hF : Fr [] w w1) (hf : Fr [v.ownBlock] w1 w') (h : v.ownBlock = none ∨ ∃ k, w.heap.size ≤ k ∧ v.ownBlock = some k) : Fr [] w w' :=
  hF.trans' hf (by
    intro i hi
    rcases h with h | ⟨k, hk, h⟩ <;> rw [h] at hi <;> simp at hi
    exact .inr (by omega))
theorem own_behind' {v v' : Value} {n z : Nat} (h : v.ownBlock = none ∨ ∃ k, n ≤ k ∧ v.ownBlock = some k) (hb : v'.ownBlock = v.ownBlock ∨ ∃ k, z ≤ k ∧ v'.ownBlock = some k) (hz : n ≤ z) : v'.ownBlock = none ∨ ∃ k, n ≤ k ∧ v'.ownBlock = some k := by
  rcases hb with h1 | ⟨k, hk, h1⟩
  · rw [h1]; exact h
  · exact .inr ⟨k, by omega, h1⟩
theorem DxI.step {w wa w' : World} {S : List UInt8} {q r z : Nat} {acc : List Tok} {t : Tok} {v v' : Value} (hX : LS S 0 = pre acc (LS S q)) (hlt : q < S.length) (hne : at0 S q ≠ 32) (ht : LexM.tok1 q (S.drop q) = .inr (t, r)) (hacc : acc.length ≤ q)
    (hown : v.ownBlock = none ∨ ∃ k, w.heap.size ≤ k ∧ v.ownBlock = some k) (hF : Fr [] w wa) (hz : w.heap.size ≤ z)
    (hr' : Row w' 30 4 v' (acc.length + 1) (toksC acc ++ tokC t)) (hf' : Fr [v.ownBlock] wa w') (hb' : v'.ownBlock = v.ownBlock ∨ ∃ k, z ≤ k ∧ v'.ownBlock = some k) : DxI w S v' (.int .i64 r) w' := by
  obtain ⟨h1, h2, _⟩ := tok_range hlt ht
  refine ⟨r, acc ++ [t], rfl, h2, by rw [List.length_append]; simp only [List.length_cons, List.length_nil]; omega, by rw [Hid, hX]; exact pre_tok acc hlt hne ht, ?_, own_behind' hown hb' hz, own_fr' hF hf' hown⟩
  rw [Hid, List.length_append, toksC_snoc]; exact hr'

set_option maxHeartbeats 4000000 in
theorem doclex_any (S : List UInt8) (w : World) (hS : S.length ≤ 1000000) :
    Calls Tryd.prog 11 #[.string ⟨S.toArray⟩] w fun e w' => DxR w w' e (LexM.lex S) := by
  have HS := Lib.hid hS
  clear hS
  by_cases h400 : 400 < S.length
  · have h4' : (400 : Int) < (S.length : Int) := by omega
    have HL : Hid (LexM.lex S = .inl (0, 7)) := if_pos h400
    clear h400
    go_enter Tryd.func11, Tryd.ntmps11
    go_wp2_with fail
    go_ret3
    rw [HL.out]
    exact ⟨rfl, Fr.refl _ _⟩
  have h4' : (S.length : Int) ≤ 400 := by omega
  have HL : Hid (LexM.lex S = LS S 0) := if_neg h400
  obtain ⟨i0, hi, hz0, hz1, hz2⟩ := info_parts infoT
  clear h400
  go_enter Tryd.func11, Tryd.ntmps11
  go_wp2_with fail
  go_loopw [5, 6] (fun v u wr => DxI w S v u wr) (fun _ u _ => S.length - (intOf u).toNat)
  case atStart =>
    exact ⟨0, [], rfl, Nat.zero_le _, Nat.le_refl _, pre_nil _, Row.nil _ _ _, .inl rfl, Fr.refl [] w⟩
  case round =>
    obtain ⟨p, acc, rfl, hp, hacc, HX, HROW, HOWN, HF⟩ := hrel
    have hlim := lim (Nat.le_trans hacc (Nat.le_trans hp HS.out))
    obtain ⟨hmx, hby⟩ := hlim
    by_cases hlt : p < S.length
    · obtain ⟨c, hc⟩ : ∃ c, S[p] = c := ⟨_, rfl⟩
      have hix : (ByteArray.mk S.toArray)[p]'(show p < S.toArray.size by simpa using hlt) = c := by rw [← hc]; rfl
      have HC : Hid (at0 S p = c) := (at0_lt hlt).trans hc
      have hpi : (p : Int) < (S.length : Int) := by omega
      clear hc
      by_cases h32 : c = 32
      · have HX2 : Hid (LS S 0 = pre acc (LS S (p + 1))) := by
          rw [Hid, HX.out, LS_blank hlt (HC.out.trans h32)]
        have hci : ((c.toNat : Int) == 32) = true := by rw [h32]; decide
        clear h32
        go_wp2_with fail
        go_roundw
        case rel => exact ⟨p + 1, acc, by go_num, hlt, Nat.le_succ_of_le hacc, HX2, HROW, HOWN, HF⟩
        case measure => clear hci; simp [intOf]; omega
      · have HN : Hid (at0 S p ≠ 32) := by rw [Hid, HC.out]; exact h32
        have hci : ((c.toNat : Int) == 32) = false := byte_ne (a := 32) h32
        clear h32
        go_wp2_with fail
        refine (one_any S p wr HS.out hlt).mono ?_
        intro e w2 hr
        obtain ⟨hd, hf⟩ := hr
        have HROW2 := Lib.hid (HROW.out.keep hf (by simp))
        have HF2 : Hid (Fr [] w w2) := HF.out.trans hf
        clear hf hci
        rcases hX : LexM.tok1 p (S.drop p) with ⟨r, x⟩ | ⟨t, r⟩
        · rw [hX] at hd
          obtain ⟨a, b, c', d, z, rfl⟩ := hd
          have hx0 : (x != 0) = true := by simpa using tok_err hlt hX
          have HT := Lib.hid hX
          clear hX
          go_wp2_with fail
          go_ret3
          rw [HL.out, HX.out, pre_bad acc hlt HN.out HT.out]
          exact ⟨rfl, HF2.out.alloc _⟩
        · rw [hX] at hd
          obtain ⟨z, rfl⟩ := hd
          have HT := Lib.hid hX
          clear hX
          simp only [tokV, tokA]
          go_wp2_with (at_builtin; refine wpList_append_row rfl _ _ 23 rfl 30 i0 (tokA 0 [] 0 0) 4 40 Tryd.underlying23 hi hz0 hz1 hz2 rfl (by decide) u5 acc.length (toksC acc) rfl ?c0 ⟨w2.heap.size + 1, 0, none⟩ 1 1 (tokC t) rfl rfl ?c1 (one_tok _) hmx hby ?_)
          case c0 => exact (HROW2.out.keep ((Fr.refl [] _).alloc _) (by simp)).keep ((Fr.refl [] _).alloc _) (by simp)
          case c1 => exact four_new2 _ _ _ _
          intro v' w' hr' hf' hb'
          have hsz := HF2.out.size
          have HST := Lib.hid (DxI.step HX.out hlt HN.out HT.out hacc HOWN.out ((HF2.out.alloc _).alloc _) (Nat.le_succ_of_le (Nat.le_succ_of_le hsz)) hr' hf' hb')
          have htr := tok_range hlt HT.out
          clear hr' hf' hb' hsz
          go_wp2_with fail
          go_roundw
          case rel => exact HST.out
          case measure => simp [intOf]; omega
    · obtain rfl : p = S.length := by omega
      go_wp2_with (at_builtin; refine wpList_append_row rfl _ _ 23 rfl 30 i0 (tokA 0 [] 0 0) 4 40 Tryd.underlying23 hi hz0 hz1 hz2 rfl (by decide) u5 acc.length (toksC acc) rfl (HROW.out.keep ((Fr.refl [] _).alloc _) (by simp)) ⟨wr.heap.size, 0, none⟩ 1 1 (tokC ⟨6, [], 0, S.length⟩) rfl rfl ?c1 (one_tok _) hmx hby ?_)
      case c1 => exact four_new _ _ _
      intro v' w' hr' hf' hb'
      have HR' := Lib.hid hr'
      have HF' := Lib.hid (own_fr' (HF.out.alloc _) hf' HOWN.out)
      clear hr' hf' hb'
      go_wp2_with fail
      go_ret3
      rw [HL.out, HX.out, pre_end]
      refine ⟨v', rfl, ?_, HF'.out⟩
      rw [List.length_append, toksC_snoc]
      exact HR'.out
end Lx
end Go.Proofs.YtfpkcddnikgabaaDoor
