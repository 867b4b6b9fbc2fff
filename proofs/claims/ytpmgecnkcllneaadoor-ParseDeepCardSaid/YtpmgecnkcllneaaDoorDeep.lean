/- parse: how deep brackets, signs and nots may lie: reckoned. No program in sight. -/
import Derived.Test.YtpmgecnkcllneaaDoorPP
import Derived.Test.YtpmgecnkcllneaaDoorPc
import Derived.Test.YtpmgecnkcllneaaDoorParZ
namespace Go.Proofs.YtpmgecnkcllneaaDoor
namespace Dp
open PM (B)
open Pc (Pc Line)
def opens (h : Nat) : B := match h with | 0 => [40] | 1 => [45] | _ => [110, 111, 116, 32]
def rep : Nat → B → B
  | 0, _ => []
  | n + 1, s => rep n s ++ s
def pre : B := [100, 101, 108, 101, 116, 101, 32, 102, 114, 111, 109, 32, 116, 32, 119, 104, 101, 114, 101, 32]
def deepT (h k : Nat) : B := pre ++ rep k (opens h) ++ [97] ++ (if h = 0 then rep k [41] else [])
def openP (h : Nat) : Pc := match h with | 0 => .sign [40] | 1 => .sign [45] | _ => .word [110, 111, 116]
def deepL (h k : Nat) : Line := [(0, .word [100, 101, 108, 101, 116, 101]), (1, .word [102, 114, 111, 109]), (1, .name [116]), (1, .word [119, 104, 101, 114, 101])] ++ (List.range k).map (fun i => (if i = 0 ∨ h = 2 then 1 else 0, openP h)) ++ [(if k = 0 ∨ h = 2 then 1 else 0, .name [97])] ++ (if h = 0 then List.replicate k (0, .sign [41]) else [])
def okR (r : (Int × Int) ⊕ PM.St) (n h k : Nat) : Bool :=
  if 400 < n then (match r with | .inl (q, x) => x == 7 && q == 0 | .inr _ => false)
  else if 64 < k then (match r with | .inl (q, x) => x == 6 && q == ((20 + 64 * (opens h).length : Nat) : Int) | .inr _ => false)
  else (match r with | .inl _ => false | .inr _ => true)
def chk (h k : Nat) : Bool := Pc.fits (deepL h k) && (Pc.render (deepL h k) == deepT h k) && (decide (400 < (deepT h k).length) || okR (CM.parseL (Pc.toks 0 (deepL h k) ++ [⟨6, [], 0, (deepT h k).length⟩])) (deepT h k).length h k)
theorem chk0 : ((List.range 100).all fun k => chk 0 k) = true := by decide +kernel
theorem chk1 : ((List.range 100).all fun k => chk 1 k) = true := by decide +kernel
theorem chk2 : ((List.range 100).all fun k => chk 2 k) = true := by decide +kernel
theorem chk_all {h k : Nat} (hh : h < 3) (hk : k < 100) : chk h k = true := by
  rcases (by omega : h = 0 ∨ h = 1 ∨ h = 2) with rfl | rfl | rfl
  · exact List.all_eq_true.1 chk0 k (by simpa using hk)
  · exact List.all_eq_true.1 chk1 k (by simpa using hk)
  · exact List.all_eq_true.1 chk2 k (by simpa using hk)
theorem deep_all {h k : Nat} (hh : h < 3) (hk : k < 100) : okR (PM.parse (deepT h k)) (deepT h k).length h k = true := by
  have hc := chk_all hh hk
  simp only [chk, Bool.and_eq_true, Bool.or_eq_true, decide_eq_true_eq, beq_iff_eq] at hc
  obtain ⟨⟨h1, h2⟩, h3⟩ := hc
  rw [CM.parse_eq]
  by_cases hl : 400 < (deepT h k).length
  · unfold okR
    rw [if_pos hl, CM.parse, Pc.lex_long hl]
    rfl
  · have h3 := h3.resolve_left hl
    have e := Pc.lex_line (deepL h k) 0 h1 (by rw [h2]; simp [Pc.blanks]; omega)
    rw [h2] at e
    simp only [Pc.blanks, List.replicate_zero, List.append_nil] at e
    rw [CM.parse, e]
    exact h3
end Dp
end Go.Proofs.YtpmgecnkcllneaaDoor
namespace Go.Proofs.YtpmgecnkcllneaaDoor
open Go.RowKit
namespace Px
open PM (PS B Ex)

theorem cat_b (S T : B) : (ByteArray.mk S.toArray ++ ByteArray.mk T.toArray : ByteArray) = ⟨(S ++ T).toArray⟩ := by
  apply ByteArray.ext
  rw [ByteArray.data_append]
  simp
theorem rep_len (n : Nat) (s : B) : (Dp.rep n s).length = n * s.length := by
  induction n with
  | zero => simp [Dp.rep]
  | succ n ih => rw [Dp.rep, List.length_append, ih, Nat.succ_mul]
theorem opens_len (h : Nat) : (Dp.opens h).length ≤ 4 := by unfold Dp.opens; split <;> decide
/-- strings that are some bytes -/
theorem str_b {b : ByteArray} {l : B} (h : b = ⟨l.toArray⟩) : Value.string b = .string ⟨l.toArray⟩ := by rw [h]

theorem okR_told {r : (Int × Int) ⊕ PM.St} {n h k : Nat} (e : Dp.okR r n h k = true) : (400 < n → PM.er r = 7 ∧ PM.at' r = 0) ∧ (n ≤ 400 → 64 < k → PM.er r = 6 ∧ PM.at' r = 20 + 64 * ((Dp.opens h).length : Int)) ∧ (n ≤ 400 → k ≤ 64 → PM.er r = 0) := by
  unfold Dp.okR at e
  refine ⟨fun h1 => ?_, fun h1 h2 => ?_, fun h1 h2 => ?_⟩
  · rw [if_pos h1] at e
    cases r with
    | inl x => simpa [PM.er, PM.at'] using e
    | inr x => cases e
  · rw [if_neg (by omega), if_pos h2] at e
    cases r with
    | inl x => simp [PM.er, PM.at'] at e ⊢; exact e
    | inr x => cases e
  · rw [if_neg (by omega), if_neg (by omega)] at e
    cases r with
    | inl x => cases e
    | inr x => rfl
theorem deep_get {h : Nat} (hh : h < 3) : ([.string ⟨#[40]⟩, .string ⟨#[45]⟩, .string ⟨#[110, 111, 116, 32]⟩] : List Value)[h]'(by simpa using hh) = .string ⟨(Dp.opens h).toArray⟩ := by
  rcases (by omega : h = 0 ∨ h = 1 ∨ h = 2) with rfl | rfl | rfl <;> rfl
set_option maxRecDepth 100000 in
set_option maxHeartbeats 8000000 in
theorem deep_law (n h : Int) (hn : 0 ≤ n ∧ n ≤ 255) (hh : 0 ≤ h ∧ h ≤ 255) (w : World) (m : Int) (hm : w.cell? ⟨0, 0, none⟩ = some (.int .i64 m)) (h00 : 0 < w.heap.size) :
    Calls Tryd.prog 3 #[.int .u8 n, .int .u8 h] w fun e w' => e = .returned (.bool true) ∧ Fr [] w w' := by
  have HB := Lib.hid (begun_any w m hm h00)
  have HM := Lib.hid hm
  clear hm
  obtain ⟨hn0, hn1⟩ := hn
  obtain ⟨hh0, hh1⟩ := hh
  go_enter Tryd.func3, Tryd.ntmps3
  go_wp2_with fail
  refine HB.out.mono ?_
  rintro e w1 ⟨rfl, hf1⟩
  have HF1 := Lib.hid hf1
  clear hf1 HB
  obtain ⟨K, hK⟩ : ∃ K : Nat, n % 100 = K := ⟨(n % 100).toNat, by omega⟩
  obtain ⟨H, hH⟩ : ∃ H : Nat, h % 3 = H := ⟨(h % 3).toNat, by omega⟩
  have hK1 : K < 100 := by omega
  have hH1 : H < 3 := by omega
  have hKi : (K : Int) < 100 := by omega
  have hHi : (H : Int) < 3 := by omega
  have hg := deep_get hH1
  obtain ⟨o, ho⟩ : ∃ o, Dp.opens H = o := ⟨_, rfl⟩
  rw [ho] at hg
  have hol : o.length ≤ 4 := by rw [← ho]; exact opens_len H
  have HO := Lib.hid ho
  clear ho
  go_wp2_with fail
  go_loop [7, 9] (fun s i => ∃ (k : Nat) (l : B), k ≤ K ∧ i = .int .i64 k ∧ s = .string ⟨l.toArray⟩ ∧ Hid (l = Dp.pre ++ Dp.rep k o)) (fun _ i => K - (intOf i).toNat)
  case atStart => exact ⟨0, _, Nat.zero_le _, rfl, rfl, Lib.hid rfl⟩
  case round =>
    obtain ⟨k, l, hk, rfl, rfl, HL⟩ := hrel
    have hrl : (l.length : Int) ≤ 500 := by
      have h1 := rep_len k o
      have h2 := Nat.mul_le_mul (show k ≤ 100 by omega) hol
      have h3 := congrArg List.length HL.out
      rw [List.length_append, h1] at h3
      have h4 : Dp.pre.length = 20 := rfl
      omega
    by_cases hlt : k < K
    · have hki : (k : Int) < (K : Int) := by omega
      have HC := Lib.hid (cat_b l o)
      go_wp2_with fail
      go_round
      case rel => exact ⟨k + 1, l ++ o, by omega, by go_num, str_b HC.out, Lib.hid (by rw [HL.out, Dp.rep, List.append_assoc])⟩
      case measure => simp [intOf]; omega
    · obtain rfl : k = K := by omega
      clear hlt hk
      obtain ⟨l2, hl2⟩ : ∃ l2, l ++ [97] = l2 := ⟨_, rfl⟩
      have HL2 : Hid (l2 = Dp.pre ++ Dp.rep k o ++ [97]) := Lib.hid (by rw [← hl2, HL.out])
      have hc : (ByteArray.mk l.toArray ++ ByteArray.mk #[97] : ByteArray) = ⟨l2.toArray⟩ := by rw [← hl2, ← cat_b]
      have hrl2 : (l2.length : Int) ≤ 501 := by rw [← hl2, List.length_append]; simp; omega
      clear hl2
      go_wp2_with fail
      clear hc
      have HHK := Lib.hid hH
      go_loop [7, 10] (fun s i => ∃ (j : Nat) (l : B), j ≤ k ∧ i = .int .i64 j ∧ s = .string ⟨l.toArray⟩ ∧ Hid (l = Dp.pre ++ Dp.rep k o ++ [97] ++ (if H = 0 then Dp.rep j [41] else [])) ∧ Hid (H ≠ 0 → j = 0)) (fun _ i => k - (intOf i).toNat)
      case atStart => exact ⟨0, _, Nat.zero_le _, rfl, rfl, Lib.hid (by rw [HL2.out]; split <;> simp [Dp.rep]), Lib.hid fun _ => rfl⟩
      case round =>
        obtain ⟨j, S, hj, rfl, rfl, HS, HZ⟩ := hrel
        have hSl : (S.length : Int) ≤ 900 := by
          have h3 := congrArg List.length HS.out
          rw [List.length_append, ← HL2.out] at h3
          have h4 : (if H = 0 then Dp.rep j [41] else []).length ≤ 100 := by
            split
            · rw [rep_len]; simp; omega
            · simp
          omega
        by_cases hgo : j < k ∧ H = 0
        · obtain ⟨hlt, h0⟩ := hgo
          have hji : (j : Int) < (k : Int) := by omega
          have hHz : ((H : Int) == 0) = true := by rw [h0]; rfl
          have HC := Lib.hid (cat_b S [41])
          go_wp2_with fail
          go_round
          case rel => exact ⟨j + 1, S ++ [41], by omega, by go_num, str_b HC.out, Lib.hid (by rw [HS.out, if_pos h0, if_pos h0, Dp.rep, List.append_assoc]), Lib.hid (fun h => absurd h0 h)⟩
          case measure => simp [intOf]; omega
        · have hD : S = Dp.deepT H k := by
            rw [HS.out, Dp.deepT, HO.out]
            by_cases h0 : H = 0
            · obtain rfl : j = k := by
                rcases Nat.lt_or_ge j k with h | h
                · exact absurd ⟨h, h0⟩ hgo
                · omega
              rfl
            · rw [if_neg h0, if_neg h0]
          have HT := Lib.hid (okR_told (by rw [hD]; exact Dp.deep_all hH1 hK1 : Dp.okR (PM.parse S) S.length H k = true))
          have hor : (j < k ∧ ((H : Int) == 0) = false) ∨ k ≤ j := by
            rcases Nat.lt_or_ge j k with h | h
            · refine .inl ⟨h, ?_⟩
              have : H ≠ 0 := fun h0 => hgo ⟨h, h0⟩
              simp
              omega
            · exact .inr h
          have HSN : Hid (S.length ≤ 1000000) := Lib.hid (by omega)
          clear hgo hD
          obtain ⟨a, ha⟩ : ∃ x, PM.at' (PM.parse S) = x := ⟨_, rfl⟩
          obtain ⟨x, hx⟩ : ∃ x, PM.er (PM.parse S) = x := ⟨_, rfl⟩
          rw [ha, hx, HO.out] at HT
          have HAX := Lib.hid (And.intro ha hx)
          clear ha hx
          have hor2 : (j < k ∧ ((H : Int) == 0) = false ∧ (j : Int) < (k : Int)) ∨ (k : Int) ≤ (j : Int) := by
            rcases hor with ⟨h1, h2⟩ | h
            · exact .inl ⟨h1, h2, by omega⟩
            · exact .inr (by omega)
          clear hor
          rcases hor2 with ⟨g1, g2, g3⟩ | g1
          all_goals
            go_wp2_with fail
            refine (parse_told S _ m ?_ ?_ HSN.out).mono ?_
            · exact ((HF1.out.alloc _).cell (p := ⟨0, 0, none⟩) h00 (by simp)).trans HM.out
            · simp
            rintro e w2 ⟨c, rfl, -, hf2⟩
            rw [HAX.out.1, HAX.out.2]
            have HF2 : Hid (Fr [] w w2) := Lib.hid ((HF1.out.alloc _).trans hf2)
            clear hf2
            have hoi : (o.length : Int) ≤ 4 := by omega
            rcases Nat.lt_or_ge 400 S.length with h400 | h400
            · obtain ⟨e1, e2⟩ := HT.out.1 h400
              have h4i : (400 : Int) < (S.length : Int) := by omega
              subst e1
              subst e2
              clear h400
              go_wp2_with fail
              go_ret
              exact ⟨rfl, HF2.out.alloc _⟩
            · have h4i : (S.length : Int) ≤ (400 : Int) := by omega
              rcases Nat.lt_or_ge 64 k with h64 | h64
              · obtain ⟨e1, e2⟩ := HT.out.2.1 h400 h64
                have h6i : (64 : Int) < (k : Int) := by omega
                have hq : ((20 + 64 * (o.length : Int)) == 20 + 64 * (o.length : Int)) = true := by simp
                subst e1
                subst e2
                clear h400 h64
                go_wp2_with fail
                go_ret
                exact ⟨rfl, HF2.out.alloc _⟩
              · have e1 := HT.out.2.2 h400 h64
                have h6i : (k : Int) ≤ (64 : Int) := by omega
                subst e1
                clear h400 h64
                go_wp2_with fail
                go_ret
                exact ⟨rfl, HF2.out.alloc _⟩
end Px
end Go.Proofs.YtpmgecnkcllneaaDoor
