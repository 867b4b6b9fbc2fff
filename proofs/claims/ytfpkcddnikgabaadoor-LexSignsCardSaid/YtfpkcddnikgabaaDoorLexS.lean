/- lex: the law LexSigns. -/
import Derived.Test.YtfpkcddnikgabaaDoorLexJ
import Derived.Test.YtfpkcddnikgabaaDoorSeqQ
namespace Go.Proofs.YtfpkcddnikgabaaDoor
open Go.RowKit

namespace Lx
open LexM (Tok)

theorem sg_yes {l : List UInt8} {k : Nat} {c : UInt8} (h : k < l.length) (hc : l[k] = c) : (l.take (k + 1)).contains c = true := by
  rw [List.take_succ_eq_append_getElem h, hc]; simp
theorem sg_no {l : List UInt8} {k : Nat} {a c : UInt8} (h : k < l.length) (hc : l[k] = c) (ha : ¬ c = a) : (l.take (k + 1)).contains a = (l.take k).contains a := by
  rw [List.take_succ_eq_append_getElem h, hc, Bool.eq_iff_iff]
  simp only [List.contains_iff_mem, List.mem_append, List.mem_singleton]
  constructor
  · rintro (h | h)
    · exact h
    · exact absurd h.symm ha
  · exact .inl
theorem lex_sign {a : UInt8} (h : LexM.signs.contains a = true) : LexM.lex [a] = .inr [⟨5, [a], 0, 0⟩, ⟨6, [], 0, 1⟩] := by
  have hm : a ∈ LexM.signs := by simpa using h
  simp only [LexM.signs, List.mem_cons, List.not_mem_nil, or_false] at hm
  rcases hm with rfl | rfl | rfl | rfl | rfl | rfl | rfl | rfl | rfl | rfl <;> rfl
def okS : (Nat × Int) ⊕ List Tok → Bool
  | .inr (t :: _ :: []) => t.kind == 5
  | _ => false
theorem lex_nosign_all : ∀ n : Fin 256, LexM.signs.contains (UInt8.ofNat n.val) = false → okS (LexM.lex [UInt8.ofNat n.val]) = false := by decide +kernel
theorem lex_nosign {a : UInt8} (h : LexM.signs.contains a = false) : okS (LexM.lex [a]) = false := by
  have := lex_nosign_all ⟨a.toNat, a.toNat_lt⟩
  simp only [UInt8.ofNat_toNat] at this
  exact this h
def two (a b : UInt8) : Bool := (a == 60 && (b == 62 || b == 61)) || (a == 62 && b == 61)
theorem lex_two {a b : UInt8} (ha : LexM.signs.contains a = true) (hb : LexM.signs.contains b = true) : LexM.lex [a, b] = (if two a b then .inr [⟨5, [a, b], 0, 0⟩, ⟨6, [], 0, 2⟩] else .inr [⟨5, [a], 0, 0⟩, ⟨5, [b], 0, 1⟩, ⟨6, [], 0, 2⟩]) := by
  have hm : a ∈ LexM.signs := by simpa using ha
  have hn : b ∈ LexM.signs := by simpa using hb
  simp only [LexM.signs, List.mem_cons, List.not_mem_nil, or_false] at hm hn
  rcases hm with rfl | rfl | rfl | rfl | rfl | rfl | rfl | rfl | rfl | rfl <;> rcases hn with rfl | rfl | rfl | rfl | rfl | rfl | rfl | rfl | rfl | rfl <;> rfl

theorem str_of_two {P : Program} {src dst e : TypeId} (hs : P.underlying src = some (.slice e)) (hd : P.underlying dst = some .string) (he : P.underlying e = some (.int .u8)) (w : World) (x y : Int) (cap : Nat) :
    (convert src dst (.slice (some ⟨w.heap.size, 0, none⟩) 2 cap)).run P (w.alloc (.cells #[.int .u8 x, .int .u8 y] e)) = .ok (.string ⟨[UInt8.ofNat x.toNat, UInt8.ofNat y.toNat].toArray⟩) (w.alloc (.cells #[.int .u8 x, .int .u8 y] e)) := by
  refine run_convert_bytes_arg _ src e hs he w.heap.size 0 2 cap [x, y] rfl (fun i hi => ?_) dst hd
  have hb := Blk.new w e [.int .u8 x, .int .u8 y]
  rw [Nat.zero_add, hb.cell i]
  rcases (by omega : i = 0 ∨ i = 1) with rfl | rfl <;> rfl

set_option maxHeartbeats 2000000 in
theorem signs_law (a b : UInt8) (w : World) (m : Int) (hm : w.cell? ⟨0, 0, none⟩ = some (.int .i64 m)) (h00 : 0 < w.heap.size) :
    Calls Tryd.prog 8 #[.int .u8 (a.toNat : Int), .int .u8 (b.toNat : Int)] w fun e w' => e = .returned (.bool true) ∧ Fr [] w w' := by
  have HM := Lib.hid hm
  clear hm
  go_enter Tryd.func8, Tryd.ntmps8
  go_wp2_with fail
  refine (begun_any w m HM.out h00).mono ?_
  rintro e w1 ⟨rfl, hf1⟩
  have HF1 := Lib.hid hf1
  clear hf1
  go_wp2_with fail
  go_loop [5, 6, 7] (fun u5 u6 u7 => ∃ (k : Nat) (x y : Int), k ≤ 10 ∧ u7 = .int .i64 k ∧ u5 = .int .i64 x ∧ u6 = .int .i64 y ∧ Hid (decide (0 ≤ x) = (LexM.signs.take k).contains a) ∧ Hid (decide (0 ≤ y) = (LexM.signs.take k).contains b)) (fun _ _ i => 10 - (intOf i).toNat)
  case atStart => exact ⟨0, -1, -1, by omega, rfl, rfl, rfl, rfl, rfl⟩
  case round =>
    obtain ⟨k, x, y, hk, rfl, rfl, rfl, HX, HY⟩ := hrel
    by_cases hlt : k < 10
    · obtain ⟨c, hc⟩ : ∃ c, LexM.signs[k]'hlt = c := ⟨_, rfl⟩
      have hix : (ByteArray.mk #[40, 41, 44, 46, 61, 60, 62, 43, 45, 42])[k]'hlt = c := hc
      have HC := Lib.hid hc
      clear hc
      by_cases ha : c = a <;> by_cases hb : c = b
      · have h1 := byte_eq ha
        have h2 := byte_eq hb
        have H1 : Hid (decide (0 ≤ (k : Int)) = (LexM.signs.take (k + 1)).contains a) := by rw [Hid, sg_yes hlt (HC.out.trans ha)]; simp
        have H2 : Hid (decide (0 ≤ (k : Int)) = (LexM.signs.take (k + 1)).contains b) := by rw [Hid, sg_yes hlt (HC.out.trans hb)]; simp
        clear ha hb
        go_wp2_with fail
        go_round
        case rel => exact ⟨k + 1, k, k, hlt, by go_num, rfl, rfl, H1, H2⟩
        case measure => clear h1 h2; simp [intOf]; omega
      · have h1 := byte_eq ha
        have h2 := byte_ne hb
        have H1 : Hid (decide (0 ≤ (k : Int)) = (LexM.signs.take (k + 1)).contains a) := by rw [Hid, sg_yes hlt (HC.out.trans ha)]; simp
        have H2 : Hid (decide (0 ≤ y) = (LexM.signs.take (k + 1)).contains b) := by rw [Hid, sg_no hlt HC.out hb]; exact HY.out
        clear ha hb
        go_wp2_with fail
        go_round
        case rel => exact ⟨k + 1, k, y, hlt, by go_num, rfl, rfl, H1, H2⟩
        case measure => clear h1 h2; simp [intOf]; omega
      · have h1 := byte_ne ha
        have h2 := byte_eq hb
        have H1 : Hid (decide (0 ≤ x) = (LexM.signs.take (k + 1)).contains a) := by rw [Hid, sg_no hlt HC.out ha]; exact HX.out
        have H2 : Hid (decide (0 ≤ (k : Int)) = (LexM.signs.take (k + 1)).contains b) := by rw [Hid, sg_yes hlt (HC.out.trans hb)]; simp
        clear ha hb
        go_wp2_with fail
        go_round
        case rel => exact ⟨k + 1, x, k, hlt, by go_num, rfl, rfl, H1, H2⟩
        case measure => clear h1 h2; simp [intOf]; omega
      · have h1 := byte_ne ha
        have h2 := byte_ne hb
        have H1 : Hid (decide (0 ≤ x) = (LexM.signs.take (k + 1)).contains a) := by rw [Hid, sg_no hlt HC.out ha]; exact HX.out
        have H2 : Hid (decide (0 ≤ y) = (LexM.signs.take (k + 1)).contains b) := by rw [Hid, sg_no hlt HC.out hb]; exact HY.out
        clear ha hb
        go_wp2_with fail
        go_round
        case rel => exact ⟨k + 1, x, y, hlt, by go_num, rfl, rfl, H1, H2⟩
        case measure => clear h1 h2; simp [intOf]; omega
    · obtain rfl : k = 10 := by omega
      have hcv := str_of_one (P := Tryd.prog) Tryd.underlying33 Tryd.underlying9 Tryd.underlying5 w1 (a.toNat : Int) 1
      have HLX := Lib.hid (lex_any [a] (w1.alloc (.cells #[.int .u8 (a.toNat : Int)] 5)) m ((((Fr.refl [] w1).alloc _).cell (Nat.lt_of_lt_of_le h00 HF1.out.size) (by simp)).trans ((HF1.out.cell h00 (by simp)).trans HM.out)) (by simp) (show 1 ≤ 1000000 by decide))
      rcases (by omega : 0 ≤ x ∨ x < 0) with hx | hx
      · have HA : Hid (LexM.signs.contains a = true) := by
          have := HX.out
          rw [decide_eq_true hx] at this
          exact this.symm
        go_wp2_with fail
        refine HLX.out.mono ?_
        intro e w2 hl
        obtain ⟨g, off, cap, rfl, hcap, -, -, -, hcell, hf2⟩ := lex_good (lex_sign HA.out) hl
        have d0 : w2.cell? ⟨g, off, none⟩ = some (.int .i64 5) := hcell 0 _ rfl
        have HF2 : Hid (Fr [] w w2) := (HF1.out.alloc _).trans hf2
        have H0 := Lib.hid (Nat.lt_of_lt_of_le h00 HF2.out.size)
        have HM2 : Hid (w2.cell? ⟨0, 0, none⟩ = some (.int .i64 m)) := (HF2.out.cell h00 (by simp)).trans HM.out
        clear hl hf2 hcell hcv HLX
        rcases (by omega : 0 ≤ y ∨ y < 0) with hy | hy
        · have HB : Hid (LexM.signs.contains b = true) := by
            have := HY.out
            rw [decide_eq_true hy] at this
            exact this.symm
          have hcv := str_of_two (P := Tryd.prog) Tryd.underlying33 Tryd.underlying9 Tryd.underlying5 w2 (a.toNat : Int) (b.toNat : Int) 2
          have HLX := Lib.hid (lex_any [a, b] (w2.alloc (.cells #[.int .u8 (a.toNat : Int), .int .u8 (b.toNat : Int)] 5)) m ((((Fr.refl [] w2).alloc _).cell H0.out (by simp)).trans HM2.out) (by simp) (show 2 ≤ 1000000 by decide))
          go_wp2_with fail
          refine HLX.out.mono ?_
          intro e w3 hl
          clear hcv HLX d0
          have hLL := lex_two HA.out HB.out
          cases htw : two a b
          · rw [htw] at hLL
            obtain ⟨g3, off3, cap3, rfl, hcap3, -, -, -, -, hf3⟩ := lex_good hLL hl
            have HF3 : Hid (Fr [] w w3) := (HF2.out.alloc _).trans hf3
            clear hl hf3 hLL
            unfold two at htw
            rw [byte_beq a 60, byte_beq a 62, byte_beq b 61, byte_beq b 62] at htw
            simp only [show ((60 : UInt8).toNat : Int) = 60 from rfl, show ((61 : UInt8).toNat : Int) = 61 from rfl, show ((62 : UInt8).toNat : Int) = 62 from rfl] at htw
            obtain ⟨v1, h1⟩ : ∃ v, ((a.toNat : Int) == 60) = v := ⟨_, rfl⟩
            obtain ⟨v2, h2⟩ : ∃ v, ((b.toNat : Int) == 62) = v := ⟨_, rfl⟩
            obtain ⟨v3, h3⟩ : ∃ v, ((b.toNat : Int) == 61) = v := ⟨_, rfl⟩
            obtain ⟨v4, h4⟩ : ∃ v, ((a.toNat : Int) == 62) = v := ⟨_, rfl⟩
            rw [h1, h2, h3, h4] at htw
            cases v1 <;> cases v2 <;> cases v3 <;> cases v4
            all_goals first
              | (exfalso; revert htw; decide)
              | (clear htw
                 go_wp2_with fail
                 go_region
                 all_goals
                   go_wp2_with fail
                   go_ret
                   exact ⟨rfl, HF3.out.drew⟩)
          · rw [htw] at hLL
            obtain ⟨g3, off3, cap3, rfl, hcap3, -, hg3, -, hcell3, hf3⟩ := lex_good hLL hl
            have HF3 : Hid (Fr [] w w3) := (HF2.out.alloc _).trans hf3
            have e1 : w3.cell? ⟨g3, off3 + 1, none⟩ = some (.string ⟨#[a, b]⟩) := hcell3 1 _ rfl
            have hp : (a = 60 ∧ b = 62) ∨ (a = 60 ∧ b = 61) ∨ (a = 62 ∧ b = 61) := by
              simp [two] at htw
              rcases htw with ⟨h, h' | h'⟩ | ⟨h, h'⟩
              · exact .inl ⟨h, h'⟩
              · exact .inr (.inl ⟨h, h'⟩)
              · exact .inr (.inr ⟨h, h'⟩)
            clear hl hf3 hLL hcell3 htw HX HY HA HB
            rcases hp with ⟨rfl, rfl⟩ | ⟨rfl, rfl⟩ | ⟨rfl, rfl⟩
            · have hcv : (convert 33 9 (.slice (some ⟨w3.heap.size, 0, none⟩) 2 2)).run Tryd.prog (w3.alloc (.cells #[.int .u8 60, .int .u8 62] 5)).drew = .ok (.string ⟨#[60, 62]⟩) (w3.alloc (.cells #[.int .u8 60, .int .u8 62] 5)).drew := str_of_two (P := Tryd.prog) Tryd.underlying33 Tryd.underlying9 Tryd.underlying5 w3.drew 60 62 2
              go_wp2_with fail
              have e2 : (w3.alloc (.cells #[.int .u8 60, .int .u8 62] 5)).drew.cell? ⟨g3, off3 + 1, none⟩ = some (.string ⟨#[60, 62]⟩) := (((Fr.refl [] w3).alloc _).cell hg3 (by simp)).trans e1
              refine Seq.wp_region_text (fun i => i != 4 && i != 7 && i != 18 && i != 19 && i != 21 && i != 22) (fun w' => w'.cell? ⟨g3, off3 + 1, none⟩ = some (.string ⟨#[60, 62]⟩)) (by kernel_rfl) (by kernel_rfl) e1 ?_
              refine Seq.wpL_quiet rfl rfl rfl (fun K hK => ?_)
              go_big_quiet_op
              first | refine hK _ ?_ | refine ⟨_, fun w' hI => rfl, hK _ ?_⟩
              clear hK K
              refine Seq.wpL_quiet rfl rfl rfl (fun K hK => ?_)
              go_big_quiet_op
              first | refine hK _ ?_ | refine ⟨_, fun w' hI => rfl, hK _ ?_⟩
              clear hK K
              refine Seq.wpL_quiet rfl rfl rfl (fun K hK => ?_)
              go_big_quiet_op
              first | refine hK _ ?_ | refine ⟨_, fun w' hI => rfl, hK _ ?_⟩
              clear hK K
              refine Seq.wpL_quiet rfl rfl rfl (fun K hK => ?_)
              go_big_quiet_op
              first | refine hK _ ?_ | refine ⟨_, fun w' hI => rfl, hK _ ?_⟩
              clear hK K
              refine Seq.wpL_val (v := .int .i64 2) (w' := w3.drew) rfl rfl (by simp [go_sem]) e1 ?_
              simp only [Act.put, List.setIfInBounds_toArray, List.set_cons_succ, List.set_cons_zero]
              refine Seq.wpL_quiet rfl rfl rfl (fun K hK => ?_)
              go_big_quiet_op
              first | refine hK _ ?_ | refine ⟨_, fun w' hI => rfl, hK _ ?_⟩
              clear hK K
              refine Seq.wpL_quiet rfl rfl rfl (fun K hK => ?_)
              go_big_quiet_op
              first | refine hK _ ?_ | refine ⟨_, fun w' hI => rfl, hK _ ?_⟩
              clear hK K
              refine Seq.wpL_val (v := .bool true) (w' := w3.drew) rfl rfl (by simp [go_sem, execOp]) e1 ?_
              simp only [Act.put, List.setIfInBounds_toArray, List.set_cons_succ, List.set_cons_zero]
              refine Seq.wpL_quiet rfl rfl rfl (fun K hK => ?_)
              go_big_quiet_op
              first | refine hK _ ?_ | refine ⟨_, fun w' hI => rfl, hK _ ?_⟩
              clear hK K
              refine Seq.wpL_quiet rfl rfl rfl (fun K hK => ?_)
              go_big_quiet_op
              first | refine hK _ ?_ | refine ⟨_, fun w' hI => rfl, hK _ ?_⟩
              clear hK K
              refine Seq.wpL_quiet rfl rfl rfl (fun K hK => ?_)
              go_big_quiet_op
              first | refine hK _ ?_ | refine ⟨_, fun w' hI => rfl, hK _ ?_⟩
              clear hK K
              refine Seq.wpL_quiet rfl rfl rfl (fun K hK => ?_)
              go_big_quiet_op
              first | refine hK _ ?_ | refine ⟨_, fun w' hI => rfl, hK _ ?_⟩
              clear hK K
              refine Seq.wpL_quiet rfl rfl rfl (fun K hK => ?_)
              go_big_quiet_op
              first | refine hK _ ?_ | refine ⟨_, fun w' hI => rfl, hK _ ?_⟩
              clear hK K
              refine Seq.wpL_quiet rfl rfl rfl (fun K hK => ?_)
              go_big_quiet_op
              first | refine hK _ ?_ | refine ⟨_, fun w' hI => rfl, hK _ ?_⟩
              clear hK K
              refine Seq.wpL_quiet rfl rfl rfl (fun K hK => ?_)
              go_big_quiet_op
              first | refine hK _ ?_ | refine ⟨_, fun w' hI => rfl, hK _ ?_⟩
              clear hK K
              refine Seq.wpL_held (v := .string ⟨#[60, 62]⟩) rfl rfl (fun w' hI => ?_) ?_
              · have hI' : w'.cell? ⟨g3, off3 + 1, none⟩ = some (.string ⟨#[60, 62]⟩) := hI
                simp [go_sem, execOp, hI']
              simp only [Act.put, List.setIfInBounds_toArray, List.set_cons_succ, List.set_cons_zero]
              refine Seq.wpL_quiet rfl rfl rfl (fun K hK => ?_)
              go_big_quiet_op
              first | refine hK _ ?_ | refine ⟨_, fun w' hI => rfl, hK _ ?_⟩
              clear hK K
              refine Seq.wpL_quiet rfl rfl rfl (fun K hK => ?_)
              go_big_quiet_op
              first | refine hK _ ?_ | refine ⟨_, fun w' hI => rfl, hK _ ?_⟩
              clear hK K
              refine Seq.wpL_val (v := .slice (some ⟨w3.heap.size, 0, none⟩) 2 2) (w' := (w3.alloc (.cells #[.int .u8 60, .int .u8 62] 5)).drew) rfl rfl (by simp [go_sem, execOp]) e2 ?_
              simp only [Act.put, List.setIfInBounds_toArray, List.set_cons_succ, List.set_cons_zero]
              refine Seq.wpL_val (v := .string ⟨#[60, 62]⟩) (w' := (w3.alloc (.cells #[.int .u8 60, .int .u8 62] 5)).drew) rfl rfl (by simp [go_sem, execOp, hcv]) e2 ?_
              simp only [Act.put, List.setIfInBounds_toArray, List.set_cons_succ, List.set_cons_zero]
              refine Seq.wpL_quiet rfl rfl rfl (fun K hK => ?_)
              go_big_quiet_op
              first | refine hK _ ?_ | refine ⟨_, fun w' hI => rfl, hK _ ?_⟩
              clear hK K
              refine Seq.wpL_val (v := .bool true) (w' := (w3.alloc (.cells #[.int .u8 60, .int .u8 62] 5)).drew) rfl rfl (by simp [go_sem, execOp]) e2 ?_
              simp only [Act.put, List.setIfInBounds_toArray, List.set_cons_succ, List.set_cons_zero]
              refine Seq.wpL_val (v := .bool true) (w' := (w3.alloc (.cells #[.int .u8 60, .int .u8 62] 5)).drew) rfl rfl (by simp [go_sem, execOp]) e2 ?_
              simp only [Act.put, List.setIfInBounds_toArray, List.set_cons_succ, List.set_cons_zero]
              refine Seq.wpL_quiet rfl rfl rfl (fun K hK => ?_)
              go_big_quiet_op
              first | refine hK _ ?_ | refine ⟨_, fun w' hI => rfl, hK _ ?_⟩
              clear hK K
              refine Seq.wpL_nil ?_
              simp only [Exit.then]
              go_at_K
              go_wp2_with fail
              go_ret
              exact ⟨rfl, (HF3.out.alloc _).drew⟩
            · have hcv : (convert 33 9 (.slice (some ⟨w3.heap.size, 0, none⟩) 2 2)).run Tryd.prog (w3.alloc (.cells #[.int .u8 60, .int .u8 61] 5)).drew = .ok (.string ⟨#[60, 61]⟩) (w3.alloc (.cells #[.int .u8 60, .int .u8 61] 5)).drew := str_of_two (P := Tryd.prog) Tryd.underlying33 Tryd.underlying9 Tryd.underlying5 w3.drew 60 61 2
              go_wp2_with fail
              have e2 : (w3.alloc (.cells #[.int .u8 60, .int .u8 61] 5)).drew.cell? ⟨g3, off3 + 1, none⟩ = some (.string ⟨#[60, 61]⟩) := (((Fr.refl [] w3).alloc _).cell hg3 (by simp)).trans e1
              refine Seq.wp_region_text (fun i => i != 4 && i != 7 && i != 18 && i != 19 && i != 21 && i != 22) (fun w' => w'.cell? ⟨g3, off3 + 1, none⟩ = some (.string ⟨#[60, 61]⟩)) (by kernel_rfl) (by kernel_rfl) e1 ?_
              refine Seq.wpL_quiet rfl rfl rfl (fun K hK => ?_)
              go_big_quiet_op
              first | refine hK _ ?_ | refine ⟨_, fun w' hI => rfl, hK _ ?_⟩
              clear hK K
              refine Seq.wpL_quiet rfl rfl rfl (fun K hK => ?_)
              go_big_quiet_op
              first | refine hK _ ?_ | refine ⟨_, fun w' hI => rfl, hK _ ?_⟩
              clear hK K
              refine Seq.wpL_quiet rfl rfl rfl (fun K hK => ?_)
              go_big_quiet_op
              first | refine hK _ ?_ | refine ⟨_, fun w' hI => rfl, hK _ ?_⟩
              clear hK K
              refine Seq.wpL_quiet rfl rfl rfl (fun K hK => ?_)
              go_big_quiet_op
              first | refine hK _ ?_ | refine ⟨_, fun w' hI => rfl, hK _ ?_⟩
              clear hK K
              refine Seq.wpL_val (v := .int .i64 2) (w' := w3.drew) rfl rfl (by simp [go_sem]) e1 ?_
              simp only [Act.put, List.setIfInBounds_toArray, List.set_cons_succ, List.set_cons_zero]
              refine Seq.wpL_quiet rfl rfl rfl (fun K hK => ?_)
              go_big_quiet_op
              first | refine hK _ ?_ | refine ⟨_, fun w' hI => rfl, hK _ ?_⟩
              clear hK K
              refine Seq.wpL_quiet rfl rfl rfl (fun K hK => ?_)
              go_big_quiet_op
              first | refine hK _ ?_ | refine ⟨_, fun w' hI => rfl, hK _ ?_⟩
              clear hK K
              refine Seq.wpL_val (v := .bool true) (w' := w3.drew) rfl rfl (by simp [go_sem, execOp]) e1 ?_
              simp only [Act.put, List.setIfInBounds_toArray, List.set_cons_succ, List.set_cons_zero]
              refine Seq.wpL_quiet rfl rfl rfl (fun K hK => ?_)
              go_big_quiet_op
              first | refine hK _ ?_ | refine ⟨_, fun w' hI => rfl, hK _ ?_⟩
              clear hK K
              refine Seq.wpL_quiet rfl rfl rfl (fun K hK => ?_)
              go_big_quiet_op
              first | refine hK _ ?_ | refine ⟨_, fun w' hI => rfl, hK _ ?_⟩
              clear hK K
              refine Seq.wpL_quiet rfl rfl rfl (fun K hK => ?_)
              go_big_quiet_op
              first | refine hK _ ?_ | refine ⟨_, fun w' hI => rfl, hK _ ?_⟩
              clear hK K
              refine Seq.wpL_quiet rfl rfl rfl (fun K hK => ?_)
              go_big_quiet_op
              first | refine hK _ ?_ | refine ⟨_, fun w' hI => rfl, hK _ ?_⟩
              clear hK K
              refine Seq.wpL_quiet rfl rfl rfl (fun K hK => ?_)
              go_big_quiet_op
              first | refine hK _ ?_ | refine ⟨_, fun w' hI => rfl, hK _ ?_⟩
              clear hK K
              refine Seq.wpL_quiet rfl rfl rfl (fun K hK => ?_)
              go_big_quiet_op
              first | refine hK _ ?_ | refine ⟨_, fun w' hI => rfl, hK _ ?_⟩
              clear hK K
              refine Seq.wpL_quiet rfl rfl rfl (fun K hK => ?_)
              go_big_quiet_op
              first | refine hK _ ?_ | refine ⟨_, fun w' hI => rfl, hK _ ?_⟩
              clear hK K
              refine Seq.wpL_held (v := .string ⟨#[60, 61]⟩) rfl rfl (fun w' hI => ?_) ?_
              · have hI' : w'.cell? ⟨g3, off3 + 1, none⟩ = some (.string ⟨#[60, 61]⟩) := hI
                simp [go_sem, execOp, hI']
              simp only [Act.put, List.setIfInBounds_toArray, List.set_cons_succ, List.set_cons_zero]
              refine Seq.wpL_quiet rfl rfl rfl (fun K hK => ?_)
              go_big_quiet_op
              first | refine hK _ ?_ | refine ⟨_, fun w' hI => rfl, hK _ ?_⟩
              clear hK K
              refine Seq.wpL_quiet rfl rfl rfl (fun K hK => ?_)
              go_big_quiet_op
              first | refine hK _ ?_ | refine ⟨_, fun w' hI => rfl, hK _ ?_⟩
              clear hK K
              refine Seq.wpL_val (v := .slice (some ⟨w3.heap.size, 0, none⟩) 2 2) (w' := (w3.alloc (.cells #[.int .u8 60, .int .u8 61] 5)).drew) rfl rfl (by simp [go_sem, execOp]) e2 ?_
              simp only [Act.put, List.setIfInBounds_toArray, List.set_cons_succ, List.set_cons_zero]
              refine Seq.wpL_val (v := .string ⟨#[60, 61]⟩) (w' := (w3.alloc (.cells #[.int .u8 60, .int .u8 61] 5)).drew) rfl rfl (by simp [go_sem, execOp, hcv]) e2 ?_
              simp only [Act.put, List.setIfInBounds_toArray, List.set_cons_succ, List.set_cons_zero]
              refine Seq.wpL_quiet rfl rfl rfl (fun K hK => ?_)
              go_big_quiet_op
              first | refine hK _ ?_ | refine ⟨_, fun w' hI => rfl, hK _ ?_⟩
              clear hK K
              refine Seq.wpL_val (v := .bool true) (w' := (w3.alloc (.cells #[.int .u8 60, .int .u8 61] 5)).drew) rfl rfl (by simp [go_sem, execOp]) e2 ?_
              simp only [Act.put, List.setIfInBounds_toArray, List.set_cons_succ, List.set_cons_zero]
              refine Seq.wpL_val (v := .bool true) (w' := (w3.alloc (.cells #[.int .u8 60, .int .u8 61] 5)).drew) rfl rfl (by simp [go_sem, execOp]) e2 ?_
              simp only [Act.put, List.setIfInBounds_toArray, List.set_cons_succ, List.set_cons_zero]
              refine Seq.wpL_quiet rfl rfl rfl (fun K hK => ?_)
              go_big_quiet_op
              first | refine hK _ ?_ | refine ⟨_, fun w' hI => rfl, hK _ ?_⟩
              clear hK K
              refine Seq.wpL_nil ?_
              simp only [Exit.then]
              go_at_K
              go_wp2_with fail
              go_ret
              exact ⟨rfl, (HF3.out.alloc _).drew⟩
            · have hcv : (convert 33 9 (.slice (some ⟨w3.heap.size, 0, none⟩) 2 2)).run Tryd.prog (w3.alloc (.cells #[.int .u8 62, .int .u8 61] 5)).drew = .ok (.string ⟨#[62, 61]⟩) (w3.alloc (.cells #[.int .u8 62, .int .u8 61] 5)).drew := str_of_two (P := Tryd.prog) Tryd.underlying33 Tryd.underlying9 Tryd.underlying5 w3.drew 62 61 2
              go_wp2_with fail
              have e2 : (w3.alloc (.cells #[.int .u8 62, .int .u8 61] 5)).drew.cell? ⟨g3, off3 + 1, none⟩ = some (.string ⟨#[62, 61]⟩) := (((Fr.refl [] w3).alloc _).cell hg3 (by simp)).trans e1
              refine Seq.wp_region_text (fun i => i != 4 && i != 7 && i != 18 && i != 19 && i != 21 && i != 22) (fun w' => w'.cell? ⟨g3, off3 + 1, none⟩ = some (.string ⟨#[62, 61]⟩)) (by kernel_rfl) (by kernel_rfl) e1 ?_
              refine Seq.wpL_quiet rfl rfl rfl (fun K hK => ?_)
              go_big_quiet_op
              first | refine hK _ ?_ | refine ⟨_, fun w' hI => rfl, hK _ ?_⟩
              clear hK K
              refine Seq.wpL_quiet rfl rfl rfl (fun K hK => ?_)
              go_big_quiet_op
              first | refine hK _ ?_ | refine ⟨_, fun w' hI => rfl, hK _ ?_⟩
              clear hK K
              refine Seq.wpL_quiet rfl rfl rfl (fun K hK => ?_)
              go_big_quiet_op
              first | refine hK _ ?_ | refine ⟨_, fun w' hI => rfl, hK _ ?_⟩
              clear hK K
              refine Seq.wpL_quiet rfl rfl rfl (fun K hK => ?_)
              go_big_quiet_op
              first | refine hK _ ?_ | refine ⟨_, fun w' hI => rfl, hK _ ?_⟩
              clear hK K
              refine Seq.wpL_val (v := .int .i64 2) (w' := w3.drew) rfl rfl (by simp [go_sem]) e1 ?_
              simp only [Act.put, List.setIfInBounds_toArray, List.set_cons_succ, List.set_cons_zero]
              refine Seq.wpL_quiet rfl rfl rfl (fun K hK => ?_)
              go_big_quiet_op
              first | refine hK _ ?_ | refine ⟨_, fun w' hI => rfl, hK _ ?_⟩
              clear hK K
              refine Seq.wpL_quiet rfl rfl rfl (fun K hK => ?_)
              go_big_quiet_op
              first | refine hK _ ?_ | refine ⟨_, fun w' hI => rfl, hK _ ?_⟩
              clear hK K
              refine Seq.wpL_val (v := .bool true) (w' := w3.drew) rfl rfl (by simp [go_sem, execOp]) e1 ?_
              simp only [Act.put, List.setIfInBounds_toArray, List.set_cons_succ, List.set_cons_zero]
              refine Seq.wpL_quiet rfl rfl rfl (fun K hK => ?_)
              go_big_quiet_op
              first | refine hK _ ?_ | refine ⟨_, fun w' hI => rfl, hK _ ?_⟩
              clear hK K
              refine Seq.wpL_quiet rfl rfl rfl (fun K hK => ?_)
              go_big_quiet_op
              first | refine hK _ ?_ | refine ⟨_, fun w' hI => rfl, hK _ ?_⟩
              clear hK K
              refine Seq.wpL_quiet rfl rfl rfl (fun K hK => ?_)
              go_big_quiet_op
              first | refine hK _ ?_ | refine ⟨_, fun w' hI => rfl, hK _ ?_⟩
              clear hK K
              refine Seq.wpL_quiet rfl rfl rfl (fun K hK => ?_)
              go_big_quiet_op
              first | refine hK _ ?_ | refine ⟨_, fun w' hI => rfl, hK _ ?_⟩
              clear hK K
              refine Seq.wpL_quiet rfl rfl rfl (fun K hK => ?_)
              go_big_quiet_op
              first | refine hK _ ?_ | refine ⟨_, fun w' hI => rfl, hK _ ?_⟩
              clear hK K
              refine Seq.wpL_quiet rfl rfl rfl (fun K hK => ?_)
              go_big_quiet_op
              first | refine hK _ ?_ | refine ⟨_, fun w' hI => rfl, hK _ ?_⟩
              clear hK K
              refine Seq.wpL_quiet rfl rfl rfl (fun K hK => ?_)
              go_big_quiet_op
              first | refine hK _ ?_ | refine ⟨_, fun w' hI => rfl, hK _ ?_⟩
              clear hK K
              refine Seq.wpL_held (v := .string ⟨#[62, 61]⟩) rfl rfl (fun w' hI => ?_) ?_
              · have hI' : w'.cell? ⟨g3, off3 + 1, none⟩ = some (.string ⟨#[62, 61]⟩) := hI
                simp [go_sem, execOp, hI']
              simp only [Act.put, List.setIfInBounds_toArray, List.set_cons_succ, List.set_cons_zero]
              refine Seq.wpL_quiet rfl rfl rfl (fun K hK => ?_)
              go_big_quiet_op
              first | refine hK _ ?_ | refine ⟨_, fun w' hI => rfl, hK _ ?_⟩
              clear hK K
              refine Seq.wpL_quiet rfl rfl rfl (fun K hK => ?_)
              go_big_quiet_op
              first | refine hK _ ?_ | refine ⟨_, fun w' hI => rfl, hK _ ?_⟩
              clear hK K
              refine Seq.wpL_val (v := .slice (some ⟨w3.heap.size, 0, none⟩) 2 2) (w' := (w3.alloc (.cells #[.int .u8 62, .int .u8 61] 5)).drew) rfl rfl (by simp [go_sem, execOp]) e2 ?_
              simp only [Act.put, List.setIfInBounds_toArray, List.set_cons_succ, List.set_cons_zero]
              refine Seq.wpL_val (v := .string ⟨#[62, 61]⟩) (w' := (w3.alloc (.cells #[.int .u8 62, .int .u8 61] 5)).drew) rfl rfl (by simp [go_sem, execOp, hcv]) e2 ?_
              simp only [Act.put, List.setIfInBounds_toArray, List.set_cons_succ, List.set_cons_zero]
              refine Seq.wpL_quiet rfl rfl rfl (fun K hK => ?_)
              go_big_quiet_op
              first | refine hK _ ?_ | refine ⟨_, fun w' hI => rfl, hK _ ?_⟩
              clear hK K
              refine Seq.wpL_val (v := .bool true) (w' := (w3.alloc (.cells #[.int .u8 62, .int .u8 61] 5)).drew) rfl rfl (by simp [go_sem, execOp]) e2 ?_
              simp only [Act.put, List.setIfInBounds_toArray, List.set_cons_succ, List.set_cons_zero]
              refine Seq.wpL_val (v := .bool true) (w' := (w3.alloc (.cells #[.int .u8 62, .int .u8 61] 5)).drew) rfl rfl (by simp [go_sem, execOp]) e2 ?_
              simp only [Act.put, List.setIfInBounds_toArray, List.set_cons_succ, List.set_cons_zero]
              refine Seq.wpL_quiet rfl rfl rfl (fun K hK => ?_)
              go_big_quiet_op
              first | refine hK _ ?_ | refine ⟨_, fun w' hI => rfl, hK _ ?_⟩
              clear hK K
              refine Seq.wpL_nil ?_
              simp only [Exit.then]
              go_at_K
              go_wp2_with fail
              go_ret
              exact ⟨rfl, (HF3.out.alloc _).drew⟩
        · go_wp2_with fail
          go_ret
          exact ⟨rfl, HF2.out⟩
      · have HA : Hid (LexM.signs.contains a = false) := by
          have := HX.out
          rw [decide_eq_false (by omega)] at this
          exact this.symm
        go_wp2_with fail
        refine HLX.out.mono ?_
        intro e w2 hl
        have hok := lex_nosign HA.out
        rcases hL : LexM.lex [a] with ⟨q, e0⟩ | l
        · obtain ⟨rfl, hf2⟩ := lex_bad hL hl
          have he : (e0 == 0) = false := by simpa using lex_err hL
          clear hl hok hL
          go_wp2_with fail
          go_ret
          exact ⟨rfl, (HF1.out.alloc _).trans hf2⟩
        · obtain ⟨g, off, cap, rfl, hcap, -, -, -, hcell, hf2⟩ := lex_good hL hl
          rw [hL] at hok
          by_cases hlen : l.length = 2
          · obtain ⟨t, u, rfl⟩ : ∃ t u, l = [t, u] := by
              rcases l with _ | ⟨t, _ | ⟨u, _ | _⟩⟩ <;> simp at hlen
              exact ⟨t, u, rfl⟩
            have d0 : w2.cell? ⟨g, off, none⟩ = some (.int .i64 t.kind) := hcell 0 _ rfl
            have hk5 : (t.kind == 5) = false := hok
            clear hl hok hL hcell hlen
            go_wp2_with fail
            go_ret
            exact ⟨rfl, (HF1.out.alloc _).trans hf2⟩
          · have hl2 : ((l.length : Int) == 2) = false := by simp; omega
            clear hl hok hL hcell hlen
            go_wp2_with fail
            go_ret
            exact ⟨rfl, (HF1.out.alloc _).trans hf2⟩
end Lx
end Go.Proofs.YtfpkcddnikgabaaDoor
