/- How show writes a sign, a column, a value. -/
import Derived.Test.YtmdnhinpaflamaaDoorShB
import Derived.Test.YtmdnhinpaflamaaDoorShJ
import Derived.Test.YtmdnhinpaflamaaDoorShelf
import Derived.Lib.LaidTab
import Derived.Lib.ItoaLen
import Derived.Lib.ReplaceLaws
namespace Go.Proofs.YtmdnhinpaflamaaDoor
open Go.RowKit
set_option linter.unusedVariables false
set_option linter.unusedSimpArgs false
namespace Sw
open PM (Ex B)
open CM (Pr)
open Gn (sh opB)
open Sh (bt bt_cat bt_size colT bs)
theorem rep_skip {c : UInt8} (h : c ≠ 39) : ∀ (k : Nat) (r : B), Lib.replaceK [39] [39, 39] k (c :: r) = c :: Lib.replaceK [39] [39, 39] k r
  | 0, r => rfl
  | k + 1, r => by
    have hp : ([39] : List UInt8).isPrefixOf (c :: r) = false := by simp [List.isPrefixOf, Ne.symm h]
    have hix : Lib.index (c :: r) [39] = if Lib.index r [39] == -1 then -1 else Lib.index r [39] + 1 := by rw [Lib.index, hp]; simp
    by_cases hm : Lib.index r [39] = -1
    · have h2 : Lib.index (c :: r) [39] = -1 := by rw [hix, if_pos (beq_iff_eq.2 hm)]
      rw [Lib.replaceK, Lib.replaceK, if_pos (beq_iff_eq.2 hm), if_pos (beq_iff_eq.2 h2)]
    · have hge := Lib.index_ge r [39]
      obtain ⟨j, hj⟩ : ∃ j : Nat, Lib.index r [39] = j := ⟨(Lib.index r [39]).toNat, by omega⟩
      have hix' : Lib.index (c :: r) [39] = ((j + 1 : Nat) : Int) := by rw [hix, if_neg (fun e => hm (beq_iff_eq.1 e)), hj]; omega
      rw [Lib.replaceK_hit _ _ _ _ j hj, Lib.replaceK_hit _ _ _ _ (j + 1) hix']
      rw [show j + 1 + ([39] : List UInt8).length = (j + ([39] : List UInt8).length) + 1 by simp, List.drop_succ_cons, List.take_succ_cons]
      simp
theorem rep_quo : ∀ t : B, Lib.replaceK [39] [39, 39] (Lib.count t [39]) t = Pc.quo t
  | [] => by rw [Lib.count_one]; rfl
  | c :: r => by
    have ih := rep_quo r
    by_cases h : c = 39
    · subst h
      have hi : Lib.index (39 :: r) [39] = ((0 : Nat) : Int) := by rw [Lib.index]; simp [List.isPrefixOf]
      rw [Lib.count_cons_eq, Nat.add_comm, Lib.replaceK_hit _ _ _ _ 0 hi]
      simp [Pc.quo, ih]
    · rw [Lib.count_cons_ne _ _ _ h, rep_skip h, ih]
      simp [Pc.quo, h]
theorem rep_all (t : B) : Lib.replaceAll t [39] [39, 39] = Pc.quo t := by
  rw [← rep_quo, Lib.replaceAll, Lib.replace, if_neg (by decide), Lib.replaceNum, if_pos (.inl (by decide))]
theorem quo_len : ∀ t : B, (Pc.quo t).length ≤ 2 * t.length
  | [] => by simp [Pc.quo]
  | c :: r => by
    have := quo_len r
    simp only [Pc.quo]
    split <;> simp <;> omega
/-- what the library's variables hold -/
structure Env (w : World) : Prop where
  tab : Lib.TabIs Tryd.prog w "internal/strconv.uint64pow10" .u64 Lib.pow10Tab
  mx : ∃ m, w.cell? ⟨1, 0, none⟩ = some (.int .i64 m)
theorem Env.keep {w w' : World} (h : Env w) (hf : Fr [] w w') : Env w' :=
  ⟨Lib.tabBelow_of_tabIs h.tab w' hf.below, by obtain ⟨m, hm⟩ := h.mx; exact ⟨m, (hf.cell (World.block_lt_of_cell? w _ hm) (by simp)).trans hm⟩⟩
open Go.Sort in
theorem fr_grow (w : World) (k : Nat) (os : Array Obj) : Fr [] w (grow (w.drewN k) os) :=
  ⟨rfl, rfl, rfl, by simp [World.drewN], fun i hi _ => heap_grow_old (w.drewN k) os hi⟩
set_option maxRecDepth 100000 in
set_option maxHeartbeats 2000000 in
/-- sign -/
theorem sign_any (op : Int) (o : Nat) (h : op = 5 + o) (ho : o < 11) (w : World) :
    Calls Tryd.prog 55 #[.int .i64 op] w fun e w' => e = .returned (.string (bt (opB o))) ∧ Fr [] w w' := by
  rcases (by omega : o = 0 ∨ o = 1 ∨ o = 2 ∨ o = 3 ∨ o = 4 ∨ o = 5 ∨ o = 6 ∨ o = 7 ∨ o = 8 ∨ o = 9 ∨ o = 10) with rfl | rfl | rfl | rfl | rfl | rfl | rfl | rfl | rfl | rfl | rfl
  all_goals
    simp at h
    subst h
    clear ho
    go_enter Tryd.func55, Tryd.ntmps55
    go_wp2_with fail
    go_ret
    exact ⟨rfl, Fr.refl _ _⟩
set_option maxRecDepth 100000 in
set_option maxHeartbeats 2000000 in
/-- column -/
theorem column_any (t n : B) (ht : t.length ≤ 1000) (hn : n.length ≤ 1000) (w : World) :
    Calls Tryd.prog 52 #[.string ⟨t.toArray⟩, .string ⟨n.toArray⟩] w fun e w' => e = .returned (.string (bt (colT t n))) ∧ Fr [] w w' := by
  show Calls Tryd.prog _ #[.string (bt t), .string (bt n)] w _
  have hs1 : ((bt t).size : Int) ≤ 1000 := by rw [bt_size]; omega
  have hs2 : ((bt n).size : Int) ≤ 1000 := by rw [bt_size]; omega
  by_cases h0 : t = []
  · subst h0
    go_enter Tryd.func52, Tryd.ntmps52
    go_wp2_with fail
    go_ret
    exact ⟨rfl, Fr.refl _ _⟩
  · have hne : (bt t).toList.isEmpty = false := by
      have h1 : ((bt t).toList == (⟨#[]⟩ : ByteArray).toList) = false := by
        rw [Lib.bytes_beq_false_iff]
        exact fun h => h0 (by have := congrArg (fun z => z.data.toList) h; simpa using this)
      rw [(by kernel_rfl : (⟨#[]⟩ : ByteArray).toList = [])] at h1
      cases h2 : (bt t).toList with
      | nil => rw [h2] at h1; cases h1
      | cons => rfl
    have HR : Hid (bt t ++ ⟨#[46]⟩ ++ bt n = bt (colT t n)) := Lib.hid (by
      show bt t ++ bt [46] ++ bt n = _
      have : t.isEmpty = false := by cases t with | nil => exact absurd rfl h0 | cons => rfl
      unfold colT
      rw [if_neg (by rw [this]; decide), bt_cat, bt_cat])
    generalize bt t = s at hs1 hne HR ⊢
    generalize bt n = u at hs2 HR ⊢
    go_enter Tryd.func52, Tryd.ntmps52
    go_wp2_with fail
    go_ret
    exact ⟨congrArg (fun z => Ending.returned (.string z)) HR.out, Fr.refl _ _⟩
set_option maxRecDepth 100000 in
set_option maxHeartbeats 2000000 in
/-- literal: a number -/
theorem literal_int (v : Nat) (hv : v ≤ 9223372036854775807) (w : World) (hE : Env w) :
    Calls Tryd.prog 51 #[.agg #[.int .i64 1, .int .i64 v, .string ⟨#[]⟩]] w fun e w' => e = .returned (.string (bt (sh (.int v)))) ∧ Fr [] w w' := by
  have hf0 := (Fr.refl [] w).alloc (.cells #[.int .i64 1, .int .i64 v, .string ⟨#[]⟩] 38)
  have HR := Lib.hid (Tryd.strconv_FormatInt_10 (v : Int) (by omega) (by omega) (w.alloc (.cells #[.int .i64 1, .int .i64 v, .string ⟨#[]⟩] 38)) (hE.keep hf0).tab)
  have hi : Lib.itoa (v : Int) = Lib.decDigits v := by rw [Lib.itoa, if_neg (by omega)]; simp
  rw [Gn.sh_int, ← hi]
  have hv0 : (0 : Int) ≤ v := by omega
  have HF := Lib.hid hf0
  clear hi hE hf0
  go_enter Tryd.func51, Tryd.ntmps51
  go_wp2_with fail
  refine HR.out.mono ?_
  rintro e w1 ⟨rfl, k, os, rfl⟩
  go_wp2_with fail
  go_ret
  exact ⟨rfl, HF.out.trans (fr_grow _ k os)⟩
set_option maxRecDepth 100000 in
set_option maxHeartbeats 2000000 in
/-- literal: a text -/
theorem literal_text (t : B) (ht : t.length ≤ 1000) (w : World) (hE : Env w) :
    Calls Tryd.prog 51 #[.agg #[.int .i64 2, .int .i64 0, .string ⟨t.toArray⟩]] w fun e w' => e = .returned (.string (bt (sh (.text t)))) ∧ Fr [] w w' := by
  have hf0 := (Fr.refl [] w).alloc (.cells #[.int .i64 2, .int .i64 0, .string ⟨t.toArray⟩] 38)
  obtain ⟨m, hm⟩ := (hE.keep hf0).mx
  have HR := Lib.hid (Tryd.strings_ReplaceAll (bt t) ⟨#[39]⟩ ⟨#[39, 39]⟩ m (w.alloc (.cells #[.int .i64 2, .int .i64 0, .string ⟨t.toArray⟩] 38)) (by rw [bt_size]; omega) hm (by decide) (by
    have h1 := Lib.countB_le ⟨#[39]⟩ (by decide) (bt t).size (bt t) (Nat.le_refl _)
    rw [bt_size] at h1 ⊢
    show t.length + Lib.countB (bt t) ⟨#[39]⟩ * 2 ≤ _
    omega))
  rw [show ∀ x : B, (bt x).data.toList = x from fun x => by simp, show (⟨#[39]⟩ : ByteArray).data.toList = [39] from rfl, show (⟨#[39, 39]⟩ : ByteArray).data.toList = [39, 39] from rfl, rep_all] at HR
  have hq := quo_len t
  have hqs : ((bt (Pc.quo t)).size : Int) ≤ 2000 := by rw [bt_size]; omega
  have HS : Hid (⟨#[39]⟩ ++ bt (Pc.quo t) ++ ⟨#[39]⟩ = bt (sh (.text t))) := Lib.hid (by
    rw [Gn.sh_text, show (⟨#[39]⟩ : ByteArray) = bt [39] from rfl, bt_cat, bt_cat]
    rfl)
  have HF := Lib.hid hf0
  change Hid (Calls _ _ _ _ fun e w' => e = .returned (.string (bt (Pc.quo t))) ∧ _) at HR
  change Calls _ _ #[.agg #[.int .i64 2, .int .i64 0, .string (bt t)]] _ _
  generalize bt (Pc.quo t) = d at HR hqs HS
  clear hE hf0 hm hq
  go_enter Tryd.func51, Tryd.ntmps51
  go_wp2_with fail
  refine HR.out.mono ?_
  rintro e w1 ⟨rfl, hf⟩
  have HF1 := Lib.hid (HF.out.trans (Fr.of_below (S := []) hf))
  clear hf
  go_wp2_with fail
  go_ret
  exact ⟨congrArg (fun z => Ending.returned (.string z)) HS.out, HF1.out⟩
end Sw
end Go.Proofs.YtmdnhinpaflamaaDoor
