/- plan: a table's columns and indexes, as the program looks them up; the first of an expression. -/
import Derived.Test.YtmdnhinpaflamaaDoorPnA
namespace Go.Proofs.YtmdnhinpaflamaaDoor
open Go.RowKit
set_option linter.unusedVariables false
set_option linter.unusedSimpArgs false
namespace Pn
open PM (Ex B Col)
open Px (ColS colC z7 put7 frPut7 blkPut7 ret_cell7 c7_of)
set_option maxRecDepth 100000 in
set_option maxHeartbeats 2000000 in
theorem ixfunc_any (l : List Col) (nm : B) (A : Nat → Prop) (a : Option Addr) (c p q : Nat) (hl : l.length ≤ 100) (w : World) (h : ColS A w (.slice a l.length c) l) (hp : w.cell? ⟨p, 0, none⟩ = some (.func (.func 101) #[] #[])) (hq : w.cell? ⟨q, 0, none⟩ = some (.string ⟨nm.toArray⟩)) :
    Calls Tryd.prog 131 #[.slice a l.length c, .func (.func 132) #[] #[.pointer (some ⟨p, 0, none⟩), .pointer (some ⟨q, 0, none⟩)]] w fun e w' => e = .returned (.int .i64 (place l nm)) ∧ Fr [] w w' := by
  have hpl := World.block_lt_of_cell? w _ hp
  have hql := World.block_lt_of_cell? w _ hq
  have HZ := Lib.hid (Sh.flat_form (cells := colC) (size := 3) (fun _ => rfl) h).2.2
  have HP := Lib.hid (And.intro hp hq)
  have HPL := Lib.hid (And.intro hpl hql)
  clear h hp hq hpl hql
  go_enter Tryd.func131, Tryd.ntmps131
  go_wp2_with fail
  go_loopw [8] (fun i wr => ∃ k : Nat, i = .int .i64 k ∧ k ≤ l.length ∧ Hid (∀ j, (hj : j < l.length) → j < k → l[j].name ≠ nm) ∧ Hid (Fr [] w wr)) (fun i _ => l.length - (intOf i).toNat)
  case atStart => exact ⟨0, rfl, Nat.zero_le _, Lib.hid (by intros; omega), Lib.hid (Fr.refl [] _)⟩
  case round =>
    obtain ⟨k, rfl, hk, HN, HF⟩ := hrel
    have hli : (l.length : Int) ≤ 100 := by omega
    by_cases hkl : k < l.length
    · have hkl' : (k : Int) < l.length := by omega
      obtain ⟨g, off, rfl, -, hg, hcap, hc⟩ := HZ.out k hkl
      have c0 := (HF.out.cell (p := ⟨g, off + k * 3, none⟩) hg (by simp)).trans (hc 0 _ rfl)
      have c1 := (HF.out.cell (p := ⟨g, off + k * 3 + 1, none⟩) hg (by simp)).trans (hc 1 _ rfl)
      have c2 := (HF.out.cell (p := ⟨g, off + k * 3 + 2, none⟩) hg (by simp)).trans (hc 2 _ rfl)
      have HC := Lib.hid (find1_any l[k] nm p q wr ((HF.out.cell (p := ⟨p, 0, none⟩) HPL.out.1 (by simp)).trans HP.out.1) ((HF.out.cell (p := ⟨q, 0, none⟩) HPL.out.2 (by simp)).trans HP.out.2))
      obtain ⟨x, hx⟩ : ∃ x, l[k] = x := ⟨_, rfl⟩
      rw [hx] at c0 c1 c2 HC
      have HX := Lib.hid hx
      have hci : (l.length : Int) ≤ c := by omega
      clear hc hx
      go_wp2_with fail
      refine HC.out.mono ?_
      rintro e w2 ⟨rfl, hf2⟩
      have HF2 := Lib.hid (HF.out.trans hf2)
      clear hf2 c0 c1 c2 HC
      by_cases he : x.name = nm
      · subst he
        go_wp2_with fail
        go_ret
        exact ⟨by rw [place_at hkl (by rw [HX.out]) HN.out]; rfl, HF2.out⟩
      · have hbq : (x.name == nm) = false := beq_eq_false_iff_ne.2 he
        have HE := Lib.hid he
        clear he
        go_wp2_with fail
        go_roundw
        case rel =>
          refine ⟨k + 1, by go_num, by omega, Lib.hid (fun j hj hjk => ?_), HF2⟩
          rcases Nat.lt_or_ge j k with h | h
          · exact HN.out j hj h
          · obtain rfl : j = k := by omega
            rw [HX.out]
            exact HE.out
        case measure => simp only [intOf]; omega
    · obtain rfl : k = l.length := by omega
      go_wp2_with fail
      go_ret
      exact ⟨by rw [place_no HN.out]; rfl, HF.out⟩
set_option maxRecDepth 100000 in
set_option maxHeartbeats 2000000 in
theorem sfind_any (l : List Col) (nm : B) (A : Nat → Prop) (a : Option Addr) (c : Nat) (hl : l.length ≤ 100) (w : World) (h : ColS A w (.slice a l.length c) l) :
    Calls Tryd.prog 100 #[.slice a l.length c, .string ⟨nm.toArray⟩, .func (.func 101) #[] #[]] w fun e w' => e = .returned (.int .i64 (place l nm)) ∧ Fr [] w w' := by
  have hf0 := ((Fr.refl [] w).alloc (.cells #[.string ⟨nm.toArray⟩] 9)).alloc (.cells #[.func (.func 101) #[] #[]] 109)
  have b0 := (Blk.new w 9 [.string ⟨nm.toArray⟩]).alloc (.cells #[.func (.func 101) #[] #[]] 109)
  have b1 := Blk.new (w.alloc (.cells #[.string ⟨nm.toArray⟩] 9)) 109 [.func (.func 101) #[] #[]]
  rw [World.size_alloc] at b1
  have HC := Lib.hid (ixfunc_any l nm A a c (w.heap.size + 1) w.heap.size hl _ (Px.FlatS.keep hf0 (by simp) h) (b1.cell 0) (b0.cell 0))
  have HF0 := Lib.hid hf0
  clear h hf0 b0 b1
  go_enter Tryd.func100, Tryd.ntmps100
  go_wp2_with fail
  refine HC.out.mono ?_
  rintro e w2 ⟨rfl, hf2⟩
  go_wp2_with fail
  go_ret
  exact ⟨rfl, HF0.out.trans hf2⟩
set_option maxRecDepth 100000 in
set_option maxHeartbeats 2000000 in
/-- the program's Column -/
theorem scolumn_any (tn : B) (l : List Col) (ix : List B) (nm : B) (A : Nat → Prop) (a ia : Option Addr) (c ic : Nat) (hl : l.length ≤ 100) (w : World) (h : TR A w ⟨tn, l, ix⟩ a c ia ic) :
    Calls Tryd.prog 73 #[.agg #[.string ⟨tn.toArray⟩, .slice a l.length c, .slice ia ix.length ic], .string ⟨nm.toArray⟩] w fun e w' => e = .returned (.int .i64 (place l nm)) ∧ Fr [] w w' := by
  have hf0 := (Fr.refl [] w).alloc (.cells #[.string ⟨tn.toArray⟩, .slice a l.length c, .slice ia ix.length ic] 27)
  have HC := Lib.hid (sfind_any l nm A a c hl _ (Px.FlatS.keep hf0 (by simp) h.cols))
  have HF0 := Lib.hid hf0
  clear h hf0
  go_enter Tryd.func73, Tryd.ntmps73
  go_wp2_with fail
  refine HC.out.mono ?_
  rintro e w2 ⟨rfl, hf2⟩
  go_wp2_with fail
  go_ret
  exact ⟨rfl, HF0.out.trans hf2⟩
set_option maxRecDepth 100000 in
set_option maxHeartbeats 2000000 in
/-- the document's Indexed -/
theorem rindexed_any (tn : B) (l : List Col) (ix : List B) (nm : B) (A : Nat → Prop) (a ia : Option Addr) (c ic : Nat) (hl : l.length ≤ 100) (hil : ix.length ≤ 100) (w : World) (h : TR A w ⟨tn, l, ix⟩ a c ia ic) :
    Calls Tryd.prog 40 #[.agg #[.string ⟨tn.toArray⟩, .slice a l.length c, .slice ia ix.length ic], .string ⟨nm.toArray⟩] w fun e w' => e = .returned (.bool (indexed ⟨tn, l, ix⟩ nm)) ∧ Fr [] w w' := by
  have hcols : ColS A w (.slice a l.length c) l := h.cols
  have hix : StrS A w (.slice ia ix.length ic) ix := h.ix
  have HZ := Lib.hid (Sh.flat_form (cells := colC) (size := 3) (fun _ => rfl) hcols).2.2
  have HI := Lib.hid (Sh.flat_form (cells := strC) (size := 1) (fun _ => rfl) hix).2.2
  clear hcols hix
  have HBX := Lib.hid (Blk.new w 27 [.string ⟨tn.toArray⟩, .slice a l.length c, .slice ia ix.length ic])
  have HF0 := Lib.hid ((Fr.refl [] w).alloc (.cells #[.string ⟨tn.toArray⟩, .slice a l.length c, .slice ia ix.length ic] 27))
  have hli : (l.length : Int) ≤ 100 := by omega
  clear h
  have key : place l nm = 0 ∨ (place l nm ≠ 0 ∧ (0 < l.length → ∃ h : 0 < l.length, l[0].name ≠ nm)) := by
    by_cases h0 : 0 < l.length
    · by_cases h1 : l[0].name = nm
      · exact .inl (place_at h0 h1 (fun j _ h => absurd h (Nat.not_lt_zero _)))
      · refine .inr ⟨fun h => ?_, fun _ => ⟨h0, h1⟩⟩
        unfold place at h
        split at h
        · rename_i k hk
          obtain rfl : k = 0 := by omega
          have := (List.findIdx?_eq_some_iff_getElem.1 hk).2.1
          exact h1 (by simpa using this)
        · omega
    · refine .inr ⟨fun h => ?_, fun h => absurd h h0⟩
      have := place_lt l nm
      omega
  by_cases hpz : place l nm = 0
  · have h0 : 0 < l.length := by have := place_lt l nm; omega
    have h1 : l[0].name = nm := by
      unfold place at hpz
      split at hpz
      · rename_i k hk
        obtain rfl : k = 0 := by omega
        have := (List.findIdx?_eq_some_iff_getElem.1 hk).2.1
        simpa using this
      · omega
    obtain ⟨g, off, rfl, -, hg, hcap, hc⟩ := HZ.out 0 h0
    have c0 := (HF0.out.cell (p := ⟨g, off + 0 * 3, none⟩) hg (by simp)).trans (hc 0 _ rfl)
    rw [h1, show off + 0 * 3 = off by omega] at c0
    have h0' : (0 : Int) < l.length := by omega
    have hci : (l.length : Int) ≤ c := by omega
    have HR : Hid (indexed ⟨tn, l, ix⟩ nm = true) := Lib.hid (by unfold indexed; rw [decide_eq_true (show place l nm = 0 from hpz)]; rfl)
    clear hc h1 hpz key
    go_enter Tryd.func40, Tryd.ntmps40
    go_wp2_with fail
    go_ret
    exact ⟨by rw [HR.out]; rfl, HF0.out⟩
  · have hK := key.resolve_left hpz
    have HR : Hid (indexed ⟨tn, l, ix⟩ nm = ix.contains nm) := Lib.hid (by unfold indexed; rw [decide_eq_false (show ¬ place l nm = 0 from hpz)]; rfl)
    have HL : Hid (l.length = 0 ∨ ∃ (h : 0 < l.length) (x : B), l[0].name = x ∧ (x == nm) = false) := Lib.hid (by
      rcases Nat.eq_zero_or_pos l.length with h | h
      · exact .inl h
      · obtain ⟨h, h2⟩ := hK.2 h
        exact .inr ⟨h, _, rfl, beq_eq_false_iff_ne.2 h2⟩)
    clear key hpz hK
    have loop : ∀ (u6 u7 u8 u9 u10 u11 u12 u13 u14 u15 u16 u17 u18 : Value), True := fun _ _ _ _ _ _ _ _ _ _ _ _ _ => trivial
    clear loop
    go_enter Tryd.func40, Tryd.ntmps40
    rcases HL.out with h0 | ⟨h0, x, hx, hxn⟩
    case' inl => obtain rfl := List.eq_nil_of_length_eq_zero h0
    case' inr =>
      obtain ⟨g, off, rfl, -, hg, hcap, hc⟩ := HZ.out 0 h0
      have c0 := (HF0.out.cell (p := ⟨g, off + 0 * 3, none⟩) hg (by simp)).trans (hc 0 _ rfl)
      rw [hx, show off + 0 * 3 = off by omega] at c0
      have h0' : (0 : Int) < l.length := by omega
      have hci : (l.length : Int) ≤ c := by omega
      clear hc hx
    all_goals
      go_wp2_with fail
      go_loopw [5] (fun i wr => ∃ k : Nat, i = .int .i64 k ∧ k ≤ ix.length ∧ Hid (∀ j, (hj : j < ix.length) → j < k → ix[j] ≠ nm) ∧ Hid (Fr [] w wr) ∧ Hid (wr.cell? ⟨w.heap.size, 2, none⟩ = some (.slice ia ix.length ic)) ∧ w.heap.size < wr.heap.size) (fun i _ => ix.length - (intOf i).toNat)
      case atStart => exact ⟨0, rfl, Nat.zero_le _, Lib.hid (by intros; omega), HF0, Lib.hid (HBX.out.cell 2), HBX.out.lt⟩
      case round =>
        obtain ⟨k, rfl, hk, HN, HF, HC2, hbl⟩ := hrel
        have b2 := HC2.out
        have hxi : (ix.length : Int) ≤ 100 := by omega
        by_cases hkl : k < ix.length
        · have hkl' : (k : Int) < ix.length := by omega
          obtain ⟨g, off, rfl, -, hg, hcap, hc⟩ := HI.out k hkl
          have d0 := (HF.out.cell (p := ⟨g, off + k * 1, none⟩) hg (by simp)).trans (hc 0 _ rfl)
          rw [Nat.mul_one] at d0
          obtain ⟨y, hy⟩ : ∃ y, ix[k] = y := ⟨_, rfl⟩
          rw [hy] at d0
          have hci2 : (ix.length : Int) ≤ ic := by omega
          have HY := Lib.hid hy
          clear hc hy
          by_cases he : y = nm
          · subst he
            go_wp2_with fail
            go_ret
            exact ⟨by rw [HR.out, show ix.contains y = true from List.elem_eq_true_of_mem (by rw [← HY.out]; exact List.getElem_mem _)]; rfl, HF.out⟩
          · have hbq : (y == nm) = false := beq_eq_false_iff_ne.2 he
            have HE := Lib.hid he
            clear he
            go_wp2_with fail
            go_roundw
            case rel =>
              refine ⟨k + 1, by go_num, by omega, Lib.hid (fun j hj hjk => ?_), HF, HC2, hbl⟩
              rcases Nat.lt_or_ge j k with h | h
              · exact HN.out j hj h
              · obtain rfl : j = k := by omega
                rw [HY.out]
                exact HE.out
            case measure => simp only [intOf]; omega
        · obtain rfl : k = ix.length := by omega
          go_wp2_with fail
          go_ret
          refine ⟨?_, HF.out⟩
          rw [HR.out, show ix.contains nm = false from ?_]
          · rfl
          · cases h : ix.contains nm with
            | false => rfl
            | true =>
              obtain ⟨j, hj, hjn⟩ := List.mem_iff_getElem.1 (List.contains_iff_mem.1 h)
              exact absurd hjn (HN.out j hj hj)
end Pn
end Go.Proofs.YtmdnhinpaflamaaDoor
