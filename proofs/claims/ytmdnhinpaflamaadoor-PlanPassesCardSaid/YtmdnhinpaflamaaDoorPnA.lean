/- plan: a table's columns by their names; the first of an expression. -/
import Derived.Test.YtmdnhinpaflamaaDoorGaE
import Derived.Test.YtmdnhinpaflamaaDoorSrA
import Derived.Test.YtmdnhinpaflamaaDoorShelf
import Derived.Deep.LoopGhost
import Derived.Deep.RegionWith
import Derived.Lib.SlicesS
namespace Go.Proofs.YtmdnhinpaflamaaDoor
open Go.RowKit
set_option linter.unusedVariables false
set_option linter.unusedSimpArgs false
namespace Pn
open PM (Ex B Col)
open Px (ColS colC z7 put7 frPut7 blkPut7 ret_cell7 c7_of)
def strC (b : B) : List Value := [.string ⟨b.toArray⟩]
abbrev StrS := Px.FlatS 9 strC 1
/-- a table -/
structure Tab where
  name : B
  cols : List Col
  ix : List B
/-- a table in memory: what its two slices are of -/
structure TR (A : Nat → Prop) (w : World) (T : Tab) (a : Option Addr) (c : Nat) (ia : Option Addr) (ic : Nat) : Prop where
  cols : ColS A w (.slice a T.cols.length c) T.cols
  ix : StrS A w (.slice ia T.ix.length ic) T.ix
theorem TR.keep {A : Nat → Prop} {w w' : World} {T : Tab} {a : Option Addr} {c : Nat} {ia : Option Addr} {ic : Nat} {X : List (Option Nat)} (h : TR A w T a c ia ic) (hf : Fr X w w') (hX : ∀ g, A g → some g ∉ X) : TR A w' T a c ia ic :=
  ⟨h.cols.keep hf hX, h.ix.keep hf hX⟩
theorem str_ne {a b : B} (h : a ≠ b) : ((⟨a.toArray⟩ : ByteArray).toList == (⟨b.toArray⟩ : ByteArray).toList) = false := by
  rw [Lib.bytes_beq_false_iff]
  intro e
  apply h
  have e := congrArg ByteArray.data e
  simpa using e
/-- the place of a column; -1: there is none -/
def place (l : List Col) (n : B) : Int := match l.findIdx? (fun c => c.name == n) with | some k => k | none => -1
theorem place_at {l : List Col} {n : B} {k : Nat} (hk : k < l.length) (h : l[k].name = n) (hlt : ∀ j, (hj : j < l.length) → j < k → l[j].name ≠ n) : place l n = k := by
  have : l.findIdx? (fun c => c.name == n) = some k := by
    rw [List.findIdx?_eq_some_iff_getElem]
    exact ⟨hk, by simp [h], fun j hj => by simp; exact hlt j (by omega) hj⟩
  unfold place
  rw [this]
theorem place_no {l : List Col} {n : B} (h : ∀ j, (hj : j < l.length) → j < l.length → l[j].name ≠ n) : place l n = -1 := by
  have : l.findIdx? (fun c => c.name == n) = none := by
    rw [List.findIdx?_eq_none_iff]
    intro x hx
    obtain ⟨j, hj, rfl⟩ := List.mem_iff_getElem.1 hx
    simpa using h j hj hj
  unfold place
  rw [this]
theorem place_ge (l : List Col) (n : B) : -1 ≤ place l n := by
  unfold place
  split <;> omega
theorem place_lt (l : List Col) (n : B) : place l n < l.length := by
  unfold place
  split
  · rename_i k h
    have := (List.findIdx?_eq_some_iff_getElem.1 h).1
    omega
  · omega
/-- has a column an index? -/
def indexed (T : Tab) (n : B) : Bool := decide (place T.cols n = 0) || T.ix.contains n
set_option maxRecDepth 100000 in
set_option maxHeartbeats 2000000 in
/-- the document's Column -/
theorem rcolumn_any (tn : B) (l : List Col) (ix : List B) (nm : B) (A : Nat → Prop) (a ia : Option Addr) (c ic : Nat) (hl : l.length ≤ 100) (w : World) (h : TR A w ⟨tn, l, ix⟩ a c ia ic) :
    Calls Tryd.prog 39 #[.agg #[.string ⟨tn.toArray⟩, .slice a l.length c, .slice ia ix.length ic], .string ⟨nm.toArray⟩] w fun e w' => e = .returned (.int .i64 (place l nm)) ∧ Fr [] w w' := by
  have HZ := Lib.hid (Sh.flat_form (cells := colC) (size := 3) (fun _ => rfl) h.cols).2.2
  have HBX := Lib.hid (Blk.new w 27 [.string ⟨tn.toArray⟩, .slice a l.length c, .slice ia ix.length ic])
  clear h
  go_enter Tryd.func39, Tryd.ntmps39
  go_wp2_with fail
  go_loopw [5] (fun i wr => ∃ k : Nat, i = .int .i64 k ∧ k ≤ l.length ∧ Hid (∀ j, (hj : j < l.length) → j < k → l[j].name ≠ nm) ∧ Hid (Fr [] (w.alloc (.cells #[.string ⟨tn.toArray⟩, .slice a l.length c, .slice ia ix.length ic] 27)) wr)) (fun i _ => l.length - (intOf i).toNat)
  case atStart => exact ⟨0, rfl, Nat.zero_le _, Lib.hid (by intros; omega), Lib.hid (Fr.refl [] _)⟩
  case round =>
    obtain ⟨k, rfl, hk, HN, HF⟩ := hrel
    have b1 := (HBX.out.keep HF.out (by simp)).cell 1
    have hbl := (HBX.out.keep HF.out (by simp)).lt
    simp only [List.getElem?_cons_zero, List.getElem?_cons_succ] at b1
    have hli : (l.length : Int) ≤ 100 := by omega
    by_cases hkl : k < l.length
    · have hkl' : (k : Int) < l.length := by omega
      obtain ⟨g, off, rfl, -, hg, hcap, hc⟩ := HZ.out k hkl
      have c0 := ((((Fr.refl [] w).alloc _).trans HF.out).cell (p := ⟨g, off + k * 3, none⟩) hg (by simp)).trans (hc 0 _ rfl)
      obtain ⟨x, hx⟩ : ∃ x, l[k].name = x := ⟨_, rfl⟩
      rw [hx] at c0
      have hci : (l.length : Int) ≤ c := by omega
      have HX := Lib.hid hx
      clear hc hx
      by_cases he : x = nm
      · subst he
        go_wp2_with fail
        go_ret
        exact ⟨by rw [place_at hkl HX.out HN.out]; rfl, ((Fr.refl [] w).alloc _).trans HF.out⟩
      · have hbq : (x == nm) = false := beq_eq_false_iff_ne.2 he
        have HE := Lib.hid he
        clear he
        go_wp2_with fail
        go_roundw
        case rel =>
          refine ⟨k + 1, by go_num, by omega, Lib.hid (fun j hj hjk => ?_), HF⟩
          rcases Nat.lt_or_ge j k with h | h
          · exact HN.out j hj h
          · obtain rfl : j = k := by omega
            rw [HX.out]
            exact HE.out
        case measure => simp only [intOf]; omega
    · obtain rfl : k = l.length := by omega
      go_wp2_with fail
      go_ret
      exact ⟨by rw [place_no HN.out]; rfl, ((Fr.refl [] w).alloc _).trans HF.out⟩
set_option maxRecDepth 100000 in
set_option maxHeartbeats 2000000 in
theorem ofcol_any (x : Col) (w : World) :
    Calls Tryd.prog 101 #[.agg #[.string ⟨x.name.toArray⟩, .int .i64 x.kind, .string ⟨x.ref.toArray⟩]] w fun e w' => e = .returned (.string ⟨x.name.toArray⟩) ∧ Fr [] w w' := by
  go_enter Tryd.func101, Tryd.ntmps101
  go_wp2_with fail
  go_ret
  exact ⟨rfl, (Fr.refl [] w).alloc _⟩
set_option maxRecDepth 100000 in
set_option maxHeartbeats 2000000 in
theorem find1_any (x : Col) (nm : B) (p q : Nat) (w : World) (hp : w.cell? ⟨p, 0, none⟩ = some (.func (.func 101) #[] #[])) (hq : w.cell? ⟨q, 0, none⟩ = some (.string ⟨nm.toArray⟩)) :
    Calls Tryd.prog 132 #[.agg #[.string ⟨x.name.toArray⟩, .int .i64 x.kind, .string ⟨x.ref.toArray⟩], .pointer (some ⟨p, 0, none⟩), .pointer (some ⟨q, 0, none⟩)] w fun e w' => e = .returned (.bool (x.name == nm)) ∧ Fr [] w w' := by
  have hpl := World.block_lt_of_cell? w _ hp
  have hql := World.block_lt_of_cell? w _ hq
  have HO := Lib.hid (fun W => ofcol_any x W)
  have HBX := Lib.hid (Blk.new w 73 [.string ⟨x.name.toArray⟩, .int .i64 x.kind, .string ⟨x.ref.toArray⟩])
  have HQ := Lib.hid hq
  have hb : ∃ b, (x.name == nm) = b := ⟨_, rfl⟩
  obtain ⟨b, hb⟩ := hb
  rw [hb]
  go_enter Tryd.func132, Tryd.ntmps132
  have HFD : Hid (Fr [] w (w.alloc (.cells #[.string ⟨x.name.toArray⟩, .int .i64 x.kind, .string ⟨x.ref.toArray⟩] 73)).drew) := Lib.hid ((Fr.refl [] w).alloc _).drew
  go_wp2_with fail
  go_region_with (
    go_at_call 101
    refine (HO.out _).mono ?_
    rintro e w2 ⟨rfl, hf2⟩
    have HF2 := Lib.hid (HFD.out.trans hf2)
    have q2 := (HF2.out.cell (p := ⟨q, 0, none⟩) hql (by simp)).trans HQ.out
    clear hf2)
  all_goals
    subst hb
    go_wp2_with fail
    go_ret
    exact ⟨rfl, HF2.out⟩
end Pn
end Go.Proofs.YtmdnhinpaflamaaDoor
