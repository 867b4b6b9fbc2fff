/- parse: some, where. -/
import Derived.Test.YtpmgecnkcllneaaDoorParP
namespace Go.Proofs.YtpmgecnkcllneaaDoor
open Go.RowKit
namespace Px
open PM (PS B Ex)

theorem some_no (f : Value) (w : World) :
    Calls Tryd.prog 60 #[.bool false, f] w fun e w' => e = .returned (.slice none 0 0) ∧ w = w' := by
  go_enter Tryd.func60, Tryd.ntmps60
  go_wp2_with fail
  go_ret
  exact ⟨rfl, rfl⟩

set_option maxRecDepth 100000 in
set_option maxHeartbeats 2000000 in
theorem some_yes (P g : Nat) (s : PS) (k : Nat) (fst cap : Array Value) (n : Nat) (f : PS → Ex × PS) (w : World) (h : PR w P g s) (h0 : 0 ≤ s.deep) (h64 : s.deep ≤ 64) (hn : s.l.length ≤ n)
    (hrun : ∀ w : World, Sem.run Tryd.prog (callFunc k (fst ++ cap)) w = .ok (.enter k (fst ++ cap)) w) (hf : Reads P g w k (fst ++ cap) n f) :
    Calls Tryd.prog 60 #[.bool true, .func (.func k) fst cap] w fun e w' => (∃ v, e = .returned v ∧ Rep.Es 40 (fun b => w.heap.size ≤ b) w' [(f s).1] v) ∧ PR w' P g (f s).2 ∧ Fr [some P] w w' := by
  have HRUN := Lib.hid hrun
  have HC1 := Lib.hid (hf w s (Fr.refl _ _) h hn h0 h64)
  clear h hrun hf
  go_enter Tryd.func60, Tryd.ntmps60
  go_wp2_with fail
  rw [HRUN.out, Oper.upon_enter]
  refine HC1.out.mono ?_
  rintro e w1 ⟨hx, h1, hf1⟩
  obtain ⟨op, kind, int, t, tb, nm, va, vl, vc, rfl, hrep⟩ := ex_cells hx
  have HREP := Lib.hid hrep
  have H1 := Lib.hid h1
  have HF1 := Lib.hid hf1
  have hs1 := hf1.size
  clear hx h1 hf1 hrep HC1
  go_wp2_with fail
  go_ret
  refine ⟨⟨.slice (some ⟨w1.heap.size, 0, none⟩) 1 1, rfl, ?_⟩, H1.out.alloc _, HF1.out.alloc _⟩
  have hr := HREP.out
  refine .mk _ _ _ (.cons _ [] _ [] (Rep.E.keep ((Fr.refl [] w1).alloc _) (fun _ _ => by simp) hr) .nil) ?_ (fun g hg => ?_)
  · rw [List.append_nil]
    refine ⟨by simp, .inr ⟨w1.heap.size, 0, 1, _, rfl, Blk.new w1 40 _, Nat.le_refl _, by simp [maxLen], by simp, by simp⟩⟩
  · simp only [Value.ownBlock, Option.some.injEq] at hg
    subst hg
    exact hs1

set_option maxRecDepth 100000 in
set_option maxHeartbeats 2000000 in
theorem where_any (P g : Nat) (n : Nat) (s : PS) (w : World) (h : PR w P g s) (h0 : 0 ≤ s.deep) (h64 : s.deep ≤ 64) (hn : s.l.length ≤ n) :
    Calls Tryd.prog 37 #[.pointer (some ⟨P, 0, none⟩)] w fun e w' => (∃ v, e = .returned v ∧ Rep.Es 40 (fun b => w.heap.size ≤ b) w' (PM.wheres n s).1 v) ∧ PR w' P g (PM.wheres n s).2 ∧ Fr [some P] w w' := by
  have HP := Lib.hid h
  have HN := Lib.hid (And.intro h0 (And.intro h64 hn))
  clear h h0 h64 hn
  go_enter Tryd.func37, Tryd.ntmps37
  go_wp2_with fail
  cases hi : PM.is [119, 104, 101, 114, 101] s
  · have HM : Hid (PM.wheres n s = ([], s)) := Lib.hid (by rw [PM.wheres, if_neg (by rw [hi]; decide)])
    refine (skips_no P g s [119, 104, 101, 114, 101] _ HP.out hi).mono ?_
    rintro e w1 ⟨rfl, h1, hf1⟩
    have H1 := Lib.hid h1
    have HF1 := Lib.hid hf1
    clear h1 hf1 hi
    go_wp2_with fail
    refine (some_no _ _).mono ?_
    rintro e w2 ⟨rfl, rfl⟩
    go_wp2_with fail
    go_ret
    rw [HM.out]
    exact ⟨⟨_, rfl, Rep.Es.nil⟩, H1.out, HF1.out⟩
  · have HM : Hid (PM.wheres n s = ([(PM.expr n (PM.skip s)).1], (PM.expr n (PM.skip s)).2)) := Lib.hid (by rw [PM.wheres, if_pos hi])
    refine (skips_yes P g s [119, 104, 101, 114, 101] _ HP.out hi).mono ?_
    rintro e w1 ⟨rfl, h1, hf1⟩
    have H1 := Lib.hid h1
    have HF1 := Lib.hid hf1
    have hs1 := hf1.size
    clear h1 hf1 hi
    go_wp2_with fail
    refine (some_yes P g (PM.skip s) 35 #[.pointer (some ⟨P, 0, none⟩)] #[] n (PM.expr n) w1 H1.out HN.out.1 HN.out.2.1 (by have := (PM.calm_skip s).2; have := HN.out; omega) (fun w => by kernel_rfl) (expr_all n P g w1)).mono ?_
    rintro e w2 ⟨⟨v, rfl, hv⟩, h2, hf2⟩
    have HV := Lib.hid hv
    have H2 := Lib.hid h2
    have HF2 := Lib.hid hf2
    clear hv h2 hf2
    go_wp2_with fail
    go_ret
    rw [HM.out]
    exact ⟨⟨_, rfl, Rep.Es.mono (fun b hb => by omega) HV.out⟩, H2.out, HF1.out.trans HF2.out⟩
end Px
end Go.Proofs.YtpmgecnkcllneaaDoor
