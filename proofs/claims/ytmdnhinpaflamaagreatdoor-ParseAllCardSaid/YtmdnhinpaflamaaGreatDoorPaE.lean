/- parse: create. -/
import Derived.Test.YtmdnhinpaflamaaGreatDoorPaD
import Derived.Maps.RangeWalk
namespace Go.Proofs.YtmdnhinpaflamaaGreatDoor
open Go.RowKit
namespace Px
open PM (PS B Ex)

theorem door_any (P g n : Nat) (s : PS) (w : World) (h : PR w P g s) (h0 : 0 ≤ s.deep) (h64 : s.deep ≤ 64) (hn : s.l.length ≤ n) (hb : s.l.length ≤ 1000) (kd : Int) (l : List B) (gs : Nat) (hW : StrsA (fun b => b = gs) w gs l) (hgs : ¬ gs = P) (hl : l.length ≤ 1000) (hdat : ∀ x ∈ l, ∀ s, PM.is x s = true → ∃ r, PM.data n s = some r) {st : PM.St} {s' : PS} (hq : PM.door n kd l s = (st, s')) :
    Calls Tryz.prog 102 #[.pointer (some ⟨P, 0, none⟩), .int .i64 kd, .slice (some ⟨gs, 0, none⟩) l.length l.length] w fun e w' => StR w.heap.size w' e st ∧ PR w' P g s' ∧ Fr [some P] w w' := by
  have e1 : st = (PM.door n kd l s).1 := by rw [hq]
  have e2 : s' = (PM.door n kd l s).2 := by rw [hq]
  subst e1 e2
  by_cases hk : (PM.needs [[115, 116, 114, 105, 112]] (PM.name s).2).now.kind = 3
  · exact door_tags P g n s w h h0 h64 hn hb kd l gs hW hgs hl hdat hk
  · exact door_bare P g n s w h h0 h64 hn hb kd l gs hW hgs hl hdat hk
theorem data_some {n : Nat} {s : PS} {x : B} (hx : x ∈ [[105, 110, 115, 101, 114, 116], [115, 101, 108, 101, 99, 116], [117, 112, 100, 97, 116, 101], [100, 101, 108, 101, 116, 101]]) (h : PM.is x s = true) : ∃ r, PM.data n s = some r := by
  unfold PM.data
  simp only [List.mem_cons, List.not_mem_nil, or_false] at hx
  split
  · exact ⟨_, rfl⟩
  · split
    · exact ⟨_, rfl⟩
    · split
      · exact ⟨_, rfl⟩
      · split
        · exact ⟨_, rfl⟩
        · rename_i h1 h2 h3 h4
          rcases hx with rfl | rfl | rfl | rfl
          · exact absurd h h1
          · exact absurd h h2
          · exact absurd h h3
          · exact absurd h h4

set_option maxRecDepth 100000 in
set_option maxHeartbeats 10000000 in
theorem create_table (P g n : Nat) (s : PS) (w : World) (h : PR w P g s) (h0 : 0 ≤ s.deep) (h64 : s.deep ≤ 64) (hn : s.l.length ≤ n) (hb : s.l.length ≤ 1000) (hi : PM.is [116, 97, 98, 108, 101] s = true) :
    Calls Tryz.prog 51 #[.pointer (some ⟨P, 0, none⟩)] w fun e w' => StR w.heap.size w' e (PM.create n s).1 ∧ PR w' P g (PM.create n s).2 ∧ Fr [some P] w w' := by
  have hPl := h.lt
  have hgP := h.ne
  have HPL := Lib.hid hPl
  have HD : Hid (Bd w P g w s) := Lib.hid (Bd.start h)
  have HX := Lib.hid hi
  clear hi
  have HN := Lib.hid (And.intro h0 (And.intro h64 (And.intro hn hb)))
  have HG0 := Lib.hid (PM.Le.refl s)
  clear h h0 h64 hn hb
  go_enter Tryz.func51, Tryz.ntmps51
  have HI := HX
  go_wp2_with fail
  refine (skips_yes P g s [116, 97, 98, 108, 101] _ (HD.out.alloc _).pr HI.out).mono ?_
  rintro e w1 ⟨rfl, h1, hf1⟩
  have hi1 := HI.out
  obtain ⟨s1, hq1⟩ : ∃ x, PM.skip s = x := ⟨_, rfl⟩
  rw [hq1] at h1
  have HQ1 := Lib.hid hq1
  have HI1 := Lib.hid hi1
  clear hq1 hi1
  have HD1 : Hid (Bd w P g w1 s1) := Lib.hid ((HD.out.alloc _).call h1 hf1)
  have HR1 : Hid (Ow w w1 w.heap.size 29 [.int .i64 0, .string ⟨#[]⟩, .string ⟨#[]⟩, .slice none 0 0, .slice none 0 0, .slice none 0 0, .slice none 0 0, .string ⟨#[]⟩, .slice none 0 0, .slice none 0 0, .slice none 0 0, .bool false, .slice none 0 0]) := Lib.hid ((Ow.new (by omega) 29 [.int .i64 0, .string ⟨#[]⟩, .string ⟨#[]⟩, .slice none 0 0, .slice none 0 0, .slice none 0 0, .slice none 0 0, .string ⟨#[]⟩, .slice none 0 0, .slice none 0 0, .slice none 0 0, .bool false, .slice none 0 0]).call HPL.out hf1)
  have hs1 := hf1.size
  simp only [World.size_alloc] at hs1
  have hlR1 := HR1.out.lt
  have hp1 := HD1.out.pr.lt
  clear h1 hf1
  have HG1 : Hid (PM.Le s1 s) := Lib.hid (HG0.out.calm PM.calm_skip HQ1.out)
  go_wp2_with fail
  refine (name_any P g s1 _ HD1.out.pr).mono ?_
  rintro e w2 ⟨rfl, h2, hf2⟩
  obtain ⟨m, s2, hq2⟩ : ∃ a b, PM.name s1 = (a, b) := ⟨_, _, rfl⟩
  rw [hq2] at h2 ⊢
  have HQ2 := Lib.hid hq2
  clear hq2
  have HD2 : Hid (Bd w P g w2 s2) := Lib.hid (HD1.out.call h2 hf2)
  have HR2 : Hid (Ow w w2 w.heap.size 29 [.int .i64 0, .string ⟨#[]⟩, .string ⟨#[]⟩, .slice none 0 0, .slice none 0 0, .slice none 0 0, .slice none 0 0, .string ⟨#[]⟩, .slice none 0 0, .slice none 0 0, .slice none 0 0, .bool false, .slice none 0 0]) := Lib.hid (HR1.out.call HPL.out hf2)
  have hs2 := hf2.size
  have hlR2 := HR2.out.lt
  have hp2 := HD2.out.pr.lt
  clear h2 hf2
  have HG2 : Hid (PM.Le s2 s) := Lib.hid (HG1.out.good PM.good_name HQ2.out)
  go_wp2_with fail
  refine (needs_new (n := w2.heap.size + 1) (HD2.out.alloc _).pr [[40]] (by decide) (by simp)).mono ?_
  rintro e w3 ⟨rfl, h3, hf3⟩
  obtain ⟨s3, hq3⟩ : ∃ x, PM.needs [[40]] s2 = x := ⟨_, rfl⟩
  rw [hq3] at h3
  have HQ3 := Lib.hid hq3
  clear hq3
  have HD3 : Hid (Bd w P g w3 s3) := Lib.hid (((HD2.out.alloc _).alloc _).call h3 hf3)
  have HR3 : Hid (Ow w w3 w.heap.size 29 [.int .i64 0, .string ⟨#[]⟩, .string ⟨#[]⟩, .slice none 0 0, .slice none 0 0, .slice none 0 0, .slice none 0 0, .string ⟨#[]⟩, .slice none 0 0, .slice none 0 0, .slice none 0 0, .bool false, .slice none 0 0]) := Lib.hid (((HR2.out.alloc _).alloc _).call HPL.out hf3)
  have HSt3 : Hid (Ow w w3 w2.heap.size 29 [.int .i64 1, .string ⟨#[]⟩, .string ⟨m.toArray⟩, .slice none 0 0, .slice none 0 0, .slice none 0 0, .slice none 0 0, .string ⟨#[]⟩, .slice none 0 0, .slice none 0 0, .slice none 0 0, .bool false, .slice none 0 0]) := Lib.hid (((Ow.new (by omega) 29 [.int .i64 1, .string ⟨#[]⟩, .string ⟨m.toArray⟩, .slice none 0 0, .slice none 0 0, .slice none 0 0, .slice none 0 0, .string ⟨#[]⟩, .slice none 0 0, .slice none 0 0, .slice none 0 0, .bool false, .slice none 0 0]).alloc _).call HPL.out hf3)
  have hs3 := hf3.size
  simp only [World.size_alloc] at hs3
  have hlR3 := HR3.out.lt
  have hlSt3 := HSt3.out.lt
  have hp3 := HD3.out.pr.lt
  clear h3 hf3
  have HG3 : Hid (PM.Le s3 s) := Lib.hid (HG2.out.calm (PM.calm_needs [[40]]) HQ3.out)
  obtain ⟨cl, s4, hq4⟩ : ∃ a b, PM.list PM.col s3 = (a, b) := ⟨_, _, rfl⟩
  have HQ4 := Lib.hid hq4
  clear hq4
  go_wp2_with fail
  refine (list_col' n HD3.out.pr (by have := HG3.out.1; have := HN.out; omega) (by have := HG3.out.1; have := HN.out; omega) (by have := HG3.out.2; have := HN.out; omega) (by have := HG3.out.2; have := HN.out; omega) HQ4.out).mono ?_
  rintro e w4 ⟨⟨cla, cll, clc, rfl, hv⟩, h4, hf4⟩
  have HD4 : Hid (Bd w P g w4 s4) := Lib.hid (HD3.out.call h4 hf4)
  have HR4 : Hid (Ow w w4 w.heap.size 29 [.int .i64 0, .string ⟨#[]⟩, .string ⟨#[]⟩, .slice none 0 0, .slice none 0 0, .slice none 0 0, .slice none 0 0, .string ⟨#[]⟩, .slice none 0 0, .slice none 0 0, .slice none 0 0, .bool false, .slice none 0 0]) := Lib.hid (HR3.out.call HPL.out hf4)
  have HSt4 : Hid (Ow w w4 w2.heap.size 29 [.int .i64 1, .string ⟨#[]⟩, .string ⟨m.toArray⟩, .slice none 0 0, .slice none 0 0, .slice none 0 0, .slice none 0 0, .string ⟨#[]⟩, .slice none 0 0, .slice none 0 0, .slice none 0 0, .bool false, .slice none 0 0]) := Lib.hid (HSt3.out.call HPL.out hf4)
  have hs4 := hf4.size
  have hlR4 := HR4.out.lt
  have hlSt4 := HSt4.out.lt
  have hp4 := HD4.out.pr.lt
  clear h4 hf4
  have HG4 : Hid (PM.Le s4 s) := Lib.hid (HG3.out.good (PM.good_list PM.good_col) HQ4.out)
  have HCs4 := Lib.hid (FlatS.mono (A' := fun b => w2.heap.size < b) (fun b hb => by first | omega | (simp at hb; omega)) hv)
  clear hv
  obtain ⟨Stc0, Stc1, Stc2, Stc3, Stc4, Stc5, Stc6, Stc7, Stc8, Stc9, Stc10, Stc11, Stc12, Stf0, Stf1, Stf2, Stf3, Stf4, Stf5, Stf6, Stf7, Stf8, Stf9, Stf10, Stf11, Stf12⟩ := c13_of HSt4.out.blk
  go_wp2_with fail
  clear Stc0 Stc1 Stc2 Stc3 Stc4 Stc5 Stc6 Stc7 Stc8 Stc9 Stc10 Stc11 Stc12 Stf0 Stf1 Stf2 Stf3 Stf4 Stf5 Stf6 Stf7 Stf8 Stf9 Stf10 Stf11 Stf12
  go_wp2_with fail
  refine (needs_new (n := w4.heap.size) (HD4.out.set (by omega)).pr [[41]] (by decide) (by simp)).mono ?_
  rintro e w5 ⟨rfl, h5, hf5⟩
  obtain ⟨s5, hq5⟩ : ∃ x, PM.needs [[41]] s4 = x := ⟨_, rfl⟩
  rw [hq5] at h5
  have HQ5 := Lib.hid hq5
  clear hq5
  have HD5 : Hid (Bd w P g w5 s5) := Lib.hid (((HD4.out.set (by omega)).alloc _).call h5 hf5)
  have HR5 : Hid (Ow w w5 w.heap.size 29 [.int .i64 0, .string ⟨#[]⟩, .string ⟨#[]⟩, .slice none 0 0, .slice none 0 0, .slice none 0 0, .slice none 0 0, .string ⟨#[]⟩, .slice none 0 0, .slice none 0 0, .slice none 0 0, .bool false, .slice none 0 0]) := Lib.hid (((HR4.out.other (by omega)).alloc _).call HPL.out hf5)
  have HSt5 : Hid (Ow w w5 w2.heap.size 29 [.int .i64 1, .string ⟨#[]⟩, .string ⟨m.toArray⟩, (.slice cla cll clc), .slice none 0 0, .slice none 0 0, .slice none 0 0, .string ⟨#[]⟩, .slice none 0 0, .slice none 0 0, .slice none 0 0, .bool false, .slice none 0 0]) := Lib.hid (((HSt4.out.set 3 (.slice cla cll clc)).alloc _).call HPL.out hf5)
  have HCs5 := Lib.hid (FlatS.keep hf5 (fun b hb => by simp <;> omega) (FlatS.keep (((Fr.refl [some w2.heap.size] w4).setCell (p := ⟨w2.heap.size, 3, none⟩) (.inl (by simp)) (.slice cla cll clc)).alloc _) (fun b hb => by simp <;> omega) HCs4.out))
  have hs5 := hf5.size
  simp only [World.size_alloc, World.size_setCell] at hs5
  have hlR5 := HR5.out.lt
  have hlSt5 := HSt5.out.lt
  have hp5 := HD5.out.pr.lt
  clear h5 hf5
  have HG5 : Hid (PM.Le s5 s) := Lib.hid (HG4.out.calm (PM.calm_needs [[41]]) HQ5.out)
  have HM : Hid (PM.create n s = (.mk 1 [] m cl [] [] [] [] [] [] [] false [], s5)) := Lib.hid (by simp only [PM.create, HI1.out, HQ1.out, HQ2.out, HQ3.out, HQ4.out, HQ5.out, if_true, eq_self])
  have hnRSt : ¬ w.heap.size = w2.heap.size := by omega
  have hnStR : ¬ w2.heap.size = w.heap.size := by omega
  obtain ⟨Stc0, Stc1, Stc2, Stc3, Stc4, Stc5, Stc6, Stc7, Stc8, Stc9, Stc10, Stc11, Stc12, Stf0, Stf1, Stf2, Stf3, Stf4, Stf5, Stf6, Stf7, Stf8, Stf9, Stf10, Stf11, Stf12⟩ := c13_of HSt5.out.blk
  obtain ⟨Rc0, Rc1, Rc2, Rc3, Rc4, Rc5, Rc6, Rc7, Rc8, Rc9, Rc10, Rc11, Rc12, Rf0, Rf1, Rf2, Rf3, Rf4, Rf5, Rf6, Rf7, Rf8, Rf9, Rf10, Rf11, Rf12⟩ := c13_of HR5.out.blk
  go_wp2_with fail
  refine bodyPost_ret (ret_cell13 rfl _ w.heap.size rfl _ _ _ _ _ _ _ _ _ _ _ _ _ _ (blkPut13 HR5.out.blk _ _ _ _ _ _ _ _ _ _ _ _ _)) rfl ?_
  rw [HM.out]
  exact ⟨⟨_, rfl, .mk _ _ _ _ _ _ _ _ _ _ _ _ _ _ _ _ _ _ _ _ _ (FlatS.mono (A' := fun b => w.heap.size ≤ b) (fun b hb => by omega) (FlatS.keep (frPut13 (Fr.refl [some w.heap.size] w5) (.inl (by simp)) _ _ _ _ _ _ _ _ _ _ _ _ _) (fun b hb => by simp; omega) HCs5.out)) .nil Rep.Es.nil .nil Rep.Es.nil Rep.Es.nil Rep.Es.nil SS.nil⟩, (HD5.out.pr.keep (frPut13 (Fr.refl [some w.heap.size] _) (.inl (by simp)) _ _ _ _ _ _ _ _ _ _ _ _ _) (by simp; omega) (by simp; omega)), (frPut13 HD5.out.fr (.inr HR5.out.ge) _ _ _ _ _ _ _ _ _ _ _ _ _)⟩
set_option maxRecDepth 100000 in
set_option maxHeartbeats 10000000 in
theorem create_index (P g n : Nat) (s : PS) (w : World) (h : PR w P g s) (h0 : 0 ≤ s.deep) (h64 : s.deep ≤ 64) (hn : s.l.length ≤ n) (hb : s.l.length ≤ 1000) (hi : PM.is [105, 110, 100, 101, 120] s = true) :
    Calls Tryz.prog 51 #[.pointer (some ⟨P, 0, none⟩)] w fun e w' => StR w.heap.size w' e (PM.create n s).1 ∧ PR w' P g (PM.create n s).2 ∧ Fr [some P] w w' := by
  have hPl := h.lt
  have hgP := h.ne
  have HPL := Lib.hid hPl
  have HD : Hid (Bd w P g w s) := Lib.hid (Bd.start h)
  have HX := Lib.hid hi
  clear hi
  have HN := Lib.hid (And.intro h0 (And.intro h64 (And.intro hn hb)))
  have HG0 := Lib.hid (PM.Le.refl s)
  clear h h0 h64 hn hb
  go_enter Tryz.func51, Tryz.ntmps51
  have HI := Lib.hid (is_ne (b := [116, 97, 98, 108, 101]) HX.out (by decide))
  go_wp2_with fail
  refine (skips_no P g s [116, 97, 98, 108, 101] _ (HD.out.alloc _).pr HI.out).mono ?_
  rintro e w1 ⟨rfl, h1, hf1⟩
  have HI1 := Lib.hid HI.out
  have HD1 : Hid (Bd w P g w1 s) := Lib.hid ((HD.out.alloc _).call h1 hf1)
  have HR1 : Hid (Ow w w1 w.heap.size 29 [.int .i64 0, .string ⟨#[]⟩, .string ⟨#[]⟩, .slice none 0 0, .slice none 0 0, .slice none 0 0, .slice none 0 0, .string ⟨#[]⟩, .slice none 0 0, .slice none 0 0, .slice none 0 0, .bool false, .slice none 0 0]) := Lib.hid ((Ow.new (by omega) 29 [.int .i64 0, .string ⟨#[]⟩, .string ⟨#[]⟩, .slice none 0 0, .slice none 0 0, .slice none 0 0, .slice none 0 0, .string ⟨#[]⟩, .slice none 0 0, .slice none 0 0, .slice none 0 0, .bool false, .slice none 0 0]).call HPL.out hf1)
  have hs1 := hf1.size
  simp only [World.size_alloc] at hs1
  have hlR1 := HR1.out.lt
  have hp1 := HD1.out.pr.lt
  clear h1 hf1
  have HI := HX
  go_wp2_with fail
  refine (skips_yes P g s [105, 110, 100, 101, 120] _ HD1.out.pr HI.out).mono ?_
  rintro e w2 ⟨rfl, h2, hf2⟩
  have hi2 := HI.out
  obtain ⟨s1, hq2⟩ : ∃ x, PM.skip s = x := ⟨_, rfl⟩
  rw [hq2] at h2
  have HQ2 := Lib.hid hq2
  have HI2 := Lib.hid hi2
  clear hq2 hi2
  have HD2 : Hid (Bd w P g w2 s1) := Lib.hid (HD1.out.call h2 hf2)
  have HR2 : Hid (Ow w w2 w.heap.size 29 [.int .i64 0, .string ⟨#[]⟩, .string ⟨#[]⟩, .slice none 0 0, .slice none 0 0, .slice none 0 0, .slice none 0 0, .string ⟨#[]⟩, .slice none 0 0, .slice none 0 0, .slice none 0 0, .bool false, .slice none 0 0]) := Lib.hid (HR1.out.call HPL.out hf2)
  have hs2 := hf2.size
  have hlR2 := HR2.out.lt
  have hp2 := HD2.out.pr.lt
  clear h2 hf2
  have HG2 : Hid (PM.Le s1 s) := Lib.hid (HG0.out.calm PM.calm_skip HQ2.out)
  go_wp2_with fail
  refine (needs_new (n := w2.heap.size) HD2.out.pr [[111, 110]] (by decide) (by simp)).mono ?_
  rintro e w3 ⟨rfl, h3, hf3⟩
  obtain ⟨s2, hq3⟩ : ∃ x, PM.needs [[111, 110]] s1 = x := ⟨_, rfl⟩
  rw [hq3] at h3
  have HQ3 := Lib.hid hq3
  clear hq3
  have HD3 : Hid (Bd w P g w3 s2) := Lib.hid ((HD2.out.alloc _).call h3 hf3)
  have HR3 : Hid (Ow w w3 w.heap.size 29 [.int .i64 0, .string ⟨#[]⟩, .string ⟨#[]⟩, .slice none 0 0, .slice none 0 0, .slice none 0 0, .slice none 0 0, .string ⟨#[]⟩, .slice none 0 0, .slice none 0 0, .slice none 0 0, .bool false, .slice none 0 0]) := Lib.hid ((HR2.out.alloc _).call HPL.out hf3)
  have hs3 := hf3.size
  simp only [World.size_alloc] at hs3
  have hlR3 := HR3.out.lt
  have hp3 := HD3.out.pr.lt
  clear h3 hf3
  have HG3 : Hid (PM.Le s2 s) := Lib.hid (HG2.out.calm (PM.calm_needs [[111, 110]]) HQ3.out)
  go_wp2_with fail
  refine (name_any P g s2 _ HD3.out.pr).mono ?_
  rintro e w4 ⟨rfl, h4, hf4⟩
  obtain ⟨tn, s3, hq4⟩ : ∃ a b, PM.name s2 = (a, b) := ⟨_, _, rfl⟩
  rw [hq4] at h4 ⊢
  have HQ4 := Lib.hid hq4
  clear hq4
  have HD4 : Hid (Bd w P g w4 s3) := Lib.hid (HD3.out.call h4 hf4)
  have HR4 : Hid (Ow w w4 w.heap.size 29 [.int .i64 0, .string ⟨#[]⟩, .string ⟨#[]⟩, .slice none 0 0, .slice none 0 0, .slice none 0 0, .slice none 0 0, .string ⟨#[]⟩, .slice none 0 0, .slice none 0 0, .slice none 0 0, .bool false, .slice none 0 0]) := Lib.hid (HR3.out.call HPL.out hf4)
  have hs4 := hf4.size
  have hlR4 := HR4.out.lt
  have hp4 := HD4.out.pr.lt
  clear h4 hf4
  have HG4 : Hid (PM.Le s3 s) := Lib.hid (HG3.out.good PM.good_name HQ4.out)
  go_wp2_with fail
  refine (needs_new (n := w4.heap.size + 1) (HD4.out.alloc _).pr [[40]] (by decide) (by simp)).mono ?_
  rintro e w5 ⟨rfl, h5, hf5⟩
  obtain ⟨s4, hq5⟩ : ∃ x, PM.needs [[40]] s3 = x := ⟨_, rfl⟩
  rw [hq5] at h5
  have HQ5 := Lib.hid hq5
  clear hq5
  have HD5 : Hid (Bd w P g w5 s4) := Lib.hid (((HD4.out.alloc _).alloc _).call h5 hf5)
  have HR5 : Hid (Ow w w5 w.heap.size 29 [.int .i64 0, .string ⟨#[]⟩, .string ⟨#[]⟩, .slice none 0 0, .slice none 0 0, .slice none 0 0, .slice none 0 0, .string ⟨#[]⟩, .slice none 0 0, .slice none 0 0, .slice none 0 0, .bool false, .slice none 0 0]) := Lib.hid (((HR4.out.alloc _).alloc _).call HPL.out hf5)
  have HSt5 : Hid (Ow w w5 w4.heap.size 29 [.int .i64 2, .string ⟨tn.toArray⟩, .string ⟨#[]⟩, .slice none 0 0, .slice none 0 0, .slice none 0 0, .slice none 0 0, .string ⟨#[]⟩, .slice none 0 0, .slice none 0 0, .slice none 0 0, .bool false, .slice none 0 0]) := Lib.hid (((Ow.new (by omega) 29 [.int .i64 2, .string ⟨tn.toArray⟩, .string ⟨#[]⟩, .slice none 0 0, .slice none 0 0, .slice none 0 0, .slice none 0 0, .string ⟨#[]⟩, .slice none 0 0, .slice none 0 0, .slice none 0 0, .bool false, .slice none 0 0]).alloc _).call HPL.out hf5)
  have hs5 := hf5.size
  simp only [World.size_alloc] at hs5
  have hlR5 := HR5.out.lt
  have hlSt5 := HSt5.out.lt
  have hp5 := HD5.out.pr.lt
  clear h5 hf5
  have HG5 : Hid (PM.Le s4 s) := Lib.hid (HG4.out.calm (PM.calm_needs [[40]]) HQ5.out)
  go_wp2_with fail
  refine (name_any P g s4 _ HD5.out.pr).mono ?_
  rintro e w6 ⟨rfl, h6, hf6⟩
  obtain ⟨m, s5, hq6⟩ : ∃ a b, PM.name s4 = (a, b) := ⟨_, _, rfl⟩
  rw [hq6] at h6 ⊢
  have HQ6 := Lib.hid hq6
  clear hq6
  have HD6 : Hid (Bd w P g w6 s5) := Lib.hid (HD5.out.call h6 hf6)
  have HR6 : Hid (Ow w w6 w.heap.size 29 [.int .i64 0, .string ⟨#[]⟩, .string ⟨#[]⟩, .slice none 0 0, .slice none 0 0, .slice none 0 0, .slice none 0 0, .string ⟨#[]⟩, .slice none 0 0, .slice none 0 0, .slice none 0 0, .bool false, .slice none 0 0]) := Lib.hid (HR5.out.call HPL.out hf6)
  have HSt6 : Hid (Ow w w6 w4.heap.size 29 [.int .i64 2, .string ⟨tn.toArray⟩, .string ⟨#[]⟩, .slice none 0 0, .slice none 0 0, .slice none 0 0, .slice none 0 0, .string ⟨#[]⟩, .slice none 0 0, .slice none 0 0, .slice none 0 0, .bool false, .slice none 0 0]) := Lib.hid (HSt5.out.call HPL.out hf6)
  have hs6 := hf6.size
  have hlR6 := HR6.out.lt
  have hlSt6 := HSt6.out.lt
  have hp6 := HD6.out.pr.lt
  clear h6 hf6
  have HG6 : Hid (PM.Le s5 s) := Lib.hid (HG5.out.good PM.good_name HQ6.out)
  obtain ⟨Stc0, Stc1, Stc2, Stc3, Stc4, Stc5, Stc6, Stc7, Stc8, Stc9, Stc10, Stc11, Stc12, Stf0, Stf1, Stf2, Stf3, Stf4, Stf5, Stf6, Stf7, Stf8, Stf9, Stf10, Stf11, Stf12⟩ := c13_of HSt6.out.blk
  go_wp2_with fail
  clear Stc0 Stc1 Stc2 Stc3 Stc4 Stc5 Stc6 Stc7 Stc8 Stc9 Stc10 Stc11 Stc12 Stf0 Stf1 Stf2 Stf3 Stf4 Stf5 Stf6 Stf7 Stf8 Stf9 Stf10 Stf11 Stf12
  go_wp2_with fail
  refine (needs_new (n := w6.heap.size) (HD6.out.set (by omega)).pr [[41]] (by decide) (by simp)).mono ?_
  rintro e w7 ⟨rfl, h7, hf7⟩
  obtain ⟨s6, hq7⟩ : ∃ x, PM.needs [[41]] s5 = x := ⟨_, rfl⟩
  rw [hq7] at h7
  have HQ7 := Lib.hid hq7
  clear hq7
  have HD7 : Hid (Bd w P g w7 s6) := Lib.hid (((HD6.out.set (by omega)).alloc _).call h7 hf7)
  have HR7 : Hid (Ow w w7 w.heap.size 29 [.int .i64 0, .string ⟨#[]⟩, .string ⟨#[]⟩, .slice none 0 0, .slice none 0 0, .slice none 0 0, .slice none 0 0, .string ⟨#[]⟩, .slice none 0 0, .slice none 0 0, .slice none 0 0, .bool false, .slice none 0 0]) := Lib.hid (((HR6.out.other (by omega)).alloc _).call HPL.out hf7)
  have HSt7 : Hid (Ow w w7 w4.heap.size 29 [.int .i64 2, .string ⟨tn.toArray⟩, (.string ⟨m.toArray⟩), .slice none 0 0, .slice none 0 0, .slice none 0 0, .slice none 0 0, .string ⟨#[]⟩, .slice none 0 0, .slice none 0 0, .slice none 0 0, .bool false, .slice none 0 0]) := Lib.hid (((HSt6.out.set 2 (.string ⟨m.toArray⟩)).alloc _).call HPL.out hf7)
  have hs7 := hf7.size
  simp only [World.size_alloc, World.size_setCell] at hs7
  have hlR7 := HR7.out.lt
  have hlSt7 := HSt7.out.lt
  have hp7 := HD7.out.pr.lt
  clear h7 hf7
  have HG7 : Hid (PM.Le s6 s) := Lib.hid (HG6.out.calm (PM.calm_needs [[41]]) HQ7.out)
  have HM : Hid (PM.create n s = (.mk 2 tn m [] [] [] [] [] [] [] [] false [], s6)) := Lib.hid (by simp only [PM.create, HI1.out, HI2.out, HQ2.out, HQ3.out, HQ4.out, HQ5.out, HQ6.out, HQ7.out, if_true, if_false, Bool.false_eq_true, eq_self])
  have hnRSt : ¬ w.heap.size = w4.heap.size := by omega
  have hnStR : ¬ w4.heap.size = w.heap.size := by omega
  obtain ⟨Stc0, Stc1, Stc2, Stc3, Stc4, Stc5, Stc6, Stc7, Stc8, Stc9, Stc10, Stc11, Stc12, Stf0, Stf1, Stf2, Stf3, Stf4, Stf5, Stf6, Stf7, Stf8, Stf9, Stf10, Stf11, Stf12⟩ := c13_of HSt7.out.blk
  obtain ⟨Rc0, Rc1, Rc2, Rc3, Rc4, Rc5, Rc6, Rc7, Rc8, Rc9, Rc10, Rc11, Rc12, Rf0, Rf1, Rf2, Rf3, Rf4, Rf5, Rf6, Rf7, Rf8, Rf9, Rf10, Rf11, Rf12⟩ := c13_of HR7.out.blk
  go_wp2_with fail
  refine bodyPost_ret (ret_cell13 rfl _ w.heap.size rfl _ _ _ _ _ _ _ _ _ _ _ _ _ _ (blkPut13 HR7.out.blk _ _ _ _ _ _ _ _ _ _ _ _ _)) rfl ?_
  rw [HM.out]
  exact ⟨⟨_, rfl, .mk _ _ _ _ _ _ _ _ _ _ _ _ _ _ _ _ _ _ _ _ _ .nil .nil Rep.Es.nil .nil Rep.Es.nil Rep.Es.nil Rep.Es.nil SS.nil⟩, (HD7.out.pr.keep (frPut13 (Fr.refl [some w.heap.size] _) (.inl (by simp)) _ _ _ _ _ _ _ _ _ _ _ _ _) (by simp; omega) (by simp; omega)), (frPut13 HD7.out.fr (.inr HR7.out.ge) _ _ _ _ _ _ _ _ _ _ _ _ _)⟩
set_option maxRecDepth 100000 in
set_option maxHeartbeats 10000000 in
theorem create_view (P g n : Nat) (s : PS) (w : World) (h : PR w P g s) (h0 : 0 ≤ s.deep) (h64 : s.deep ≤ 64) (hn : s.l.length ≤ n) (hb : s.l.length ≤ 1000) (hi : PM.is [118, 105, 101, 119] s = true) :
    Calls Tryz.prog 51 #[.pointer (some ⟨P, 0, none⟩)] w fun e w' => StR w.heap.size w' e (PM.create n s).1 ∧ PR w' P g (PM.create n s).2 ∧ Fr [some P] w w' := by
  have hPl := h.lt
  have hgP := h.ne
  have HPL := Lib.hid hPl
  have HD : Hid (Bd w P g w s) := Lib.hid (Bd.start h)
  have HX := Lib.hid hi
  clear hi
  have HN := Lib.hid (And.intro h0 (And.intro h64 (And.intro hn hb)))
  have HG0 := Lib.hid (PM.Le.refl s)
  clear h h0 h64 hn hb
  go_enter Tryz.func51, Tryz.ntmps51
  have HI := Lib.hid (is_ne (b := [116, 97, 98, 108, 101]) HX.out (by decide))
  go_wp2_with fail
  refine (skips_no P g s [116, 97, 98, 108, 101] _ (HD.out.alloc _).pr HI.out).mono ?_
  rintro e w1 ⟨rfl, h1, hf1⟩
  have HI1 := Lib.hid HI.out
  have HD1 : Hid (Bd w P g w1 s) := Lib.hid ((HD.out.alloc _).call h1 hf1)
  have HR1 : Hid (Ow w w1 w.heap.size 29 [.int .i64 0, .string ⟨#[]⟩, .string ⟨#[]⟩, .slice none 0 0, .slice none 0 0, .slice none 0 0, .slice none 0 0, .string ⟨#[]⟩, .slice none 0 0, .slice none 0 0, .slice none 0 0, .bool false, .slice none 0 0]) := Lib.hid ((Ow.new (by omega) 29 [.int .i64 0, .string ⟨#[]⟩, .string ⟨#[]⟩, .slice none 0 0, .slice none 0 0, .slice none 0 0, .slice none 0 0, .string ⟨#[]⟩, .slice none 0 0, .slice none 0 0, .slice none 0 0, .bool false, .slice none 0 0]).call HPL.out hf1)
  have hs1 := hf1.size
  simp only [World.size_alloc] at hs1
  have hlR1 := HR1.out.lt
  have hp1 := HD1.out.pr.lt
  clear h1 hf1
  have HI := Lib.hid (is_ne (b := [105, 110, 100, 101, 120]) HX.out (by decide))
  go_wp2_with fail
  refine (skips_no P g s [105, 110, 100, 101, 120] _ HD1.out.pr HI.out).mono ?_
  rintro e w2 ⟨rfl, h2, hf2⟩
  have HI2 := Lib.hid HI.out
  have HD2 : Hid (Bd w P g w2 s) := Lib.hid (HD1.out.call h2 hf2)
  have HR2 : Hid (Ow w w2 w.heap.size 29 [.int .i64 0, .string ⟨#[]⟩, .string ⟨#[]⟩, .slice none 0 0, .slice none 0 0, .slice none 0 0, .slice none 0 0, .string ⟨#[]⟩, .slice none 0 0, .slice none 0 0, .slice none 0 0, .bool false, .slice none 0 0]) := Lib.hid (HR1.out.call HPL.out hf2)
  have hs2 := hf2.size
  have hlR2 := HR2.out.lt
  have hp2 := HD2.out.pr.lt
  clear h2 hf2
  have HI := HX
  go_wp2_with fail
  refine (skips_yes P g s [118, 105, 101, 119] _ HD2.out.pr HI.out).mono ?_
  rintro e w3 ⟨rfl, h3, hf3⟩
  have hi3 := HI.out
  obtain ⟨s1, hq3⟩ : ∃ x, PM.skip s = x := ⟨_, rfl⟩
  rw [hq3] at h3
  have HQ3 := Lib.hid hq3
  have HI3 := Lib.hid hi3
  clear hq3 hi3
  have HD3 : Hid (Bd w P g w3 s1) := Lib.hid (HD2.out.call h3 hf3)
  have HR3 : Hid (Ow w w3 w.heap.size 29 [.int .i64 0, .string ⟨#[]⟩, .string ⟨#[]⟩, .slice none 0 0, .slice none 0 0, .slice none 0 0, .slice none 0 0, .string ⟨#[]⟩, .slice none 0 0, .slice none 0 0, .slice none 0 0, .bool false, .slice none 0 0]) := Lib.hid (HR2.out.call HPL.out hf3)
  have hs3 := hf3.size
  have hlR3 := HR3.out.lt
  have hp3 := HD3.out.pr.lt
  clear h3 hf3
  have HG3 : Hid (PM.Le s1 s) := Lib.hid (HG0.out.calm PM.calm_skip HQ3.out)
  obtain ⟨sx, s2, hqd⟩ : ∃ a b, PM.door n 3 [[115, 101, 108, 101, 99, 116]] s1 = (a, b) := ⟨_, _, rfl⟩
  have HQD := Lib.hid hqd
  clear hqd
  go_wp2_with fail
  refine (door_any P g n s1 _ (HD3.out.pr.alloc _) (by have := HG3.out.1; have := HN.out; omega) (by have := HG3.out.1; have := HN.out; omega) (by have := HG3.out.2; have := HN.out; omega) (by have := HG3.out.2; have := HN.out; omega) 3 [[115, 101, 108, 101, 99, 116]] w3.heap.size (strsA_new (l := [[115, 101, 108, 101, 99, 116]]) rfl) (by omega) (by decide) (fun x hx s h => data_some (by revert hx; simp only [List.mem_cons, List.not_mem_nil, or_false]; intro hx; rcases hx with rfl <;> simp) h) HQD.out).mono ?_
  rintro e w4 ⟨hx, h4, hf4⟩
  obtain ⟨kind, table, name, join, a3, a4, a5, a6, a8, a9, a10, a12, l3, l4, l5, l6, l8, l9, l10, l12, c3, c4, c5, c6, c8, c9, c10, c12, desc, rfl, hrep⟩ := st_cells hx
  have HREP := Lib.hid hrep
  clear hx hrep
  have HD4 : Hid (Bd w P g w4 s2) := Lib.hid ((HD3.out.alloc _).call h4 hf4)
  have HR4 : Hid (Ow w w4 w.heap.size 29 [.int .i64 0, .string ⟨#[]⟩, .string ⟨#[]⟩, .slice none 0 0, .slice none 0 0, .slice none 0 0, .slice none 0 0, .string ⟨#[]⟩, .slice none 0 0, .slice none 0 0, .slice none 0 0, .bool false, .slice none 0 0]) := Lib.hid ((HR3.out.alloc _).call HPL.out hf4)
  have hs4 := hf4.size
  simp only [World.size_alloc] at hs4
  have hlR4 := HR4.out.lt
  have hp4 := HD4.out.pr.lt
  clear h4 hf4
  have HM : Hid (PM.create n s = (sx, s2)) := Lib.hid (by simp only [PM.create, HI1.out, HI2.out, HI3.out, HQ3.out, HQD.out, if_true, if_false, Bool.false_eq_true, eq_self])
  obtain ⟨Rc0, Rc1, Rc2, Rc3, Rc4, Rc5, Rc6, Rc7, Rc8, Rc9, Rc10, Rc11, Rc12, Rf0, Rf1, Rf2, Rf3, Rf4, Rf5, Rf6, Rf7, Rf8, Rf9, Rf10, Rf11, Rf12⟩ := c13_of HR4.out.blk
  go_wp2_with fail
  refine bodyPost_ret (ret_cell13 rfl _ w.heap.size rfl _ _ _ _ _ _ _ _ _ _ _ _ _ _ (blkPut13 HR4.out.blk _ _ _ _ _ _ _ _ _ _ _ _ _)) rfl ?_
  rw [HM.out]
  exact st_end HD4.out (frPut13 (Fr.refl [some w.heap.size] _) (.inl (by simp)) _ _ _ _ _ _ _ _ _ _ _ _ _) (Nat.le_refl _) (SR.mono (fun b hb => by first | omega | (simp at hb; omega)) HREP.out)
set_option maxRecDepth 100000 in
set_option maxHeartbeats 10000000 in
theorem create_closure (P g n : Nat) (s : PS) (w : World) (h : PR w P g s) (h0 : 0 ≤ s.deep) (h64 : s.deep ≤ 64) (hn : s.l.length ≤ n) (hb : s.l.length ≤ 1000) (hi : PM.is [99, 108, 111, 115, 117, 114, 101] s = true) :
    Calls Tryz.prog 51 #[.pointer (some ⟨P, 0, none⟩)] w fun e w' => StR w.heap.size w' e (PM.create n s).1 ∧ PR w' P g (PM.create n s).2 ∧ Fr [some P] w w' := by
  have hPl := h.lt
  have hgP := h.ne
  have HPL := Lib.hid hPl
  have HD : Hid (Bd w P g w s) := Lib.hid (Bd.start h)
  have HX := Lib.hid hi
  clear hi
  have HN := Lib.hid (And.intro h0 (And.intro h64 (And.intro hn hb)))
  have HG0 := Lib.hid (PM.Le.refl s)
  clear h h0 h64 hn hb
  go_enter Tryz.func51, Tryz.ntmps51
  have HI := Lib.hid (is_ne (b := [116, 97, 98, 108, 101]) HX.out (by decide))
  go_wp2_with fail
  refine (skips_no P g s [116, 97, 98, 108, 101] _ (HD.out.alloc _).pr HI.out).mono ?_
  rintro e w1 ⟨rfl, h1, hf1⟩
  have HI1 := Lib.hid HI.out
  have HD1 : Hid (Bd w P g w1 s) := Lib.hid ((HD.out.alloc _).call h1 hf1)
  have HR1 : Hid (Ow w w1 w.heap.size 29 [.int .i64 0, .string ⟨#[]⟩, .string ⟨#[]⟩, .slice none 0 0, .slice none 0 0, .slice none 0 0, .slice none 0 0, .string ⟨#[]⟩, .slice none 0 0, .slice none 0 0, .slice none 0 0, .bool false, .slice none 0 0]) := Lib.hid ((Ow.new (by omega) 29 [.int .i64 0, .string ⟨#[]⟩, .string ⟨#[]⟩, .slice none 0 0, .slice none 0 0, .slice none 0 0, .slice none 0 0, .string ⟨#[]⟩, .slice none 0 0, .slice none 0 0, .slice none 0 0, .bool false, .slice none 0 0]).call HPL.out hf1)
  have hs1 := hf1.size
  simp only [World.size_alloc] at hs1
  have hlR1 := HR1.out.lt
  have hp1 := HD1.out.pr.lt
  clear h1 hf1
  have HI := Lib.hid (is_ne (b := [105, 110, 100, 101, 120]) HX.out (by decide))
  go_wp2_with fail
  refine (skips_no P g s [105, 110, 100, 101, 120] _ HD1.out.pr HI.out).mono ?_
  rintro e w2 ⟨rfl, h2, hf2⟩
  have HI2 := Lib.hid HI.out
  have HD2 : Hid (Bd w P g w2 s) := Lib.hid (HD1.out.call h2 hf2)
  have HR2 : Hid (Ow w w2 w.heap.size 29 [.int .i64 0, .string ⟨#[]⟩, .string ⟨#[]⟩, .slice none 0 0, .slice none 0 0, .slice none 0 0, .slice none 0 0, .string ⟨#[]⟩, .slice none 0 0, .slice none 0 0, .slice none 0 0, .bool false, .slice none 0 0]) := Lib.hid (HR1.out.call HPL.out hf2)
  have hs2 := hf2.size
  have hlR2 := HR2.out.lt
  have hp2 := HD2.out.pr.lt
  clear h2 hf2
  have HI := Lib.hid (is_ne (b := [118, 105, 101, 119]) HX.out (by decide))
  go_wp2_with fail
  refine (skips_no P g s [118, 105, 101, 119] _ HD2.out.pr HI.out).mono ?_
  rintro e w3 ⟨rfl, h3, hf3⟩
  have HI3 := Lib.hid HI.out
  have HD3 : Hid (Bd w P g w3 s) := Lib.hid (HD2.out.call h3 hf3)
  have HR3 : Hid (Ow w w3 w.heap.size 29 [.int .i64 0, .string ⟨#[]⟩, .string ⟨#[]⟩, .slice none 0 0, .slice none 0 0, .slice none 0 0, .slice none 0 0, .string ⟨#[]⟩, .slice none 0 0, .slice none 0 0, .slice none 0 0, .bool false, .slice none 0 0]) := Lib.hid (HR2.out.call HPL.out hf3)
  have hs3 := hf3.size
  have hlR3 := HR3.out.lt
  have hp3 := HD3.out.pr.lt
  clear h3 hf3
  have HI := HX
  go_wp2_with fail
  refine (skips_yes P g s [99, 108, 111, 115, 117, 114, 101] _ HD3.out.pr HI.out).mono ?_
  rintro e w4 ⟨rfl, h4, hf4⟩
  have hi4 := HI.out
  obtain ⟨s1, hq4⟩ : ∃ x, PM.skip s = x := ⟨_, rfl⟩
  rw [hq4] at h4
  have HQ4 := Lib.hid hq4
  have HI4 := Lib.hid hi4
  clear hq4 hi4
  have HD4 : Hid (Bd w P g w4 s1) := Lib.hid (HD3.out.call h4 hf4)
  have HR4 : Hid (Ow w w4 w.heap.size 29 [.int .i64 0, .string ⟨#[]⟩, .string ⟨#[]⟩, .slice none 0 0, .slice none 0 0, .slice none 0 0, .slice none 0 0, .string ⟨#[]⟩, .slice none 0 0, .slice none 0 0, .slice none 0 0, .bool false, .slice none 0 0]) := Lib.hid (HR3.out.call HPL.out hf4)
  have hs4 := hf4.size
  have hlR4 := HR4.out.lt
  have hp4 := HD4.out.pr.lt
  clear h4 hf4
  have HG4 : Hid (PM.Le s1 s) := Lib.hid (HG0.out.calm PM.calm_skip HQ4.out)
  obtain ⟨sx, s2, hqd⟩ : ∃ a b, PM.door n 4 [[105, 110, 115, 101, 114, 116], [117, 112, 100, 97, 116, 101], [100, 101, 108, 101, 116, 101]] s1 = (a, b) := ⟨_, _, rfl⟩
  have HQD := Lib.hid hqd
  clear hqd
  go_wp2_with fail
  refine (door_any P g n s1 _ (HD4.out.pr.alloc _) (by have := HG4.out.1; have := HN.out; omega) (by have := HG4.out.1; have := HN.out; omega) (by have := HG4.out.2; have := HN.out; omega) (by have := HG4.out.2; have := HN.out; omega) 4 [[105, 110, 115, 101, 114, 116], [117, 112, 100, 97, 116, 101], [100, 101, 108, 101, 116, 101]] w4.heap.size (strsA_new (l := [[105, 110, 115, 101, 114, 116], [117, 112, 100, 97, 116, 101], [100, 101, 108, 101, 116, 101]]) rfl) (by omega) (by decide) (fun x hx s h => data_some (by revert hx; simp only [List.mem_cons, List.not_mem_nil, or_false]; intro hx; rcases hx with rfl | rfl | rfl <;> simp) h) HQD.out).mono ?_
  rintro e w5 ⟨hx, h5, hf5⟩
  obtain ⟨kind, table, name, join, a3, a4, a5, a6, a8, a9, a10, a12, l3, l4, l5, l6, l8, l9, l10, l12, c3, c4, c5, c6, c8, c9, c10, c12, desc, rfl, hrep⟩ := st_cells hx
  have HREP := Lib.hid hrep
  clear hx hrep
  have HD5 : Hid (Bd w P g w5 s2) := Lib.hid ((HD4.out.alloc _).call h5 hf5)
  have HR5 : Hid (Ow w w5 w.heap.size 29 [.int .i64 0, .string ⟨#[]⟩, .string ⟨#[]⟩, .slice none 0 0, .slice none 0 0, .slice none 0 0, .slice none 0 0, .string ⟨#[]⟩, .slice none 0 0, .slice none 0 0, .slice none 0 0, .bool false, .slice none 0 0]) := Lib.hid ((HR4.out.alloc _).call HPL.out hf5)
  have hs5 := hf5.size
  simp only [World.size_alloc] at hs5
  have hlR5 := HR5.out.lt
  have hp5 := HD5.out.pr.lt
  clear h5 hf5
  have HM : Hid (PM.create n s = (sx, s2)) := Lib.hid (by simp only [PM.create, HI1.out, HI2.out, HI3.out, HI4.out, HQ4.out, HQD.out, if_true, if_false, Bool.false_eq_true, eq_self])
  obtain ⟨Rc0, Rc1, Rc2, Rc3, Rc4, Rc5, Rc6, Rc7, Rc8, Rc9, Rc10, Rc11, Rc12, Rf0, Rf1, Rf2, Rf3, Rf4, Rf5, Rf6, Rf7, Rf8, Rf9, Rf10, Rf11, Rf12⟩ := c13_of HR5.out.blk
  go_wp2_with fail
  refine bodyPost_ret (ret_cell13 rfl _ w.heap.size rfl _ _ _ _ _ _ _ _ _ _ _ _ _ _ (blkPut13 HR5.out.blk _ _ _ _ _ _ _ _ _ _ _ _ _)) rfl ?_
  rw [HM.out]
  exact st_end HD5.out (frPut13 (Fr.refl [some w.heap.size] _) (.inl (by simp)) _ _ _ _ _ _ _ _ _ _ _ _ _) (Nat.le_refl _) (SR.mono (fun b hb => by first | omega | (simp at hb; omega)) HREP.out)
set_option maxRecDepth 100000 in
set_option maxHeartbeats 10000000 in
theorem create_none (P g n : Nat) (s : PS) (w : World) (h : PR w P g s) (h0 : 0 ≤ s.deep) (h64 : s.deep ≤ 64) (hn : s.l.length ≤ n) (hb : s.l.length ≤ 1000) (k1 : PM.is [116, 97, 98, 108, 101] s = false) (k2 : PM.is [105, 110, 100, 101, 120] s = false) (k3 : PM.is [118, 105, 101, 119] s = false) (k4 : PM.is [99, 108, 111, 115, 117, 114, 101] s = false) :
    Calls Tryz.prog 51 #[.pointer (some ⟨P, 0, none⟩)] w fun e w' => StR w.heap.size w' e (PM.create n s).1 ∧ PR w' P g (PM.create n s).2 ∧ Fr [some P] w w' := by
  have hPl := h.lt
  have hgP := h.ne
  have HPL := Lib.hid hPl
  have HD : Hid (Bd w P g w s) := Lib.hid (Bd.start h)
  have HN := Lib.hid (And.intro h0 (And.intro h64 (And.intro hn hb)))
  have HG0 := Lib.hid (PM.Le.refl s)
  clear h h0 h64 hn hb
  have HK1 := Lib.hid k1
  have HK2 := Lib.hid k2
  have HK3 := Lib.hid k3
  have HK4 := Lib.hid k4
  clear k1 k2 k3 k4
  go_enter Tryz.func51, Tryz.ntmps51
  have HI := HK1
  go_wp2_with fail
  refine (skips_no P g s [116, 97, 98, 108, 101] _ (HD.out.alloc _).pr HI.out).mono ?_
  rintro e w1 ⟨rfl, h1, hf1⟩
  have HI1 := Lib.hid HI.out
  have HD1 : Hid (Bd w P g w1 s) := Lib.hid ((HD.out.alloc _).call h1 hf1)
  have HR1 : Hid (Ow w w1 w.heap.size 29 [.int .i64 0, .string ⟨#[]⟩, .string ⟨#[]⟩, .slice none 0 0, .slice none 0 0, .slice none 0 0, .slice none 0 0, .string ⟨#[]⟩, .slice none 0 0, .slice none 0 0, .slice none 0 0, .bool false, .slice none 0 0]) := Lib.hid ((Ow.new (by omega) 29 [.int .i64 0, .string ⟨#[]⟩, .string ⟨#[]⟩, .slice none 0 0, .slice none 0 0, .slice none 0 0, .slice none 0 0, .string ⟨#[]⟩, .slice none 0 0, .slice none 0 0, .slice none 0 0, .bool false, .slice none 0 0]).call HPL.out hf1)
  have hs1 := hf1.size
  simp only [World.size_alloc] at hs1
  have hlR1 := HR1.out.lt
  have hp1 := HD1.out.pr.lt
  clear h1 hf1
  have HI := HK2
  go_wp2_with fail
  refine (skips_no P g s [105, 110, 100, 101, 120] _ HD1.out.pr HI.out).mono ?_
  rintro e w2 ⟨rfl, h2, hf2⟩
  have HI2 := Lib.hid HI.out
  have HD2 : Hid (Bd w P g w2 s) := Lib.hid (HD1.out.call h2 hf2)
  have HR2 : Hid (Ow w w2 w.heap.size 29 [.int .i64 0, .string ⟨#[]⟩, .string ⟨#[]⟩, .slice none 0 0, .slice none 0 0, .slice none 0 0, .slice none 0 0, .string ⟨#[]⟩, .slice none 0 0, .slice none 0 0, .slice none 0 0, .bool false, .slice none 0 0]) := Lib.hid (HR1.out.call HPL.out hf2)
  have hs2 := hf2.size
  have hlR2 := HR2.out.lt
  have hp2 := HD2.out.pr.lt
  clear h2 hf2
  have HI := HK3
  go_wp2_with fail
  refine (skips_no P g s [118, 105, 101, 119] _ HD2.out.pr HI.out).mono ?_
  rintro e w3 ⟨rfl, h3, hf3⟩
  have HI3 := Lib.hid HI.out
  have HD3 : Hid (Bd w P g w3 s) := Lib.hid (HD2.out.call h3 hf3)
  have HR3 : Hid (Ow w w3 w.heap.size 29 [.int .i64 0, .string ⟨#[]⟩, .string ⟨#[]⟩, .slice none 0 0, .slice none 0 0, .slice none 0 0, .slice none 0 0, .string ⟨#[]⟩, .slice none 0 0, .slice none 0 0, .slice none 0 0, .bool false, .slice none 0 0]) := Lib.hid (HR2.out.call HPL.out hf3)
  have hs3 := hf3.size
  have hlR3 := HR3.out.lt
  have hp3 := HD3.out.pr.lt
  clear h3 hf3
  have HI := HK4
  go_wp2_with fail
  refine (skips_no P g s [99, 108, 111, 115, 117, 114, 101] _ HD3.out.pr HI.out).mono ?_
  rintro e w4 ⟨rfl, h4, hf4⟩
  have HI4 := Lib.hid HI.out
  have HD4 : Hid (Bd w P g w4 s) := Lib.hid (HD3.out.call h4 hf4)
  have HR4 : Hid (Ow w w4 w.heap.size 29 [.int .i64 0, .string ⟨#[]⟩, .string ⟨#[]⟩, .slice none 0 0, .slice none 0 0, .slice none 0 0, .slice none 0 0, .string ⟨#[]⟩, .slice none 0 0, .slice none 0 0, .slice none 0 0, .bool false, .slice none 0 0]) := Lib.hid (HR3.out.call HPL.out hf4)
  have hs4 := hf4.size
  have hlR4 := HR4.out.lt
  have hp4 := HD4.out.pr.lt
  clear h4 hf4
  go_wp2_with fail
  refine (fails_any P g s 5 _ HD4.out.pr).mono ?_
  rintro e w5 ⟨rfl, h5, hf5⟩
  obtain ⟨s1, hq5⟩ : ∃ x, PM.fails 5 s = x := ⟨_, rfl⟩
  rw [hq5] at h5
  have HQ5 := Lib.hid hq5
  clear hq5
  have HD5 : Hid (Bd w P g w5 s1) := Lib.hid (HD4.out.call h5 hf5)
  have HR5 : Hid (Ow w w5 w.heap.size 29 [.int .i64 0, .string ⟨#[]⟩, .string ⟨#[]⟩, .slice none 0 0, .slice none 0 0, .slice none 0 0, .slice none 0 0, .string ⟨#[]⟩, .slice none 0 0, .slice none 0 0, .slice none 0 0, .bool false, .slice none 0 0]) := Lib.hid (HR4.out.call HPL.out hf5)
  have hs5 := hf5.size
  have hlR5 := HR5.out.lt
  have hp5 := HD5.out.pr.lt
  clear h5 hf5
  have HG5 : Hid (PM.Le s1 s) := Lib.hid (HG0.out.calm (PM.calm_fails 5) HQ5.out)
  have HM : Hid (PM.create n s = (PM.St.zero, s1)) := Lib.hid (by simp only [PM.create, HI1.out, HI2.out, HI3.out, HI4.out, HQ5.out, if_false, Bool.false_eq_true, eq_self])
  obtain ⟨Rc0, Rc1, Rc2, Rc3, Rc4, Rc5, Rc6, Rc7, Rc8, Rc9, Rc10, Rc11, Rc12, Rf0, Rf1, Rf2, Rf3, Rf4, Rf5, Rf6, Rf7, Rf8, Rf9, Rf10, Rf11, Rf12⟩ := c13_of HR5.out.blk
  go_wp2_with fail
  refine bodyPost_ret (ret_cell13 rfl _ w.heap.size rfl _ _ _ _ _ _ _ _ _ _ _ _ _ _ (blkPut13 HR5.out.blk _ _ _ _ _ _ _ _ _ _ _ _ _)) rfl ?_
  rw [HM.out]
  exact st_end HD5.out (frPut13 (Fr.refl [some w.heap.size] _) (.inl (by simp)) _ _ _ _ _ _ _ _ _ _ _ _ _) (Nat.le_refl _) (zero_st _ _)
theorem create_any (P g n : Nat) (s : PS) (w : World) (h : PR w P g s) (h0 : 0 ≤ s.deep) (h64 : s.deep ≤ 64) (hn : s.l.length ≤ n) (hb : s.l.length ≤ 1000) {st : PM.St} {s' : PS} (hq : PM.create n s = (st, s')) :
    Calls Tryz.prog 51 #[.pointer (some ⟨P, 0, none⟩)] w fun e w' => StR w.heap.size w' e st ∧ PR w' P g s' ∧ Fr [some P] w w' := by
  have e1 : st = (PM.create n s).1 := by rw [hq]
  have e2 : s' = (PM.create n s).2 := by rw [hq]
  subst e1 e2
  cases h1 : PM.is [116, 97, 98, 108, 101] s
  · cases h2 : PM.is [105, 110, 100, 101, 120] s
    · cases h3 : PM.is [118, 105, 101, 119] s
      · cases h4 : PM.is [99, 108, 111, 115, 117, 114, 101] s
        · exact create_none P g n s w h h0 h64 hn hb h1 h2 h3 h4
        · exact create_closure P g n s w h h0 h64 hn hb h4
      · exact create_view P g n s w h h0 h64 hn hb h3
    · exact create_index P g n s w h h0 h64 hn hb h2
  · exact create_table P g n s w h h0 h64 hn hb h1
end Px
end Go.Proofs.YtmdnhinpaflamaaGreatDoor
namespace Go.Proofs.YtmdnhinpaflamaaGreatDoor
open Go.RowKit
open Go.ChangeMaps (setBlock)
namespace Px
open PM (PS B Ex)

def kinds : List (B × Int) := [([98, 101, 103, 105, 110], 9), ([99, 111, 109, 109, 105, 116], 10), ([114, 111, 108, 108, 98, 97, 99, 107], 11)]
/-- what the loop keeps of its map (block m) and its iterator (block r): those that came are no word at hand -/
structure Rg (w : World) (m r : Nat) (s : PS) (seen : Array Nat) (c0 : Nat) : Prop where
  map : w.heap[m]? = some (mapObj kinds)
  it : w.heap[r]? = some (.mapIter (some m) 3 seen c0)
  ge : 3 ≤ c0
  no : ∀ j (hj : j < kinds.length), seen.contains j = true → PM.is kinds[j].1 s = false
theorem ents_get (l : List (B × Int)) (n : Nat) (e : MapEntry) (h : e ∈ ents l n) : ∃ j, ∃ hj : j < l.length, e = { key := .string ⟨l[j].1.toArray⟩, val := .int .i64 l[j].2, born := n + j } := by
  induction l generalizing n with
  | nil => simp [ents] at h
  | cons a r ih =>
    obtain ⟨a, b⟩ := a
    simp only [ents, List.mem_cons] at h
    rcases h with rfl | h
    · exact ⟨0, by simp, rfl⟩
    · obtain ⟨j, hj, e1⟩ := ih (n + 1) h
      refine ⟨j + 1, by simp; omega, ?_⟩
      rw [e1]
      simp
      omega
theorem ents_mem (l : List (B × Int)) (n j : Nat) (hj : j < l.length) : ({ key := .string ⟨l[j].1.toArray⟩, val := .int .i64 l[j].2, born := n + j } : MapEntry) ∈ ents l n := by
  induction l generalizing n j with
  | nil => simp at hj
  | cons a r ih =>
    obtain ⟨a, b⟩ := a
    cases j with
    | zero => simp [ents]
    | succ j =>
      simp only [ents, List.mem_cons]
      right
      have := ih (n + 1) j (by simpa using hj)
      simp only [List.getElem_cons_succ]
      rwa [show n + (j + 1) = n + 1 + j by omega]
def kmea (r : Nat) (w : World) : Nat := match w.heap[r]? with | some (.mapIter _ _ seen _) => (leftOf (ents kinds 0).toArray seen).size | _ => 0
theorem Rg.mea {w : World} {m r : Nat} {s : PS} {seen : Array Nat} {c0 : Nat} (h : Rg w m r s seen c0) : kmea r w = (leftOf (ents kinds 0).toArray seen).size := by
  rw [kmea, h.it]
theorem Rg.keep {X : List (Option Nat)} {w w' : World} {m r : Nat} {s : PS} {seen : Array Nat} {c0 : Nat} (h : Rg w m r s seen c0) (hf : Fr X w w') (hm : some m ∉ X) (hr : some r ∉ X) : Rg w' m r s seen c0 :=
  ⟨(hf.blk (Array.getElem?_eq_some_iff.1 h.map).1 hm).trans h.map, (hf.blk (Array.getElem?_eq_some_iff.1 h.it).1 hr).trans h.it, h.ge, h.no⟩
/-- the step -/
theorem Rg.next {w : World} {m r : Nat} {s : PS} {seen : Array Nat} {c0 : Nat} (h : Rg w m r s seen c0) (hne : m ≠ r) (ty : TypeId) :
    ((∀ j (hj : j < kinds.length), PM.is kinds[j].1 s = false) ∧ (Instr.next (.pointer (some ⟨r, 0, none⟩)) false ty).run Tryz.prog w = .ok (.tuple #[.bool false]) w) ∨
    ∃ j, ∃ hj : j < kinds.length, ∃ w', (Instr.next (.pointer (some ⟨r, 0, none⟩)) false ty).run Tryz.prog w = .ok (.tuple #[.bool true, .string ⟨kinds[j].1.toArray⟩, .int .i64 kinds[j].2]) w' ∧
      (Instr.entry (.pointer (some ⟨r, 0, none⟩))).run Tryz.prog w' = .ok (.tuple #[.string ⟨kinds[j].1.toArray⟩, .int .i64 kinds[j].2]) w' ∧ Fr [some r] w w' ∧ w'.heap.size = w.heap.size ∧
      (PM.is kinds[j].1 s = false → Rg w' m r s (seen.push j) 3) ∧ (leftOf (ents kinds 0).toArray (seen.push j)).size < (leftOf (ents kinds 0).toArray seen).size := by
  have hold : ∀ x ∈ (ents kinds 0).toArray.toList, x.born < 3 := by decide
  have hnd : ((ents kinds 0).toArray.toList.map (·.born)).Nodup := by decide
  rcases run_next_at (P := Tryz.prog) w ty r m 3 c0 seen (ents kinds 0).toArray kinds.length h.it h.map hold h.ge with ⟨h0, hrun⟩ | ⟨e, he, w1, hal, hrun⟩
  · refine .inl ⟨fun j hj => h.no j hj ?_, hrun⟩
    have hx := ents_mem kinds 0 j hj
    have := all_seen (ents kinds 0).toArray seen h0 _ (by simpa using hx)
    simpa using this
  · obtain ⟨hem, hes⟩ := mem_left he
    obtain ⟨j, hj, rfl⟩ := ents_get kinds 0 e (by simpa using hem)
    rw [Nat.zero_add] at *
    have hr1 : w1.heap[r]? = some (.mapIter (some m) 3 seen c0) := by rcases hal with rfl | rfl <;> exact h.it
    have hm1 : w1.heap[m]? = some (mapObj kinds) := by rcases hal with rfl | rfl <;> exact h.map
    have hset := MapKept.heap_set (o' := .mapIter (some m) 3 (seen.push j) kinds.length) hr1
    have hm2 := (hset.2 m hne).trans hm1
    have hfr : Fr [some r] w (setBlock w1 r (.mapIter (some m) 3 (seen.push j) kinds.length)) := by
      rcases hal with rfl | rfl
      · exact ⟨rfl, rfl, rfl, by simp [setBlock], fun i _ hi => hset.2 i (fun e1 => hi (by simp [e1]))⟩
      · exact ⟨rfl, rfl, rfl, by simp [setBlock], fun i _ hi => hset.2 i (fun e1 => hi (by simp [e1]))⟩
    have hsz : (setBlock w1 r (.mapIter (some m) 3 (seen.push j) kinds.length)).heap.size = w.heap.size := by rcases hal with rfl | rfl <;> simp [setBlock]
    have hent := run_entry_at (P := Tryz.prog) (setBlock w1 r (.mapIter (some m) 3 (seen.push j) kinds.length)) r m 3 seen (ents kinds 0).toArray kinds.length { key := .string ⟨kinds[j].1.toArray⟩, val := .int .i64 kinds[j].2, born := j } hset.1 hm2 hem hnd
    have hsh := left_shrinks (ents kinds 0).toArray seen { key := .string ⟨kinds[j].1.toArray⟩, val := .int .i64 kinds[j].2, born := j } he
    have hl3 : kinds.length = 3 := rfl
    refine .inr ⟨j, hj, setBlock w1 r (.mapIter (some m) 3 (seen.push j) kinds.length), hrun, hent, hfr, hsz, fun hno => ⟨hm2, hset.1, Nat.le_refl _, fun i hi hc => ?_⟩, hsh⟩
    by_cases e : i = j
    · subst e; exact hno
    · refine h.no i hi ?_
      have := contains_push seen j i
      rw [this] at hc
      simpa [e] using hc
end Px
end Go.Proofs.YtmdnhinpaflamaaGreatDoor
namespace Go.Proofs.YtmdnhinpaflamaaGreatDoor
open Go.RowKit
namespace Px
open PM (PS B Ex)

theorem data_none {n : Nat} {s : PS} (k2 : PM.is [105, 110, 115, 101, 114, 116] s = false) (k3 : PM.is [115, 101, 108, 101, 99, 116] s = false) (k4 : PM.is [117, 112, 100, 97, 116, 101] s = false) (k5 : PM.is [100, 101, 108, 101, 116, 101] s = false) : PM.data n s = none := by
  rw [PM.data, if_neg (by rw [k2]; decide), if_neg (by rw [k3]; decide), if_neg (by rw [k4]; decide), if_neg (by rw [k5]; decide)]
theorem stmt_7 {n : Nat} {s : PS} (k1 : PM.is [99, 114, 101, 97, 116, 101] s = false) (k2 : PM.is [105, 110, 115, 101, 114, 116] s = false) (k3 : PM.is [115, 101, 108, 101, 99, 116] s = false) (k4 : PM.is [117, 112, 100, 97, 116, 101] s = false) (k5 : PM.is [100, 101, 108, 101, 116, 101] s = false) (k6 : PM.is [114, 97, 105, 115, 101] s = false) (k7 : PM.is [99, 97, 108, 108] s = false) : PM.stmt n s = if PM.is [98, 101, 103, 105, 110] s then (.ofKind 9, PM.skip s) else if PM.is [99, 111, 109, 109, 105, 116] s then (.ofKind 10, PM.skip s) else if PM.is [114, 111, 108, 108, 98, 97, 99, 107] s then (.ofKind 11, PM.skip s) else (.zero, PM.fails 5 s) := by
  rw [PM.stmt, if_neg (by rw [k1]; decide), data_none k2 k3 k4 k5]
  simp only []
  rw [if_neg (by rw [k6]; decide), if_neg (by rw [k7]; decide)]
theorem stmt_kind {n : Nat} {s : PS} (k1 : PM.is [99, 114, 101, 97, 116, 101] s = false) (k2 : PM.is [105, 110, 115, 101, 114, 116] s = false) (k3 : PM.is [115, 101, 108, 101, 99, 116] s = false) (k4 : PM.is [117, 112, 100, 97, 116, 101] s = false) (k5 : PM.is [100, 101, 108, 101, 116, 101] s = false) (k6 : PM.is [114, 97, 105, 115, 101] s = false) (k7 : PM.is [99, 97, 108, 108] s = false) {j : Nat} {hj : j < kinds.length} (h : PM.is kinds[j].1 s = true) : PM.stmt n s = (.ofKind kinds[j].2, PM.skip s) := by
  rw [stmt_7 k1 k2 k3 k4 k5 k6 k7]
  have hj3 : j < 3 := hj
  rcases (by omega : j = 0 ∨ j = 1 ∨ j = 2) with rfl | rfl | rfl
  · exact if_pos h
  · have h' : PM.is [99, 111, 109, 109, 105, 116] s = true := h
    rw [if_neg (by rw [is_ne h' (by decide)]; decide)]
    exact if_pos h
  · have h' : PM.is [114, 111, 108, 108, 98, 97, 99, 107] s = true := h
    rw [if_neg (by rw [is_ne h' (by decide)]; decide), if_neg (by rw [is_ne h' (by decide)]; decide)]
    exact if_pos h
theorem stmt_none {n : Nat} {s : PS} (k1 : PM.is [99, 114, 101, 97, 116, 101] s = false) (k2 : PM.is [105, 110, 115, 101, 114, 116] s = false) (k3 : PM.is [115, 101, 108, 101, 99, 116] s = false) (k4 : PM.is [117, 112, 100, 97, 116, 101] s = false) (k5 : PM.is [100, 101, 108, 101, 116, 101] s = false) (k6 : PM.is [114, 97, 105, 115, 101] s = false) (k7 : PM.is [99, 97, 108, 108] s = false) (h : ∀ j (hj : j < kinds.length), PM.is kinds[j].1 s = false) : PM.stmt n s = (.zero, PM.fails 5 s) := by
  rw [stmt_7 k1 k2 k3 k4 k5 k6 k7]
  have h0 := h 0 (by decide)
  have h1 := h 1 (by decide)
  have h2 := h 2 (by decide)
  rw [if_neg (by rw [show PM.is [98, 101, 103, 105, 110] s = false from h0]; decide), if_neg (by rw [show PM.is [99, 111, 109, 109, 105, 116] s = false from h1]; decide), if_neg (by rw [show PM.is [114, 111, 108, 108, 98, 97, 99, 107] s = false from h2]; decide)]

set_option maxRecDepth 100000 in
set_option maxHeartbeats 10000000 in
theorem stmt_create (P g n : Nat) (s : PS) (w : World) (h : PR w P g s) (h0 : 0 ≤ s.deep) (h64 : s.deep ≤ 64) (hn : s.l.length ≤ n) (hb : s.l.length ≤ 1000) (hi : PM.is [99, 114, 101, 97, 116, 101] s = true) :
    Calls Tryz.prog 19 #[.pointer (some ⟨P, 0, none⟩)] w fun e w' => StR w.heap.size w' e (PM.stmt n s).1 ∧ PR w' P g (PM.stmt n s).2 ∧ Fr [some P] w w' := by
  have hPl := h.lt
  have hgP := h.ne
  have HPL := Lib.hid hPl
  have HD : Hid (Bd w P g w s) := Lib.hid (Bd.start h)
  have HX := Lib.hid hi
  clear hi
  have HN := Lib.hid (And.intro h0 (And.intro h64 (And.intro hn hb)))
  have HG0 := Lib.hid (PM.Le.refl s)
  clear h h0 h64 hn hb
  go_enter Tryz.func19, Tryz.ntmps19
  have HI := HX
  go_wp2_with fail
  refine (skips_yes P g s [99, 114, 101, 97, 116, 101] _ (HD.out.alloc _).pr HI.out).mono ?_
  rintro e w1 ⟨rfl, h1, hf1⟩
  have hi1 := HI.out
  obtain ⟨s1, hq1⟩ : ∃ x, PM.skip s = x := ⟨_, rfl⟩
  rw [hq1] at h1
  have HQ1 := Lib.hid hq1
  have HI1 := Lib.hid hi1
  clear hq1 hi1
  have HD1 : Hid (Bd w P g w1 s1) := Lib.hid ((HD.out.alloc _).call h1 hf1)
  have HR1 : Hid (Ow w w1 w.heap.size 29 [.int .i64 0, .string ⟨#[]⟩, .string ⟨#[]⟩, .slice none 0 0, .slice none 0 0, .slice none 0 0, .slice none 0 0, .string ⟨#[]⟩, .slice none 0 0, .slice none 0 0, .slice none 0 0, .bool false, .slice none 0 0]) := Lib.hid ((Ow.new (by omega) 29 [.int .i64 0, .string ⟨#[]⟩, .string ⟨#[]⟩, .slice none 0 0, .slice none 0 0, .slice none 0 0, .slice none 0 0, .string ⟨#[]⟩, .slice none 0 0, .slice none 0 0, .slice none 0 0, .bool false, .slice none 0 0]).call HPL.out hf1)
  have hs1 := hf1.size
  simp only [World.size_alloc] at hs1
  have hlR1 := HR1.out.lt
  have hp1 := HD1.out.pr.lt
  clear h1 hf1
  have HG1 : Hid (PM.Le s1 s) := Lib.hid (HG0.out.calm PM.calm_skip HQ1.out)
  obtain ⟨sx, s2, hqd⟩ : ∃ a b, PM.create n s1 = (a, b) := ⟨_, _, rfl⟩
  have HQD := Lib.hid hqd
  clear hqd
  go_wp2_with fail
  refine (create_any P g n s1 _ HD1.out.pr (by have := HG1.out.1; have := HN.out; omega) (by have := HG1.out.1; have := HN.out; omega) (by have := HG1.out.2; have := HN.out; omega) (by have := HG1.out.2; have := HN.out; omega) HQD.out).mono ?_
  rintro e w2 ⟨hx, h2, hf2⟩
  obtain ⟨kind, table, name, join, a3, a4, a5, a6, a8, a9, a10, a12, l3, l4, l5, l6, l8, l9, l10, l12, c3, c4, c5, c6, c8, c9, c10, c12, desc, rfl, hrep⟩ := st_cells hx
  have HREP := Lib.hid hrep
  clear hx hrep
  have HD2 : Hid (Bd w P g w2 s2) := Lib.hid (HD1.out.call h2 hf2)
  have HR2 : Hid (Ow w w2 w.heap.size 29 [.int .i64 0, .string ⟨#[]⟩, .string ⟨#[]⟩, .slice none 0 0, .slice none 0 0, .slice none 0 0, .slice none 0 0, .string ⟨#[]⟩, .slice none 0 0, .slice none 0 0, .slice none 0 0, .bool false, .slice none 0 0]) := Lib.hid (HR1.out.call HPL.out hf2)
  have hs2 := hf2.size
  have hlR2 := HR2.out.lt
  have hp2 := HD2.out.pr.lt
  clear h2 hf2
  have HM : Hid (PM.stmt n s = (sx, s2)) := Lib.hid (by simp only [PM.stmt, HI1.out, HQ1.out, HQD.out, if_true, eq_self])
  obtain ⟨Rc0, Rc1, Rc2, Rc3, Rc4, Rc5, Rc6, Rc7, Rc8, Rc9, Rc10, Rc11, Rc12, Rf0, Rf1, Rf2, Rf3, Rf4, Rf5, Rf6, Rf7, Rf8, Rf9, Rf10, Rf11, Rf12⟩ := c13_of HR2.out.blk
  go_wp2_with fail
  refine bodyPost_ret (ret_cell13 rfl _ w.heap.size rfl _ _ _ _ _ _ _ _ _ _ _ _ _ _ (blkPut13 HR2.out.blk _ _ _ _ _ _ _ _ _ _ _ _ _)) rfl ?_
  rw [HM.out]
  exact st_end HD2.out (frPut13 (Fr.refl [some w.heap.size] _) (.inl (by simp)) _ _ _ _ _ _ _ _ _ _ _ _ _) (Nat.le_refl _) (SR.mono (fun b hb => by first | omega | (simp at hb; omega)) HREP.out)
set_option maxRecDepth 100000 in
set_option maxHeartbeats 10000000 in
theorem stmt_raise (P g n : Nat) (s : PS) (w : World) (h : PR w P g s) (h0 : 0 ≤ s.deep) (h64 : s.deep ≤ 64) (hn : s.l.length ≤ n) (hb : s.l.length ≤ 1000) (hi : PM.is [114, 97, 105, 115, 101] s = true) :
    Calls Tryz.prog 19 #[.pointer (some ⟨P, 0, none⟩)] w fun e w' => StR w.heap.size w' e (PM.stmt n s).1 ∧ PR w' P g (PM.stmt n s).2 ∧ Fr [some P] w w' := by
  have hPl := h.lt
  have hgP := h.ne
  have HPL := Lib.hid hPl
  have HD : Hid (Bd w P g w s) := Lib.hid (Bd.start h)
  have HX := Lib.hid hi
  clear hi
  have HN := Lib.hid (And.intro h0 (And.intro h64 (And.intro hn hb)))
  have HG0 := Lib.hid (PM.Le.refl s)
  clear h h0 h64 hn hb
  go_enter Tryz.func19, Tryz.ntmps19
  have HI := Lib.hid (is_ne (b := [99, 114, 101, 97, 116, 101]) HX.out (by decide))
  go_wp2_with fail
  refine (skips_no P g s [99, 114, 101, 97, 116, 101] _ (HD.out.alloc _).pr HI.out).mono ?_
  rintro e w1 ⟨rfl, h1, hf1⟩
  have HI1 := Lib.hid HI.out
  have HD1 : Hid (Bd w P g w1 s) := Lib.hid ((HD.out.alloc _).call h1 hf1)
  have HR1 : Hid (Ow w w1 w.heap.size 29 [.int .i64 0, .string ⟨#[]⟩, .string ⟨#[]⟩, .slice none 0 0, .slice none 0 0, .slice none 0 0, .slice none 0 0, .string ⟨#[]⟩, .slice none 0 0, .slice none 0 0, .slice none 0 0, .bool false, .slice none 0 0]) := Lib.hid ((Ow.new (by omega) 29 [.int .i64 0, .string ⟨#[]⟩, .string ⟨#[]⟩, .slice none 0 0, .slice none 0 0, .slice none 0 0, .slice none 0 0, .string ⟨#[]⟩, .slice none 0 0, .slice none 0 0, .slice none 0 0, .bool false, .slice none 0 0]).call HPL.out hf1)
  have hs1 := hf1.size
  simp only [World.size_alloc] at hs1
  have hlR1 := HR1.out.lt
  have hp1 := HD1.out.pr.lt
  clear h1 hf1
  have HI := Lib.hid (is_ne (b := [105, 110, 115, 101, 114, 116]) HX.out (by decide))
  go_wp2_with fail
  refine (skips_no P g s [105, 110, 115, 101, 114, 116] _ HD1.out.pr HI.out).mono ?_
  rintro e w2 ⟨rfl, h2, hf2⟩
  have HI2 := Lib.hid HI.out
  have HD2 : Hid (Bd w P g w2 s) := Lib.hid (HD1.out.call h2 hf2)
  have HR2 : Hid (Ow w w2 w.heap.size 29 [.int .i64 0, .string ⟨#[]⟩, .string ⟨#[]⟩, .slice none 0 0, .slice none 0 0, .slice none 0 0, .slice none 0 0, .string ⟨#[]⟩, .slice none 0 0, .slice none 0 0, .slice none 0 0, .bool false, .slice none 0 0]) := Lib.hid (HR1.out.call HPL.out hf2)
  have hs2 := hf2.size
  have hlR2 := HR2.out.lt
  have hp2 := HD2.out.pr.lt
  clear h2 hf2
  have HI := Lib.hid (is_ne (b := [115, 101, 108, 101, 99, 116]) HX.out (by decide))
  go_wp2_with fail
  refine (skips_no P g s [115, 101, 108, 101, 99, 116] _ HD2.out.pr HI.out).mono ?_
  rintro e w3 ⟨rfl, h3, hf3⟩
  have HI3 := Lib.hid HI.out
  have HD3 : Hid (Bd w P g w3 s) := Lib.hid (HD2.out.call h3 hf3)
  have HR3 : Hid (Ow w w3 w.heap.size 29 [.int .i64 0, .string ⟨#[]⟩, .string ⟨#[]⟩, .slice none 0 0, .slice none 0 0, .slice none 0 0, .slice none 0 0, .string ⟨#[]⟩, .slice none 0 0, .slice none 0 0, .slice none 0 0, .bool false, .slice none 0 0]) := Lib.hid (HR2.out.call HPL.out hf3)
  have hs3 := hf3.size
  have hlR3 := HR3.out.lt
  have hp3 := HD3.out.pr.lt
  clear h3 hf3
  have HI := Lib.hid (is_ne (b := [117, 112, 100, 97, 116, 101]) HX.out (by decide))
  go_wp2_with fail
  refine (skips_no P g s [117, 112, 100, 97, 116, 101] _ HD3.out.pr HI.out).mono ?_
  rintro e w4 ⟨rfl, h4, hf4⟩
  have HI4 := Lib.hid HI.out
  have HD4 : Hid (Bd w P g w4 s) := Lib.hid (HD3.out.call h4 hf4)
  have HR4 : Hid (Ow w w4 w.heap.size 29 [.int .i64 0, .string ⟨#[]⟩, .string ⟨#[]⟩, .slice none 0 0, .slice none 0 0, .slice none 0 0, .slice none 0 0, .string ⟨#[]⟩, .slice none 0 0, .slice none 0 0, .slice none 0 0, .bool false, .slice none 0 0]) := Lib.hid (HR3.out.call HPL.out hf4)
  have hs4 := hf4.size
  have hlR4 := HR4.out.lt
  have hp4 := HD4.out.pr.lt
  clear h4 hf4
  have HI := Lib.hid (is_ne (b := [100, 101, 108, 101, 116, 101]) HX.out (by decide))
  go_wp2_with fail
  refine (skips_no P g s [100, 101, 108, 101, 116, 101] _ HD4.out.pr HI.out).mono ?_
  rintro e w5 ⟨rfl, h5, hf5⟩
  have HI5 := Lib.hid HI.out
  have HD5 : Hid (Bd w P g w5 s) := Lib.hid (HD4.out.call h5 hf5)
  have HR5 : Hid (Ow w w5 w.heap.size 29 [.int .i64 0, .string ⟨#[]⟩, .string ⟨#[]⟩, .slice none 0 0, .slice none 0 0, .slice none 0 0, .slice none 0 0, .string ⟨#[]⟩, .slice none 0 0, .slice none 0 0, .slice none 0 0, .bool false, .slice none 0 0]) := Lib.hid (HR4.out.call HPL.out hf5)
  have hs5 := hf5.size
  have hlR5 := HR5.out.lt
  have hp5 := HD5.out.pr.lt
  clear h5 hf5
  have HI := HX
  go_wp2_with fail
  refine (skips_yes P g s [114, 97, 105, 115, 101] _ HD5.out.pr HI.out).mono ?_
  rintro e w6 ⟨rfl, h6, hf6⟩
  have hi6 := HI.out
  obtain ⟨s1, hq6⟩ : ∃ x, PM.skip s = x := ⟨_, rfl⟩
  rw [hq6] at h6
  have HQ6 := Lib.hid hq6
  have HI6 := Lib.hid hi6
  clear hq6 hi6
  have HD6 : Hid (Bd w P g w6 s1) := Lib.hid (HD5.out.call h6 hf6)
  have HR6 : Hid (Ow w w6 w.heap.size 29 [.int .i64 0, .string ⟨#[]⟩, .string ⟨#[]⟩, .slice none 0 0, .slice none 0 0, .slice none 0 0, .slice none 0 0, .string ⟨#[]⟩, .slice none 0 0, .slice none 0 0, .slice none 0 0, .bool false, .slice none 0 0]) := Lib.hid (HR5.out.call HPL.out hf6)
  have hs6 := hf6.size
  have hlR6 := HR6.out.lt
  have hp6 := HD6.out.pr.lt
  clear h6 hf6
  have HG6 : Hid (PM.Le s1 s) := Lib.hid (HG0.out.calm PM.calm_skip HQ6.out)
  obtain ⟨tg, s2, hq7⟩ : ∃ a b, PM.list PM.tag s1 = (a, b) := ⟨_, _, rfl⟩
  have HQ7 := Lib.hid hq7
  clear hq7
  go_wp2_with fail
  refine (list_tag' n HD6.out.pr (by have := HG6.out.1; have := HN.out; omega) (by have := HG6.out.1; have := HN.out; omega) (by have := HG6.out.2; have := HN.out; omega) (by have := HG6.out.2; have := HN.out; omega) HQ7.out).mono ?_
  rintro e w7 ⟨⟨tga, tgl, tgc, rfl, hv⟩, h7, hf7⟩
  have HD7 : Hid (Bd w P g w7 s2) := Lib.hid (HD6.out.call h7 hf7)
  have HR7 : Hid (Ow w w7 w.heap.size 29 [.int .i64 0, .string ⟨#[]⟩, .string ⟨#[]⟩, .slice none 0 0, .slice none 0 0, .slice none 0 0, .slice none 0 0, .string ⟨#[]⟩, .slice none 0 0, .slice none 0 0, .slice none 0 0, .bool false, .slice none 0 0]) := Lib.hid (HR6.out.call HPL.out hf7)
  have hs7 := hf7.size
  have hlR7 := HR7.out.lt
  have hp7 := HD7.out.pr.lt
  clear h7 hf7
  have HG7 : Hid (PM.Le s2 s) := Lib.hid (HG6.out.good (PM.good_list PM.good_tag) HQ7.out)
  have HTg7 := Lib.hid (FlatS.mono (A' := fun b => w.heap.size < b) (fun b hb => by first | omega | (simp at hb; omega)) hv)
  clear hv
  have HM : Hid (PM.stmt n s = (.mk 12 [] [] [] tg [] [] [] [] [] [] false [], s2)) := Lib.hid (by simp only [PM.stmt, PM.data, HI1.out, HI2.out, HI3.out, HI4.out, HI5.out, HI6.out, HQ6.out, HQ7.out, if_true, if_false, Bool.false_eq_true, eq_self])
  obtain ⟨Rc0, Rc1, Rc2, Rc3, Rc4, Rc5, Rc6, Rc7, Rc8, Rc9, Rc10, Rc11, Rc12, Rf0, Rf1, Rf2, Rf3, Rf4, Rf5, Rf6, Rf7, Rf8, Rf9, Rf10, Rf11, Rf12⟩ := c13_of HR7.out.blk
  go_wp2_with fail
  refine bodyPost_ret (ret_cell13 rfl _ w.heap.size rfl _ _ _ _ _ _ _ _ _ _ _ _ _ _ (blkPut13 HR7.out.blk _ _ _ _ _ _ _ _ _ _ _ _ _)) rfl ?_
  rw [HM.out]
  exact ⟨⟨_, rfl, .mk _ _ _ _ _ _ _ _ _ _ _ _ _ _ _ _ _ _ _ _ _ .nil (FlatS.mono (A' := fun b => w.heap.size ≤ b) (fun b hb => by omega) (FlatS.keep (frPut13 (Fr.refl [some w.heap.size] w7) (.inl (by simp)) _ _ _ _ _ _ _ _ _ _ _ _ _) (fun b hb => by simp; omega) HTg7.out)) Rep.Es.nil .nil Rep.Es.nil Rep.Es.nil Rep.Es.nil SS.nil⟩, (HD7.out.pr.keep (frPut13 (Fr.refl [some w.heap.size] _) (.inl (by simp)) _ _ _ _ _ _ _ _ _ _ _ _ _) (by simp; omega) (by simp; omega)), (frPut13 HD7.out.fr (.inr HR7.out.ge) _ _ _ _ _ _ _ _ _ _ _ _ _)⟩
set_option maxRecDepth 100000 in
set_option maxHeartbeats 10000000 in
theorem stmt_call (P g n : Nat) (s : PS) (w : World) (h : PR w P g s) (h0 : 0 ≤ s.deep) (h64 : s.deep ≤ 64) (hn : s.l.length ≤ n) (hb : s.l.length ≤ 1000) (hi : PM.is [99, 97, 108, 108] s = true) :
    Calls Tryz.prog 19 #[.pointer (some ⟨P, 0, none⟩)] w fun e w' => StR w.heap.size w' e (PM.stmt n s).1 ∧ PR w' P g (PM.stmt n s).2 ∧ Fr [some P] w w' := by
  have hPl := h.lt
  have hgP := h.ne
  have HPL := Lib.hid hPl
  have HD : Hid (Bd w P g w s) := Lib.hid (Bd.start h)
  have HX := Lib.hid hi
  clear hi
  have HN := Lib.hid (And.intro h0 (And.intro h64 (And.intro hn hb)))
  have HG0 := Lib.hid (PM.Le.refl s)
  clear h h0 h64 hn hb
  go_enter Tryz.func19, Tryz.ntmps19
  have HI := Lib.hid (is_ne (b := [99, 114, 101, 97, 116, 101]) HX.out (by decide))
  go_wp2_with fail
  refine (skips_no P g s [99, 114, 101, 97, 116, 101] _ (HD.out.alloc _).pr HI.out).mono ?_
  rintro e w1 ⟨rfl, h1, hf1⟩
  have HI1 := Lib.hid HI.out
  have HD1 : Hid (Bd w P g w1 s) := Lib.hid ((HD.out.alloc _).call h1 hf1)
  have HR1 : Hid (Ow w w1 w.heap.size 29 [.int .i64 0, .string ⟨#[]⟩, .string ⟨#[]⟩, .slice none 0 0, .slice none 0 0, .slice none 0 0, .slice none 0 0, .string ⟨#[]⟩, .slice none 0 0, .slice none 0 0, .slice none 0 0, .bool false, .slice none 0 0]) := Lib.hid ((Ow.new (by omega) 29 [.int .i64 0, .string ⟨#[]⟩, .string ⟨#[]⟩, .slice none 0 0, .slice none 0 0, .slice none 0 0, .slice none 0 0, .string ⟨#[]⟩, .slice none 0 0, .slice none 0 0, .slice none 0 0, .bool false, .slice none 0 0]).call HPL.out hf1)
  have hs1 := hf1.size
  simp only [World.size_alloc] at hs1
  have hlR1 := HR1.out.lt
  have hp1 := HD1.out.pr.lt
  clear h1 hf1
  have HI := Lib.hid (is_ne (b := [105, 110, 115, 101, 114, 116]) HX.out (by decide))
  go_wp2_with fail
  refine (skips_no P g s [105, 110, 115, 101, 114, 116] _ HD1.out.pr HI.out).mono ?_
  rintro e w2 ⟨rfl, h2, hf2⟩
  have HI2 := Lib.hid HI.out
  have HD2 : Hid (Bd w P g w2 s) := Lib.hid (HD1.out.call h2 hf2)
  have HR2 : Hid (Ow w w2 w.heap.size 29 [.int .i64 0, .string ⟨#[]⟩, .string ⟨#[]⟩, .slice none 0 0, .slice none 0 0, .slice none 0 0, .slice none 0 0, .string ⟨#[]⟩, .slice none 0 0, .slice none 0 0, .slice none 0 0, .bool false, .slice none 0 0]) := Lib.hid (HR1.out.call HPL.out hf2)
  have hs2 := hf2.size
  have hlR2 := HR2.out.lt
  have hp2 := HD2.out.pr.lt
  clear h2 hf2
  have HI := Lib.hid (is_ne (b := [115, 101, 108, 101, 99, 116]) HX.out (by decide))
  go_wp2_with fail
  refine (skips_no P g s [115, 101, 108, 101, 99, 116] _ HD2.out.pr HI.out).mono ?_
  rintro e w3 ⟨rfl, h3, hf3⟩
  have HI3 := Lib.hid HI.out
  have HD3 : Hid (Bd w P g w3 s) := Lib.hid (HD2.out.call h3 hf3)
  have HR3 : Hid (Ow w w3 w.heap.size 29 [.int .i64 0, .string ⟨#[]⟩, .string ⟨#[]⟩, .slice none 0 0, .slice none 0 0, .slice none 0 0, .slice none 0 0, .string ⟨#[]⟩, .slice none 0 0, .slice none 0 0, .slice none 0 0, .bool false, .slice none 0 0]) := Lib.hid (HR2.out.call HPL.out hf3)
  have hs3 := hf3.size
  have hlR3 := HR3.out.lt
  have hp3 := HD3.out.pr.lt
  clear h3 hf3
  have HI := Lib.hid (is_ne (b := [117, 112, 100, 97, 116, 101]) HX.out (by decide))
  go_wp2_with fail
  refine (skips_no P g s [117, 112, 100, 97, 116, 101] _ HD3.out.pr HI.out).mono ?_
  rintro e w4 ⟨rfl, h4, hf4⟩
  have HI4 := Lib.hid HI.out
  have HD4 : Hid (Bd w P g w4 s) := Lib.hid (HD3.out.call h4 hf4)
  have HR4 : Hid (Ow w w4 w.heap.size 29 [.int .i64 0, .string ⟨#[]⟩, .string ⟨#[]⟩, .slice none 0 0, .slice none 0 0, .slice none 0 0, .slice none 0 0, .string ⟨#[]⟩, .slice none 0 0, .slice none 0 0, .slice none 0 0, .bool false, .slice none 0 0]) := Lib.hid (HR3.out.call HPL.out hf4)
  have hs4 := hf4.size
  have hlR4 := HR4.out.lt
  have hp4 := HD4.out.pr.lt
  clear h4 hf4
  have HI := Lib.hid (is_ne (b := [100, 101, 108, 101, 116, 101]) HX.out (by decide))
  go_wp2_with fail
  refine (skips_no P g s [100, 101, 108, 101, 116, 101] _ HD4.out.pr HI.out).mono ?_
  rintro e w5 ⟨rfl, h5, hf5⟩
  have HI5 := Lib.hid HI.out
  have HD5 : Hid (Bd w P g w5 s) := Lib.hid (HD4.out.call h5 hf5)
  have HR5 : Hid (Ow w w5 w.heap.size 29 [.int .i64 0, .string ⟨#[]⟩, .string ⟨#[]⟩, .slice none 0 0, .slice none 0 0, .slice none 0 0, .slice none 0 0, .string ⟨#[]⟩, .slice none 0 0, .slice none 0 0, .slice none 0 0, .bool false, .slice none 0 0]) := Lib.hid (HR4.out.call HPL.out hf5)
  have hs5 := hf5.size
  have hlR5 := HR5.out.lt
  have hp5 := HD5.out.pr.lt
  clear h5 hf5
  have HI := Lib.hid (is_ne (b := [114, 97, 105, 115, 101]) HX.out (by decide))
  go_wp2_with fail
  refine (skips_no P g s [114, 97, 105, 115, 101] _ HD5.out.pr HI.out).mono ?_
  rintro e w6 ⟨rfl, h6, hf6⟩
  have HI6 := Lib.hid HI.out
  have HD6 : Hid (Bd w P g w6 s) := Lib.hid (HD5.out.call h6 hf6)
  have HR6 : Hid (Ow w w6 w.heap.size 29 [.int .i64 0, .string ⟨#[]⟩, .string ⟨#[]⟩, .slice none 0 0, .slice none 0 0, .slice none 0 0, .slice none 0 0, .string ⟨#[]⟩, .slice none 0 0, .slice none 0 0, .slice none 0 0, .bool false, .slice none 0 0]) := Lib.hid (HR5.out.call HPL.out hf6)
  have hs6 := hf6.size
  have hlR6 := HR6.out.lt
  have hp6 := HD6.out.pr.lt
  clear h6 hf6
  have HI := HX
  go_wp2_with fail
  refine (skips_yes P g s [99, 97, 108, 108] _ HD6.out.pr HI.out).mono ?_
  rintro e w7 ⟨rfl, h7, hf7⟩
  have hi7 := HI.out
  obtain ⟨s1, hq7⟩ : ∃ x, PM.skip s = x := ⟨_, rfl⟩
  rw [hq7] at h7
  have HQ7 := Lib.hid hq7
  have HI7 := Lib.hid hi7
  clear hq7 hi7
  have HD7 : Hid (Bd w P g w7 s1) := Lib.hid (HD6.out.call h7 hf7)
  have HR7 : Hid (Ow w w7 w.heap.size 29 [.int .i64 0, .string ⟨#[]⟩, .string ⟨#[]⟩, .slice none 0 0, .slice none 0 0, .slice none 0 0, .slice none 0 0, .string ⟨#[]⟩, .slice none 0 0, .slice none 0 0, .slice none 0 0, .bool false, .slice none 0 0]) := Lib.hid (HR6.out.call HPL.out hf7)
  have hs7 := hf7.size
  have hlR7 := HR7.out.lt
  have hp7 := HD7.out.pr.lt
  clear h7 hf7
  have HG7 : Hid (PM.Le s1 s) := Lib.hid (HG0.out.calm PM.calm_skip HQ7.out)
  go_wp2_with fail
  refine (name_any P g s1 _ HD7.out.pr).mono ?_
  rintro e w8 ⟨rfl, h8, hf8⟩
  obtain ⟨m, s2, hq8⟩ : ∃ a b, PM.name s1 = (a, b) := ⟨_, _, rfl⟩
  rw [hq8] at h8 ⊢
  have HQ8 := Lib.hid hq8
  clear hq8
  have HD8 : Hid (Bd w P g w8 s2) := Lib.hid (HD7.out.call h8 hf8)
  have HR8 : Hid (Ow w w8 w.heap.size 29 [.int .i64 0, .string ⟨#[]⟩, .string ⟨#[]⟩, .slice none 0 0, .slice none 0 0, .slice none 0 0, .slice none 0 0, .string ⟨#[]⟩, .slice none 0 0, .slice none 0 0, .slice none 0 0, .bool false, .slice none 0 0]) := Lib.hid (HR7.out.call HPL.out hf8)
  have hs8 := hf8.size
  have hlR8 := HR8.out.lt
  have hp8 := HD8.out.pr.lt
  clear h8 hf8
  have HG8 : Hid (PM.Le s2 s) := Lib.hid (HG7.out.good PM.good_name HQ8.out)
  have HM : Hid (PM.stmt n s = (.mk 13 [] m [] [] [] [] [] [] [] [] false [], s2)) := Lib.hid (by simp only [PM.stmt, PM.data, HI1.out, HI2.out, HI3.out, HI4.out, HI5.out, HI6.out, HI7.out, HQ7.out, HQ8.out, if_true, if_false, Bool.false_eq_true, eq_self])
  obtain ⟨Rc0, Rc1, Rc2, Rc3, Rc4, Rc5, Rc6, Rc7, Rc8, Rc9, Rc10, Rc11, Rc12, Rf0, Rf1, Rf2, Rf3, Rf4, Rf5, Rf6, Rf7, Rf8, Rf9, Rf10, Rf11, Rf12⟩ := c13_of HR8.out.blk
  go_wp2_with fail
  refine bodyPost_ret (ret_cell13 rfl _ w.heap.size rfl _ _ _ _ _ _ _ _ _ _ _ _ _ _ (blkPut13 HR8.out.blk _ _ _ _ _ _ _ _ _ _ _ _ _)) rfl ?_
  rw [HM.out]
  exact ⟨⟨_, rfl, .mk _ _ _ _ _ _ _ _ _ _ _ _ _ _ _ _ _ _ _ _ _ .nil .nil Rep.Es.nil .nil Rep.Es.nil Rep.Es.nil Rep.Es.nil SS.nil⟩, (HD8.out.pr.keep (frPut13 (Fr.refl [some w.heap.size] _) (.inl (by simp)) _ _ _ _ _ _ _ _ _ _ _ _ _) (by simp; omega) (by simp; omega)), (frPut13 HD8.out.fr (.inr HR8.out.ge) _ _ _ _ _ _ _ _ _ _ _ _ _)⟩
set_option maxRecDepth 100000 in
set_option maxHeartbeats 10000000 in
theorem stmt_rest (P g n : Nat) (s : PS) (w : World) (h : PR w P g s) (h0 : 0 ≤ s.deep) (h64 : s.deep ≤ 64) (hn : s.l.length ≤ n) (hb : s.l.length ≤ 1000) (k1 : PM.is [99, 114, 101, 97, 116, 101] s = false) (k2 : PM.is [105, 110, 115, 101, 114, 116] s = false) (k3 : PM.is [115, 101, 108, 101, 99, 116] s = false) (k4 : PM.is [117, 112, 100, 97, 116, 101] s = false) (k5 : PM.is [100, 101, 108, 101, 116, 101] s = false) (k6 : PM.is [114, 97, 105, 115, 101] s = false) (k7 : PM.is [99, 97, 108, 108] s = false) :
    Calls Tryz.prog 19 #[.pointer (some ⟨P, 0, none⟩)] w fun e w' => StR w.heap.size w' e (PM.stmt n s).1 ∧ PR w' P g (PM.stmt n s).2 ∧ Fr [some P] w w' := by
  have hPl := h.lt
  have hgP := h.ne
  have HPL := Lib.hid hPl
  have HD : Hid (Bd w P g w s) := Lib.hid (Bd.start h)
  have HN := Lib.hid (And.intro h0 (And.intro h64 (And.intro hn hb)))
  have HG0 := Lib.hid (PM.Le.refl s)
  clear h h0 h64 hn hb
  have HK1 := Lib.hid k1
  have HK2 := Lib.hid k2
  have HK3 := Lib.hid k3
  have HK4 := Lib.hid k4
  have HK5 := Lib.hid k5
  have HK6 := Lib.hid k6
  have HK7 := Lib.hid k7
  clear k1 k2 k3 k4 k5 k6 k7
  go_enter Tryz.func19, Tryz.ntmps19
  have HI := HK1
  go_wp2_with fail
  refine (skips_no P g s [99, 114, 101, 97, 116, 101] _ (HD.out.alloc _).pr HI.out).mono ?_
  rintro e w1 ⟨rfl, h1, hf1⟩
  have HI1 := Lib.hid HI.out
  have HD1 : Hid (Bd w P g w1 s) := Lib.hid ((HD.out.alloc _).call h1 hf1)
  have HR1 : Hid (Ow w w1 w.heap.size 29 [.int .i64 0, .string ⟨#[]⟩, .string ⟨#[]⟩, .slice none 0 0, .slice none 0 0, .slice none 0 0, .slice none 0 0, .string ⟨#[]⟩, .slice none 0 0, .slice none 0 0, .slice none 0 0, .bool false, .slice none 0 0]) := Lib.hid ((Ow.new (by omega) 29 [.int .i64 0, .string ⟨#[]⟩, .string ⟨#[]⟩, .slice none 0 0, .slice none 0 0, .slice none 0 0, .slice none 0 0, .string ⟨#[]⟩, .slice none 0 0, .slice none 0 0, .slice none 0 0, .bool false, .slice none 0 0]).call HPL.out hf1)
  have hs1 := hf1.size
  simp only [World.size_alloc] at hs1
  have hlR1 := HR1.out.lt
  have hp1 := HD1.out.pr.lt
  clear h1 hf1
  have HI := HK2
  go_wp2_with fail
  refine (skips_no P g s [105, 110, 115, 101, 114, 116] _ HD1.out.pr HI.out).mono ?_
  rintro e w2 ⟨rfl, h2, hf2⟩
  have HI2 := Lib.hid HI.out
  have HD2 : Hid (Bd w P g w2 s) := Lib.hid (HD1.out.call h2 hf2)
  have HR2 : Hid (Ow w w2 w.heap.size 29 [.int .i64 0, .string ⟨#[]⟩, .string ⟨#[]⟩, .slice none 0 0, .slice none 0 0, .slice none 0 0, .slice none 0 0, .string ⟨#[]⟩, .slice none 0 0, .slice none 0 0, .slice none 0 0, .bool false, .slice none 0 0]) := Lib.hid (HR1.out.call HPL.out hf2)
  have hs2 := hf2.size
  have hlR2 := HR2.out.lt
  have hp2 := HD2.out.pr.lt
  clear h2 hf2
  have HI := HK3
  go_wp2_with fail
  refine (skips_no P g s [115, 101, 108, 101, 99, 116] _ HD2.out.pr HI.out).mono ?_
  rintro e w3 ⟨rfl, h3, hf3⟩
  have HI3 := Lib.hid HI.out
  have HD3 : Hid (Bd w P g w3 s) := Lib.hid (HD2.out.call h3 hf3)
  have HR3 : Hid (Ow w w3 w.heap.size 29 [.int .i64 0, .string ⟨#[]⟩, .string ⟨#[]⟩, .slice none 0 0, .slice none 0 0, .slice none 0 0, .slice none 0 0, .string ⟨#[]⟩, .slice none 0 0, .slice none 0 0, .slice none 0 0, .bool false, .slice none 0 0]) := Lib.hid (HR2.out.call HPL.out hf3)
  have hs3 := hf3.size
  have hlR3 := HR3.out.lt
  have hp3 := HD3.out.pr.lt
  clear h3 hf3
  have HI := HK4
  go_wp2_with fail
  refine (skips_no P g s [117, 112, 100, 97, 116, 101] _ HD3.out.pr HI.out).mono ?_
  rintro e w4 ⟨rfl, h4, hf4⟩
  have HI4 := Lib.hid HI.out
  have HD4 : Hid (Bd w P g w4 s) := Lib.hid (HD3.out.call h4 hf4)
  have HR4 : Hid (Ow w w4 w.heap.size 29 [.int .i64 0, .string ⟨#[]⟩, .string ⟨#[]⟩, .slice none 0 0, .slice none 0 0, .slice none 0 0, .slice none 0 0, .string ⟨#[]⟩, .slice none 0 0, .slice none 0 0, .slice none 0 0, .bool false, .slice none 0 0]) := Lib.hid (HR3.out.call HPL.out hf4)
  have hs4 := hf4.size
  have hlR4 := HR4.out.lt
  have hp4 := HD4.out.pr.lt
  clear h4 hf4
  have HI := HK5
  go_wp2_with fail
  refine (skips_no P g s [100, 101, 108, 101, 116, 101] _ HD4.out.pr HI.out).mono ?_
  rintro e w5 ⟨rfl, h5, hf5⟩
  have HI5 := Lib.hid HI.out
  have HD5 : Hid (Bd w P g w5 s) := Lib.hid (HD4.out.call h5 hf5)
  have HR5 : Hid (Ow w w5 w.heap.size 29 [.int .i64 0, .string ⟨#[]⟩, .string ⟨#[]⟩, .slice none 0 0, .slice none 0 0, .slice none 0 0, .slice none 0 0, .string ⟨#[]⟩, .slice none 0 0, .slice none 0 0, .slice none 0 0, .bool false, .slice none 0 0]) := Lib.hid (HR4.out.call HPL.out hf5)
  have hs5 := hf5.size
  have hlR5 := HR5.out.lt
  have hp5 := HD5.out.pr.lt
  clear h5 hf5
  have HI := HK6
  go_wp2_with fail
  refine (skips_no P g s [114, 97, 105, 115, 101] _ HD5.out.pr HI.out).mono ?_
  rintro e w6 ⟨rfl, h6, hf6⟩
  have HI6 := Lib.hid HI.out
  have HD6 : Hid (Bd w P g w6 s) := Lib.hid (HD5.out.call h6 hf6)
  have HR6 : Hid (Ow w w6 w.heap.size 29 [.int .i64 0, .string ⟨#[]⟩, .string ⟨#[]⟩, .slice none 0 0, .slice none 0 0, .slice none 0 0, .slice none 0 0, .string ⟨#[]⟩, .slice none 0 0, .slice none 0 0, .slice none 0 0, .bool false, .slice none 0 0]) := Lib.hid (HR5.out.call HPL.out hf6)
  have hs6 := hf6.size
  have hlR6 := HR6.out.lt
  have hp6 := HD6.out.pr.lt
  clear h6 hf6
  have HI := HK7
  go_wp2_with fail
  refine (skips_no P g s [99, 97, 108, 108] _ HD6.out.pr HI.out).mono ?_
  rintro e w7 ⟨rfl, h7, hf7⟩
  have HI7 := Lib.hid HI.out
  have HD7 : Hid (Bd w P g w7 s) := Lib.hid (HD6.out.call h7 hf7)
  have HR7 : Hid (Ow w w7 w.heap.size 29 [.int .i64 0, .string ⟨#[]⟩, .string ⟨#[]⟩, .slice none 0 0, .slice none 0 0, .slice none 0 0, .slice none 0 0, .string ⟨#[]⟩, .slice none 0 0, .slice none 0 0, .slice none 0 0, .bool false, .slice none 0 0]) := Lib.hid (HR6.out.call HPL.out hf7)
  have hs7 := hf7.size
  have hlR7 := HR7.out.lt
  have hp7 := HD7.out.pr.lt
  clear h7 hf7
  have hmk := fun w => run_make w
  have hp50 := run_put w7 [] [98, 101, 103, 105, 110] 9 (by simp)
  simp only [List.nil_append] at hp50
  have hp51 := run_put w7 [([98, 101, 103, 105, 110], 9)] [99, 111, 109, 109, 105, 116] 10 (by simp)
  simp only [List.cons_append, List.nil_append] at hp51
  have hp52 := run_put w7 [([98, 101, 103, 105, 110], 9), ([99, 111, 109, 109, 105, 116], 10)] [114, 111, 108, 108, 98, 97, 99, 107] 11 (by simp)
  simp only [List.cons_append, List.nil_append] at hp52
  have hrg : (Instr.range 103 (.map (some w7.heap.size))).run Tryz.prog (w7.alloc (mapObj [([98, 101, 103, 105, 110], 9), ([99, 111, 109, 109, 105, 116], 10), ([114, 111, 108, 108, 98, 97, 99, 107], 11)])) = .ok (.pointer (some ⟨w7.heap.size + 1, 0, none⟩)) ((w7.alloc (mapObj [([98, 101, 103, 105, 110], 9), ([99, 111, 109, 109, 105, 116], 10), ([114, 111, 108, 108, 98, 97, 99, 107], 11)])).alloc (.mapIter (some w7.heap.size) 3 #[] 3)) := by
    have := run_range_map (P := Tryz.prog) (w7.alloc (mapObj [([98, 101, 103, 105, 110], 9), ([99, 111, 109, 109, 105, 116], 10), ([114, 111, 108, 108, 98, 97, 99, 107], 11)])) 103 9 3 w7.heap.size (ents [([98, 101, 103, 105, 110], 9), ([99, 111, 109, 109, 105, 116], 10), ([114, 111, 108, 108, 98, 97, 99, 107], 11)] 0).toArray 3 map_und (heap_alloc_new w7 _)
    rwa [World.size_alloc] at this
  go_wp2_with fail
  clear hmk hp50 hp51 hp52 hrg
  go_loopw [] (fun wr => ∃ (seen : Array Nat) (c0 : Nat), Hid (Rg wr w7.heap.size (w7.heap.size + 1) s seen c0) ∧ Hid (Bd w P g wr s) ∧ Hid (Ow w wr w.heap.size 29 [.int .i64 0, .string ⟨#[]⟩, .string ⟨#[]⟩, .slice none 0 0, .slice none 0 0, .slice none 0 0, .slice none 0 0, .string ⟨#[]⟩, .slice none 0 0, .slice none 0 0, .slice none 0 0, .bool false, .slice none 0 0])) (fun wr => kmea (w7.heap.size + 1) wr)
  case atStart => exact ⟨#[], 3, Lib.hid ⟨(Below.heap_alloc _ _ _ (by simp)).trans (heap_alloc_new w7 _), by have := heap_alloc_new (w7.alloc (mapObj [([98, 101, 103, 105, 110], 9), ([99, 111, 109, 109, 105, 116], 10), ([114, 111, 108, 108, 98, 97, 99, 107], 11)])) (.mapIter (some w7.heap.size) 3 #[] 3); rwa [World.size_alloc] at this, Nat.le_refl _, fun j _ h => by simp at h⟩, Lib.hid ((HD7.out.alloc _).alloc _), Lib.hid ((HR7.out.alloc _).alloc _)⟩
  case round =>
    obtain ⟨seen, c0, HRG, HDr, HRr⟩ := hrel
    have hlRr := HRr.out.lt
    have hpr := HDr.out.pr.lt
    have hszr := HDr.out.size
    rcases HRG.out.next (by omega) 0 with ⟨hno, hnx⟩ | ⟨j, hj, w', hnx, hen, hfw, hzw, hstep, hless⟩
    · have HNO := Lib.hid hno
      clear hno
      go_wp2_with fail
      refine (fails_any P g s 5 _ HDr.out.pr).mono ?_
      rintro e w8 ⟨rfl, h8, hf8⟩
      obtain ⟨s1, hq8⟩ : ∃ x, PM.fails 5 s = x := ⟨_, rfl⟩
      rw [hq8] at h8
      have HQ8 := Lib.hid hq8
      clear hq8
      have HD8 : Hid (Bd w P g w8 s1) := Lib.hid (HDr.out.call h8 hf8)
      have HR8 : Hid (Ow w w8 w.heap.size 29 [.int .i64 0, .string ⟨#[]⟩, .string ⟨#[]⟩, .slice none 0 0, .slice none 0 0, .slice none 0 0, .slice none 0 0, .string ⟨#[]⟩, .slice none 0 0, .slice none 0 0, .slice none 0 0, .bool false, .slice none 0 0]) := Lib.hid (HRr.out.call HPL.out hf8)
      have hs8 := hf8.size
      have hlR8 := HR8.out.lt
      have hp8 := HD8.out.pr.lt
      clear h8 hf8
      have HG8 : Hid (PM.Le s1 s) := Lib.hid (HG0.out.calm (PM.calm_fails 5) HQ8.out)
      have HM : Hid (PM.stmt n s = (.zero, s1)) := Lib.hid (by rw [stmt_none HK1.out HK2.out HK3.out HK4.out HK5.out HK6.out HK7.out HNO.out, HQ8.out])
      obtain ⟨Rc0, Rc1, Rc2, Rc3, Rc4, Rc5, Rc6, Rc7, Rc8, Rc9, Rc10, Rc11, Rc12, Rf0, Rf1, Rf2, Rf3, Rf4, Rf5, Rf6, Rf7, Rf8, Rf9, Rf10, Rf11, Rf12⟩ := c13_of HR8.out.blk
      clear hnx
      go_wp2_with fail
      refine bodyPost_ret (ret_cell13 rfl _ w.heap.size rfl _ _ _ _ _ _ _ _ _ _ _ _ _ _ (blkPut13 HR8.out.blk _ _ _ _ _ _ _ _ _ _ _ _ _)) rfl ?_
      rw [HM.out]
      exact st_end HD8.out (frPut13 (Fr.refl [some w.heap.size] _) (.inl (by simp)) _ _ _ _ _ _ _ _ _ _ _ _ _) (Nat.le_refl _) (zero_st _ _)
    · have HST : Hid (PM.is kinds[j].1 s = true → PM.stmt n s = (.ofKind kinds[j].2, PM.skip s)) := Lib.hid (stmt_kind HK1.out HK2.out HK3.out HK4.out HK5.out HK6.out HK7.out)
      have HSTEP := Lib.hid hstep
      have HLESS := Lib.hid hless
      clear hstep hless
      obtain ⟨kw, hkw⟩ : ∃ kw, kinds[j].1 = kw := ⟨_, rfl⟩
      obtain ⟨kv, hkv⟩ : ∃ kv, kinds[j].2 = kv := ⟨_, rfl⟩
      rw [hkw] at HST HSTEP
      rw [hkv] at HST
      rw [hkw, hkv] at hnx hen
      clear hkw hkv
      have HDw : Hid (Bd w P g w' s) := Lib.hid ⟨HDr.out.pr.keep hfw (by simp; omega) (by have := HDr.out.pr.ne; simp; omega), HDr.out.fr.trans' hfw (fun i hi => .inr (by simp at hi; omega)), HDr.out.lt⟩
      have HRw : Hid (Ow w w' w.heap.size 29 [.int .i64 0, .string ⟨#[]⟩, .string ⟨#[]⟩, .slice none 0 0, .slice none 0 0, .slice none 0 0, .slice none 0 0, .string ⟨#[]⟩, .slice none 0 0, .slice none 0 0, .slice none 0 0, .bool false, .slice none 0 0]) := Lib.hid ⟨HRr.out.blk.keep hfw (by simp; omega), HRr.out.ge⟩
      have HFW := Lib.hid hfw
      clear hfw
      have hlRw := HRw.out.lt
      have hpw := HDw.out.pr.lt
      have HZW := Lib.hid hzw
      clear hzw
      cases hi : PM.is kw s
      · have HI := Lib.hid hi
        clear hi
        have HRG2 := Lib.hid (HSTEP.out HI.out)
        go_wp2_with fail
        have HMEA := Lib.hid HRG.out.mea
        refine (skips_no P g s kw _ HDw.out.pr HI.out).mono ?_
        rintro e wz ⟨rfl, hz, hfz⟩
        have HDz : Hid (Bd w P g wz s) := Lib.hid (HDw.out.call hz hfz)
        have HRz := Lib.hid (HRw.out.call HPL.out hfz)
        have HRGz := Lib.hid (HRG2.out.keep hfz (by simp; omega) (by simp; omega))
        have HME : Hid (kmea (w7.heap.size + 1) wz < kmea (w7.heap.size + 1) wr) := Lib.hid (by rw [HMEA.out, HRGz.out.mea]; exact HLESS.out)
        clear hz hfz hnx hen
        go_wp2_with fail
        go_roundw
        case rel => exact ⟨_, _, HRGz, HDz, HRz⟩
        case measure => exact HME.out
      · have HI := Lib.hid hi
        clear hi
        go_wp2_with fail
        refine (skips_yes P g s kw _ HDw.out.pr HI.out).mono ?_
        rintro e wz ⟨rfl, hz, hfz⟩
        have HDz : Hid (Bd w P g wz (PM.skip s)) := Lib.hid (HDw.out.call hz hfz)
        have HRz : Hid (Ow w wz w.heap.size 29 [.int .i64 0, .string ⟨#[]⟩, .string ⟨#[]⟩, .slice none 0 0, .slice none 0 0, .slice none 0 0, .slice none 0 0, .string ⟨#[]⟩, .slice none 0 0, .slice none 0 0, .slice none 0 0, .bool false, .slice none 0 0]) := Lib.hid (HRw.out.call HPL.out hfz)
        clear hz hfz hnx hen
        obtain ⟨Rc0, Rc1, Rc2, Rc3, Rc4, Rc5, Rc6, Rc7, Rc8, Rc9, Rc10, Rc11, Rc12, Rf0, Rf1, Rf2, Rf3, Rf4, Rf5, Rf6, Rf7, Rf8, Rf9, Rf10, Rf11, Rf12⟩ := c13_of HRz.out.blk
        go_wp2_with fail
        refine bodyPost_ret (ret_cell13 rfl _ w.heap.size rfl _ _ _ _ _ _ _ _ _ _ _ _ _ _ (blkPut13 HRz.out.blk _ _ _ _ _ _ _ _ _ _ _ _ _)) rfl ?_
        rw [HST.out HI.out]
        exact ⟨⟨_, rfl, .mk _ _ _ _ _ _ _ _ _ _ _ _ _ _ _ _ _ _ _ _ _ .nil .nil Rep.Es.nil .nil Rep.Es.nil Rep.Es.nil Rep.Es.nil SS.nil⟩, (HDz.out.pr.keep (frPut13 (Fr.refl [some w.heap.size] _) (.inl (by simp)) _ _ _ _ _ _ _ _ _ _ _ _ _) (by simp; omega) (by simp; omega)), (frPut13 HDz.out.fr (.inr HRz.out.ge) _ _ _ _ _ _ _ _ _ _ _ _ _)⟩
theorem stmt_any (P g n : Nat) (s : PS) (w : World) (h : PR w P g s) (h0 : 0 ≤ s.deep) (h64 : s.deep ≤ 64) (hn : s.l.length ≤ n) (hb : s.l.length ≤ 1000) :
    Calls Tryz.prog 19 #[.pointer (some ⟨P, 0, none⟩)] w fun e w' => StR w.heap.size w' e (PM.stmt n s).1 ∧ PR w' P g (PM.stmt n s).2 ∧ Fr [some P] w w' := by
  cases k1 : PM.is [99, 114, 101, 97, 116, 101] s
  · cases hd : PM.data n s with
    | some r =>
      have hm : PM.stmt n s = r := by rw [PM.stmt, if_neg (by rw [k1]; decide), hd]
      rw [hm]
      exact data_any P g n s w h h0 h64 hn hb hd
    | none =>
      have no : ∀ x ∈ [[105, 110, 115, 101, 114, 116], [115, 101, 108, 101, 99, 116], [117, 112, 100, 97, 116, 101], [100, 101, 108, 101, 116, 101]], PM.is x s = false := by
        intro x hx
        rw [Bool.eq_false_iff]
        intro hi
        obtain ⟨r, hr⟩ := data_some (n := n) hx hi
        rw [hd] at hr
        cases hr
      cases k6 : PM.is [114, 97, 105, 115, 101] s
      · cases k7 : PM.is [99, 97, 108, 108] s
        · exact stmt_rest P g n s w h h0 h64 hn hb k1 (no _ (by simp)) (no _ (by simp)) (no _ (by simp)) (no _ (by simp)) k6 k7
        · exact stmt_call P g n s w h h0 h64 hn hb k7
      · exact stmt_raise P g n s w h h0 h64 hn hb k6
  · exact stmt_create P g n s w h h0 h64 hn hb k1
end Px
end Go.Proofs.YtmdnhinpaflamaaGreatDoor
