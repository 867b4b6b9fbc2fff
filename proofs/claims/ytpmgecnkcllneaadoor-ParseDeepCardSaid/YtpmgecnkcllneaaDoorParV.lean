/- parse: create. -/
import Derived.Test.YtpmgecnkcllneaaDoorParU
namespace Go.Proofs.YtpmgecnkcllneaaDoor
open Go.RowKit
namespace Px
open PM (PS B Ex)

theorem door_any (P g n : Nat) (s : PS) (w : World) (h : PR w P g s) (h0 : 0 ≤ s.deep) (h64 : s.deep ≤ 64) (hn : s.l.length ≤ n) (hb : s.l.length ≤ 1000) (kd : Int) (l : List B) (gs : Nat) (hW : StrsA (fun b => b = gs) w gs l) (hgs : ¬ gs = P) (hl : l.length ≤ 1000) (hdat : ∀ x ∈ l, ∀ s, PM.is x s = true → ∃ r, PM.data n s = some r) {st : PM.St} {s' : PS} (hq : PM.door n kd l s = (st, s')) :
    Calls Tryd.prog 53 #[.pointer (some ⟨P, 0, none⟩), .int .i64 kd, .slice (some ⟨gs, 0, none⟩) l.length l.length] w fun e w' => StR w.heap.size w' e st ∧ PR w' P g s' ∧ Fr [some P] w w' := by
  have e1 : st = (PM.door n kd l s).1 := by rw [hq]
  have e2 : s' = (PM.door n kd l s).2 := by rw [hq]
  subst e1 e2
  by_cases hk : (PM.needs [[115, 116, 114, 105, 112]] (PM.name s).2).now.kind = 3
  · exact door_tags P g n s w h h0 h64 hn hb kd l gs hW hgs hl hdat hk
  · exact door_bare P g n s w h h0 h64 hn hb kd l gs hW hgs hl hdat hk
theorem data_some {n : Nat} {s : PS} {x : B} (hx : x ∈ [[105, 110, 115, 101, 114, 116], [115, 101, 108, 101, 99, 116], [117, 112, 100, 97, 116, 101], [100, 101, 108, 101, 116, 101]]) (h : PM.is x s = true) : ∃ r, PM.data n s = some r := by
  unfold PM.data
  simp only [List.mem_cons, List.not_mem_nil, or_false] at hx
  split
  · exact ⟨_, rfl⟩
  · split
    · exact ⟨_, rfl⟩
    · split
      · exact ⟨_, rfl⟩
      · split
        · exact ⟨_, rfl⟩
        · rename_i h1 h2 h3 h4
          rcases hx with rfl | rfl | rfl | rfl
          · exact absurd h h1
          · exact absurd h h2
          · exact absurd h h3
          · exact absurd h h4

set_option maxRecDepth 100000 in
set_option maxHeartbeats 10000000 in
theorem create_table (P g n : Nat) (s : PS) (w : World) (h : PR w P g s) (h0 : 0 ≤ s.deep) (h64 : s.deep ≤ 64) (hn : s.l.length ≤ n) (hb : s.l.length ≤ 1000) (hi : PM.is [116, 97, 98, 108, 101] s = true) :
    Calls Tryd.prog 31 #[.pointer (some ⟨P, 0, none⟩)] w fun e w' => StR w.heap.size w' e (PM.create n s).1 ∧ PR w' P g (PM.create n s).2 ∧ Fr [some P] w w' := by
  have hPl := h.lt
  have hgP := h.ne
  have HPL := Lib.hid hPl
  have HD : Hid (Bd w P g w s) := Lib.hid (Bd.start h)
  have HX := Lib.hid hi
  clear hi
  have HN := Lib.hid (And.intro h0 (And.intro h64 (And.intro hn hb)))
  have HG0 := Lib.hid (PM.Le.refl s)
  clear h h0 h64 hn hb
  go_enter Tryd.func31, Tryd.ntmps31
  have HI := HX
  go_wp2_with fail
  refine (skips_yes P g s [116, 97, 98, 108, 101] _ (HD.out.alloc _).pr HI.out).mono ?_
  rintro e w1 ⟨rfl, h1, hf1⟩
  have hi1 := HI.out
  obtain ⟨s1, hq1⟩ : ∃ x, PM.skip s = x := ⟨_, rfl⟩
  rw [hq1] at h1
  have HQ1 := Lib.hid hq1
  have HI1 := Lib.hid hi1
  clear hq1 hi1
  have HD1 : Hid (Bd w P g w1 s1) := Lib.hid ((HD.out.alloc _).call h1 hf1)
  have HR1 : Hid (Ow w w1 w.heap.size 30 [.int .i64 0, .string ⟨#[]⟩, .string ⟨#[]⟩, .slice none 0 0, .slice none 0 0, .slice none 0 0, .slice none 0 0, .string ⟨#[]⟩, .slice none 0 0, .slice none 0 0, .slice none 0 0, .bool false, .slice none 0 0]) := Lib.hid ((Ow.new (by omega) 30 [.int .i64 0, .string ⟨#[]⟩, .string ⟨#[]⟩, .slice none 0 0, .slice none 0 0, .slice none 0 0, .slice none 0 0, .string ⟨#[]⟩, .slice none 0 0, .slice none 0 0, .slice none 0 0, .bool false, .slice none 0 0]).call HPL.out hf1)
  have hs1 := hf1.size
  simp only [World.size_alloc] at hs1
  have hlR1 := HR1.out.lt
  have hp1 := HD1.out.pr.lt
  clear h1 hf1
  have HG1 : Hid (PM.Le s1 s) := Lib.hid (HG0.out.calm PM.calm_skip HQ1.out)
  go_wp2_with fail
  refine (name_any P g s1 _ HD1.out.pr).mono ?_
  rintro e w2 ⟨rfl, h2, hf2⟩
  obtain ⟨m, s2, hq2⟩ : ∃ a b, PM.name s1 = (a, b) := ⟨_, _, rfl⟩
  rw [hq2] at h2 ⊢
  have HQ2 := Lib.hid hq2
  clear hq2
  have HD2 : Hid (Bd w P g w2 s2) := Lib.hid (HD1.out.call h2 hf2)
  have HR2 : Hid (Ow w w2 w.heap.size 30 [.int .i64 0, .string ⟨#[]⟩, .string ⟨#[]⟩, .slice none 0 0, .slice none 0 0, .slice none 0 0, .slice none 0 0, .string ⟨#[]⟩, .slice none 0 0, .slice none 0 0, .slice none 0 0, .bool false, .slice none 0 0]) := Lib.hid (HR1.out.call HPL.out hf2)
  have hs2 := hf2.size
  have hlR2 := HR2.out.lt
  have hp2 := HD2.out.pr.lt
  clear h2 hf2
  have HG2 : Hid (PM.Le s2 s) := Lib.hid (HG1.out.good PM.good_name HQ2.out)
  go_wp2_with fail
  refine (needs_new (n := w2.heap.size + 1) (HD2.out.alloc _).pr [[40]] (by decide) (by simp)).mono ?_
  rintro e w3 ⟨rfl, h3, hf3⟩
  obtain ⟨s3, hq3⟩ : ∃ x, PM.needs [[40]] s2 = x := ⟨_, rfl⟩
  rw [hq3] at h3
  have HQ3 := Lib.hid hq3
  clear hq3
  have HD3 : Hid (Bd w P g w3 s3) := Lib.hid (((HD2.out.alloc _).alloc _).call h3 hf3)
  have HR3 : Hid (Ow w w3 w.heap.size 30 [.int .i64 0, .string ⟨#[]⟩, .string ⟨#[]⟩, .slice none 0 0, .slice none 0 0, .slice none 0 0, .slice none 0 0, .string ⟨#[]⟩, .slice none 0 0, .slice none 0 0, .slice none 0 0, .bool false, .slice none 0 0]) := Lib.hid (((HR2.out.alloc _).alloc _).call HPL.out hf3)
  have HSt3 : Hid (Ow w w3 w2.heap.size 30 [.int .i64 1, .string ⟨#[]⟩, .string ⟨m.toArray⟩, .slice none 0 0, .slice none 0 0, .slice none 0 0, .slice none 0 0, .string ⟨#[]⟩, .slice none 0 0, .slice none 0 0, .slice none 0 0, .bool false, .slice none 0 0]) := Lib.hid (((Ow.new (by omega) 30 [.int .i64 1, .string ⟨#[]⟩, .string ⟨m.toArray⟩, .slice none 0 0, .slice none 0 0, .slice none 0 0, .slice none 0 0, .string ⟨#[]⟩, .slice none 0 0, .slice none 0 0, .slice none 0 0, .bool false, .slice none 0 0]).alloc _).call HPL.out hf3)
  have hs3 := hf3.size
  simp only [World.size_alloc] at hs3
  have hlR3 := HR3.out.lt
  have hlSt3 := HSt3.out.lt
  have hp3 := HD3.out.pr.lt
  clear h3 hf3
  have HG3 : Hid (PM.Le s3 s) := Lib.hid (HG2.out.calm (PM.calm_needs [[40]]) HQ3.out)
  obtain ⟨cl, s4, hq4⟩ : ∃ a b, PM.list PM.col s3 = (a, b) := ⟨_, _, rfl⟩
  have HQ4 := Lib.hid hq4
  clear hq4
  go_wp2_with fail
  refine (list_col' n HD3.out.pr (by have := HG3.out.1; have := HN.out; omega) (by have := HG3.out.1; have := HN.out; omega) (by have := HG3.out.2; have := HN.out; omega) (by have := HG3.out.2; have := HN.out; omega) HQ4.out).mono ?_
  rintro e w4 ⟨⟨cla, cll, clc, rfl, hv⟩, h4, hf4⟩
  have HD4 : Hid (Bd w P g w4 s4) := Lib.hid (HD3.out.call h4 hf4)
  have HR4 : Hid (Ow w w4 w.heap.size 30 [.int .i64 0, .string ⟨#[]⟩, .string ⟨#[]⟩, .slice none 0 0, .slice none 0 0, .slice none 0 0, .slice none 0 0, .string ⟨#[]⟩, .slice none 0 0, .slice none 0 0, .slice none 0 0, .bool false, .slice none 0 0]) := Lib.hid (HR3.out.call HPL.out hf4)
  have HSt4 : Hid (Ow w w4 w2.heap.size 30 [.int .i64 1, .string ⟨#[]⟩, .string ⟨m.toArray⟩, .slice none 0 0, .slice none 0 0, .slice none 0 0, .slice none 0 0, .string ⟨#[]⟩, .slice none 0 0, .slice none 0 0, .slice none 0 0, .bool false, .slice none 0 0]) := Lib.hid (HSt3.out.call HPL.out hf4)
  have hs4 := hf4.size
  have hlR4 := HR4.out.lt
  have hlSt4 := HSt4.out.lt
  have hp4 := HD4.out.pr.lt
  clear h4 hf4
  have HG4 : Hid (PM.Le s4 s) := Lib.hid (HG3.out.good (PM.good_list PM.good_col) HQ4.out)
  have HCs4 := Lib.hid (FlatS.mono (A' := fun b => w2.heap.size < b) (fun b hb => by first | omega | (simp at hb; omega)) hv)
  clear hv
  obtain ⟨Stc0, Stc1, Stc2, Stc3, Stc4, Stc5, Stc6, Stc7, Stc8, Stc9, Stc10, Stc11, Stc12, Stf0, Stf1, Stf2, Stf3, Stf4, Stf5, Stf6, Stf7, Stf8, Stf9, Stf10, Stf11, Stf12⟩ := c13_of HSt4.out.blk
  go_wp2_with fail
  clear Stc0 Stc1 Stc2 Stc3 Stc4 Stc5 Stc6 Stc7 Stc8 Stc9 Stc10 Stc11 Stc12 Stf0 Stf1 Stf2 Stf3 Stf4 Stf5 Stf6 Stf7 Stf8 Stf9 Stf10 Stf11 Stf12
  go_wp2_with fail
  refine (needs_new (n := w4.heap.size) (HD4.out.set (by omega)).pr [[41]] (by decide) (by simp)).mono ?_
  rintro e w5 ⟨rfl, h5, hf5⟩
  obtain ⟨s5, hq5⟩ : ∃ x, PM.needs [[41]] s4 = x := ⟨_, rfl⟩
  rw [hq5] at h5
  have HQ5 := Lib.hid hq5
  clear hq5
  have HD5 : Hid (Bd w P g w5 s5) := Lib.hid (((HD4.out.set (by omega)).alloc _).call h5 hf5)
  have HR5 : Hid (Ow w w5 w.heap.size 30 [.int .i64 0, .string ⟨#[]⟩, .string ⟨#[]⟩, .slice none 0 0, .slice none 0 0, .slice none 0 0, .slice none 0 0, .string ⟨#[]⟩, .slice none 0 0, .slice none 0 0, .slice none 0 0, .bool false, .slice none 0 0]) := Lib.hid (((HR4.out.other (by omega)).alloc _).call HPL.out hf5)
  have HSt5 : Hid (Ow w w5 w2.heap.size 30 [.int .i64 1, .string ⟨#[]⟩, .string ⟨m.toArray⟩, (.slice cla cll clc), .slice none 0 0, .slice none 0 0, .slice none 0 0, .string ⟨#[]⟩, .slice none 0 0, .slice none 0 0, .slice none 0 0, .bool false, .slice none 0 0]) := Lib.hid (((HSt4.out.set 3 (.slice cla cll clc)).alloc _).call HPL.out hf5)
  have HCs5 := Lib.hid (FlatS.keep hf5 (fun b hb => by simp <;> omega) (FlatS.keep (((Fr.refl [some w2.heap.size] w4).setCell (p := ⟨w2.heap.size, 3, none⟩) (.inl (by simp)) (.slice cla cll clc)).alloc _) (fun b hb => by simp <;> omega) HCs4.out))
  have hs5 := hf5.size
  simp only [World.size_alloc, World.size_setCell] at hs5
  have hlR5 := HR5.out.lt
  have hlSt5 := HSt5.out.lt
  have hp5 := HD5.out.pr.lt
  clear h5 hf5
  have HG5 : Hid (PM.Le s5 s) := Lib.hid (HG4.out.calm (PM.calm_needs [[41]]) HQ5.out)
  have HM : Hid (PM.create n s = (.mk 1 [] m cl [] [] [] [] [] [] [] false [], s5)) := Lib.hid (by simp only [PM.create, HI1.out, HQ1.out, HQ2.out, HQ3.out, HQ4.out, HQ5.out, if_true, eq_self])
  have hnRSt : ¬ w.heap.size = w2.heap.size := by omega
  have hnStR : ¬ w2.heap.size = w.heap.size := by omega
  obtain ⟨Stc0, Stc1, Stc2, Stc3, Stc4, Stc5, Stc6, Stc7, Stc8, Stc9, Stc10, Stc11, Stc12, Stf0, Stf1, Stf2, Stf3, Stf4, Stf5, Stf6, Stf7, Stf8, Stf9, Stf10, Stf11, Stf12⟩ := c13_of HSt5.out.blk
  obtain ⟨Rc0, Rc1, Rc2, Rc3, Rc4, Rc5, Rc6, Rc7, Rc8, Rc9, Rc10, Rc11, Rc12, Rf0, Rf1, Rf2, Rf3, Rf4, Rf5, Rf6, Rf7, Rf8, Rf9, Rf10, Rf11, Rf12⟩ := c13_of HR5.out.blk
  go_wp2_with fail
  refine bodyPost_ret (ret_cell13 rfl _ w.heap.size rfl _ _ _ _ _ _ _ _ _ _ _ _ _ _ (blkPut13 HR5.out.blk _ _ _ _ _ _ _ _ _ _ _ _ _)) rfl ?_
  rw [HM.out]
  exact ⟨⟨_, rfl, .mk _ _ _ _ _ _ _ _ _ _ _ _ _ _ _ _ _ _ _ _ _ (FlatS.mono (A' := fun b => w.heap.size ≤ b) (fun b hb => by omega) (FlatS.keep (frPut13 (Fr.refl [some w.heap.size] w5) (.inl (by simp)) _ _ _ _ _ _ _ _ _ _ _ _ _) (fun b hb => by simp; omega) HCs5.out)) .nil Rep.Es.nil .nil Rep.Es.nil Rep.Es.nil Rep.Es.nil SS.nil⟩, (HD5.out.pr.keep (frPut13 (Fr.refl [some w.heap.size] _) (.inl (by simp)) _ _ _ _ _ _ _ _ _ _ _ _ _) (by simp; omega) (by simp; omega)), (frPut13 HD5.out.fr (.inr HR5.out.ge) _ _ _ _ _ _ _ _ _ _ _ _ _)⟩
set_option maxRecDepth 100000 in
set_option maxHeartbeats 10000000 in
theorem create_index (P g n : Nat) (s : PS) (w : World) (h : PR w P g s) (h0 : 0 ≤ s.deep) (h64 : s.deep ≤ 64) (hn : s.l.length ≤ n) (hb : s.l.length ≤ 1000) (hi : PM.is [105, 110, 100, 101, 120] s = true) :
    Calls Tryd.prog 31 #[.pointer (some ⟨P, 0, none⟩)] w fun e w' => StR w.heap.size w' e (PM.create n s).1 ∧ PR w' P g (PM.create n s).2 ∧ Fr [some P] w w' := by
  have hPl := h.lt
  have hgP := h.ne
  have HPL := Lib.hid hPl
  have HD : Hid (Bd w P g w s) := Lib.hid (Bd.start h)
  have HX := Lib.hid hi
  clear hi
  have HN := Lib.hid (And.intro h0 (And.intro h64 (And.intro hn hb)))
  have HG0 := Lib.hid (PM.Le.refl s)
  clear h h0 h64 hn hb
  go_enter Tryd.func31, Tryd.ntmps31
  have HI := Lib.hid (is_ne (b := [116, 97, 98, 108, 101]) HX.out (by decide))
  go_wp2_with fail
  refine (skips_no P g s [116, 97, 98, 108, 101] _ (HD.out.alloc _).pr HI.out).mono ?_
  rintro e w1 ⟨rfl, h1, hf1⟩
  have HI1 := Lib.hid HI.out
  have HD1 : Hid (Bd w P g w1 s) := Lib.hid ((HD.out.alloc _).call h1 hf1)
  have HR1 : Hid (Ow w w1 w.heap.size 30 [.int .i64 0, .string ⟨#[]⟩, .string ⟨#[]⟩, .slice none 0 0, .slice none 0 0, .slice none 0 0, .slice none 0 0, .string ⟨#[]⟩, .slice none 0 0, .slice none 0 0, .slice none 0 0, .bool false, .slice none 0 0]) := Lib.hid ((Ow.new (by omega) 30 [.int .i64 0, .string ⟨#[]⟩, .string ⟨#[]⟩, .slice none 0 0, .slice none 0 0, .slice none 0 0, .slice none 0 0, .string ⟨#[]⟩, .slice none 0 0, .slice none 0 0, .slice none 0 0, .bool false, .slice none 0 0]).call HPL.out hf1)
  have hs1 := hf1.size
  simp only [World.size_alloc] at hs1
  have hlR1 := HR1.out.lt
  have hp1 := HD1.out.pr.lt
  clear h1 hf1
  have HI := HX
  go_wp2_with fail
  refine (skips_yes P g s [105, 110, 100, 101, 120] _ HD1.out.pr HI.out).mono ?_
  rintro e w2 ⟨rfl, h2, hf2⟩
  have hi2 := HI.out
  obtain ⟨s1, hq2⟩ : ∃ x, PM.skip s = x := ⟨_, rfl⟩
  rw [hq2] at h2
  have HQ2 := Lib.hid hq2
  have HI2 := Lib.hid hi2
  clear hq2 hi2
  have HD2 : Hid (Bd w P g w2 s1) := Lib.hid (HD1.out.call h2 hf2)
  have HR2 : Hid (Ow w w2 w.heap.size 30 [.int .i64 0, .string ⟨#[]⟩, .string ⟨#[]⟩, .slice none 0 0, .slice none 0 0, .slice none 0 0, .slice none 0 0, .string ⟨#[]⟩, .slice none 0 0, .slice none 0 0, .slice none 0 0, .bool false, .slice none 0 0]) := Lib.hid (HR1.out.call HPL.out hf2)
  have hs2 := hf2.size
  have hlR2 := HR2.out.lt
  have hp2 := HD2.out.pr.lt
  clear h2 hf2
  have HG2 : Hid (PM.Le s1 s) := Lib.hid (HG0.out.calm PM.calm_skip HQ2.out)
  go_wp2_with fail
  refine (needs_new (n := w2.heap.size) HD2.out.pr [[111, 110]] (by decide) (by simp)).mono ?_
  rintro e w3 ⟨rfl, h3, hf3⟩
  obtain ⟨s2, hq3⟩ : ∃ x, PM.needs [[111, 110]] s1 = x := ⟨_, rfl⟩
  rw [hq3] at h3
  have HQ3 := Lib.hid hq3
  clear hq3
  have HD3 : Hid (Bd w P g w3 s2) := Lib.hid ((HD2.out.alloc _).call h3 hf3)
  have HR3 : Hid (Ow w w3 w.heap.size 30 [.int .i64 0, .string ⟨#[]⟩, .string ⟨#[]⟩, .slice none 0 0, .slice none 0 0, .slice none 0 0, .slice none 0 0, .string ⟨#[]⟩, .slice none 0 0, .slice none 0 0, .slice none 0 0, .bool false, .slice none 0 0]) := Lib.hid ((HR2.out.alloc _).call HPL.out hf3)
  have hs3 := hf3.size
  simp only [World.size_alloc] at hs3
  have hlR3 := HR3.out.lt
  have hp3 := HD3.out.pr.lt
  clear h3 hf3
  have HG3 : Hid (PM.Le s2 s) := Lib.hid (HG2.out.calm (PM.calm_needs [[111, 110]]) HQ3.out)
  go_wp2_with fail
  refine (name_any P g s2 _ HD3.out.pr).mono ?_
  rintro e w4 ⟨rfl, h4, hf4⟩
  obtain ⟨tn, s3, hq4⟩ : ∃ a b, PM.name s2 = (a, b) := ⟨_, _, rfl⟩
  rw [hq4] at h4 ⊢
  have HQ4 := Lib.hid hq4
  clear hq4
  have HD4 : Hid (Bd w P g w4 s3) := Lib.hid (HD3.out.call h4 hf4)
  have HR4 : Hid (Ow w w4 w.heap.size 30 [.int .i64 0, .string ⟨#[]⟩, .string ⟨#[]⟩, .slice none 0 0, .slice none 0 0, .slice none 0 0, .slice none 0 0, .string ⟨#[]⟩, .slice none 0 0, .slice none 0 0, .slice none 0 0, .bool false, .slice none 0 0]) := Lib.hid (HR3.out.call HPL.out hf4)
  have hs4 := hf4.size
  have hlR4 := HR4.out.lt
  have hp4 := HD4.out.pr.lt
  clear h4 hf4
  have HG4 : Hid (PM.Le s3 s) := Lib.hid (HG3.out.good PM.good_name HQ4.out)
  go_wp2_with fail
  refine (needs_new (n := w4.heap.size + 1) (HD4.out.alloc _).pr [[40]] (by decide) (by simp)).mono ?_
  rintro e w5 ⟨rfl, h5, hf5⟩
  obtain ⟨s4, hq5⟩ : ∃ x, PM.needs [[40]] s3 = x := ⟨_, rfl⟩
  rw [hq5] at h5
  have HQ5 := Lib.hid hq5
  clear hq5
  have HD5 : Hid (Bd w P g w5 s4) := Lib.hid (((HD4.out.alloc _).alloc _).call h5 hf5)
  have HR5 : Hid (Ow w w5 w.heap.size 30 [.int .i64 0, .string ⟨#[]⟩, .string ⟨#[]⟩, .slice none 0 0, .slice none 0 0, .slice none 0 0, .slice none 0 0, .string ⟨#[]⟩, .slice none 0 0, .slice none 0 0, .slice none 0 0, .bool false, .slice none 0 0]) := Lib.hid (((HR4.out.alloc _).alloc _).call HPL.out hf5)
  have HSt5 : Hid (Ow w w5 w4.heap.size 30 [.int .i64 2, .string ⟨tn.toArray⟩, .string ⟨#[]⟩, .slice none 0 0, .slice none 0 0, .slice none 0 0, .slice none 0 0, .string ⟨#[]⟩, .slice none 0 0, .slice none 0 0, .slice none 0 0, .bool false, .slice none 0 0]) := Lib.hid (((Ow.new (by omega) 30 [.int .i64 2, .string ⟨tn.toArray⟩, .string ⟨#[]⟩, .slice none 0 0, .slice none 0 0, .slice none 0 0, .slice none 0 0, .string ⟨#[]⟩, .slice none 0 0, .slice none 0 0, .slice none 0 0, .bool false, .slice none 0 0]).alloc _).call HPL.out hf5)
  have hs5 := hf5.size
  simp only [World.size_alloc] at hs5
  have hlR5 := HR5.out.lt
  have hlSt5 := HSt5.out.lt
  have hp5 := HD5.out.pr.lt
  clear h5 hf5
  have HG5 : Hid (PM.Le s4 s) := Lib.hid (HG4.out.calm (PM.calm_needs [[40]]) HQ5.out)
  go_wp2_with fail
  refine (name_any P g s4 _ HD5.out.pr).mono ?_
  rintro e w6 ⟨rfl, h6, hf6⟩
  obtain ⟨m, s5, hq6⟩ : ∃ a b, PM.name s4 = (a, b) := ⟨_, _, rfl⟩
  rw [hq6] at h6 ⊢
  have HQ6 := Lib.hid hq6
  clear hq6
  have HD6 : Hid (Bd w P g w6 s5) := Lib.hid (HD5.out.call h6 hf6)
  have HR6 : Hid (Ow w w6 w.heap.size 30 [.int .i64 0, .string ⟨#[]⟩, .string ⟨#[]⟩, .slice none 0 0, .slice none 0 0, .slice none 0 0, .slice none 0 0, .string ⟨#[]⟩, .slice none 0 0, .slice none 0 0, .slice none 0 0, .bool false, .slice none 0 0]) := Lib.hid (HR5.out.call HPL.out hf6)
  have HSt6 : Hid (Ow w w6 w4.heap.size 30 [.int .i64 2, .string ⟨tn.toArray⟩, .string ⟨#[]⟩, .slice none 0 0, .slice none 0 0, .slice none 0 0, .slice none 0 0, .string ⟨#[]⟩, .slice none 0 0, .slice none 0 0, .slice none 0 0, .bool false, .slice none 0 0]) := Lib.hid (HSt5.out.call HPL.out hf6)
  have hs6 := hf6.size
  have hlR6 := HR6.out.lt
  have hlSt6 := HSt6.out.lt
  have hp6 := HD6.out.pr.lt
  clear h6 hf6
  have HG6 : Hid (PM.Le s5 s) := Lib.hid (HG5.out.good PM.good_name HQ6.out)
  obtain ⟨Stc0, Stc1, Stc2, Stc3, Stc4, Stc5, Stc6, Stc7, Stc8, Stc9, Stc10, Stc11, Stc12, Stf0, Stf1, Stf2, Stf3, Stf4, Stf5, Stf6, Stf7, Stf8, Stf9, Stf10, Stf11, Stf12⟩ := c13_of HSt6.out.blk
  go_wp2_with fail
  clear Stc0 Stc1 Stc2 Stc3 Stc4 Stc5 Stc6 Stc7 Stc8 Stc9 Stc10 Stc11 Stc12 Stf0 Stf1 Stf2 Stf3 Stf4 Stf5 Stf6 Stf7 Stf8 Stf9 Stf10 Stf11 Stf12
  go_wp2_with fail
  refine (needs_new (n := w6.heap.size) (HD6.out.set (by omega)).pr [[41]] (by decide) (by simp)).mono ?_
  rintro e w7 ⟨rfl, h7, hf7⟩
  obtain ⟨s6, hq7⟩ : ∃ x, PM.needs [[41]] s5 = x := ⟨_, rfl⟩
  rw [hq7] at h7
  have HQ7 := Lib.hid hq7
  clear hq7
  have HD7 : Hid (Bd w P g w7 s6) := Lib.hid (((HD6.out.set (by omega)).alloc _).call h7 hf7)
  have HR7 : Hid (Ow w w7 w.heap.size 30 [.int .i64 0, .string ⟨#[]⟩, .string ⟨#[]⟩, .slice none 0 0, .slice none 0 0, .slice none 0 0, .slice none 0 0, .string ⟨#[]⟩, .slice none 0 0, .slice none 0 0, .slice none 0 0, .bool false, .slice none 0 0]) := Lib.hid (((HR6.out.other (by omega)).alloc _).call HPL.out hf7)
  have HSt7 : Hid (Ow w w7 w4.heap.size 30 [.int .i64 2, .string ⟨tn.toArray⟩, (.string ⟨m.toArray⟩), .slice none 0 0, .slice none 0 0, .slice none 0 0, .slice none 0 0, .string ⟨#[]⟩, .slice none 0 0, .slice none 0 0, .slice none 0 0, .bool false, .slice none 0 0]) := Lib.hid (((HSt6.out.set 2 (.string ⟨m.toArray⟩)).alloc _).call HPL.out hf7)
  have hs7 := hf7.size
  simp only [World.size_alloc, World.size_setCell] at hs7
  have hlR7 := HR7.out.lt
  have hlSt7 := HSt7.out.lt
  have hp7 := HD7.out.pr.lt
  clear h7 hf7
  have HG7 : Hid (PM.Le s6 s) := Lib.hid (HG6.out.calm (PM.calm_needs [[41]]) HQ7.out)
  have HM : Hid (PM.create n s = (.mk 2 tn m [] [] [] [] [] [] [] [] false [], s6)) := Lib.hid (by simp only [PM.create, HI1.out, HI2.out, HQ2.out, HQ3.out, HQ4.out, HQ5.out, HQ6.out, HQ7.out, if_true, if_false, Bool.false_eq_true, eq_self])
  have hnRSt : ¬ w.heap.size = w4.heap.size := by omega
  have hnStR : ¬ w4.heap.size = w.heap.size := by omega
  obtain ⟨Stc0, Stc1, Stc2, Stc3, Stc4, Stc5, Stc6, Stc7, Stc8, Stc9, Stc10, Stc11, Stc12, Stf0, Stf1, Stf2, Stf3, Stf4, Stf5, Stf6, Stf7, Stf8, Stf9, Stf10, Stf11, Stf12⟩ := c13_of HSt7.out.blk
  obtain ⟨Rc0, Rc1, Rc2, Rc3, Rc4, Rc5, Rc6, Rc7, Rc8, Rc9, Rc10, Rc11, Rc12, Rf0, Rf1, Rf2, Rf3, Rf4, Rf5, Rf6, Rf7, Rf8, Rf9, Rf10, Rf11, Rf12⟩ := c13_of HR7.out.blk
  go_wp2_with fail
  refine bodyPost_ret (ret_cell13 rfl _ w.heap.size rfl _ _ _ _ _ _ _ _ _ _ _ _ _ _ (blkPut13 HR7.out.blk _ _ _ _ _ _ _ _ _ _ _ _ _)) rfl ?_
  rw [HM.out]
  exact ⟨⟨_, rfl, .mk _ _ _ _ _ _ _ _ _ _ _ _ _ _ _ _ _ _ _ _ _ .nil .nil Rep.Es.nil .nil Rep.Es.nil Rep.Es.nil Rep.Es.nil SS.nil⟩, (HD7.out.pr.keep (frPut13 (Fr.refl [some w.heap.size] _) (.inl (by simp)) _ _ _ _ _ _ _ _ _ _ _ _ _) (by simp; omega) (by simp; omega)), (frPut13 HD7.out.fr (.inr HR7.out.ge) _ _ _ _ _ _ _ _ _ _ _ _ _)⟩
set_option maxRecDepth 100000 in
set_option maxHeartbeats 10000000 in
theorem create_view (P g n : Nat) (s : PS) (w : World) (h : PR w P g s) (h0 : 0 ≤ s.deep) (h64 : s.deep ≤ 64) (hn : s.l.length ≤ n) (hb : s.l.length ≤ 1000) (hi : PM.is [118, 105, 101, 119] s = true) :
    Calls Tryd.prog 31 #[.pointer (some ⟨P, 0, none⟩)] w fun e w' => StR w.heap.size w' e (PM.create n s).1 ∧ PR w' P g (PM.create n s).2 ∧ Fr [some P] w w' := by
  have hPl := h.lt
  have hgP := h.ne
  have HPL := Lib.hid hPl
  have HD : Hid (Bd w P g w s) := Lib.hid (Bd.start h)
  have HX := Lib.hid hi
  clear hi
  have HN := Lib.hid (And.intro h0 (And.intro h64 (And.intro hn hb)))
  have HG0 := Lib.hid (PM.Le.refl s)
  clear h h0 h64 hn hb
  go_enter Tryd.func31, Tryd.ntmps31
  have HI := Lib.hid (is_ne (b := [116, 97, 98, 108, 101]) HX.out (by decide))
  go_wp2_with fail
  refine (skips_no P g s [116, 97, 98, 108, 101] _ (HD.out.alloc _).pr HI.out).mono ?_
  rintro e w1 ⟨rfl, h1, hf1⟩
  have HI1 := Lib.hid HI.out
  have HD1 : Hid (Bd w P g w1 s) := Lib.hid ((HD.out.alloc _).call h1 hf1)
  have HR1 : Hid (Ow w w1 w.heap.size 30 [.int .i64 0, .string ⟨#[]⟩, .string ⟨#[]⟩, .slice none 0 0, .slice none 0 0, .slice none 0 0, .slice none 0 0, .string ⟨#[]⟩, .slice none 0 0, .slice none 0 0, .slice none 0 0, .bool false, .slice none 0 0]) := Lib.hid ((Ow.new (by omega) 30 [.int .i64 0, .string ⟨#[]⟩, .string ⟨#[]⟩, .slice none 0 0, .slice none 0 0, .slice none 0 0, .slice none 0 0, .string ⟨#[]⟩, .slice none 0 0, .slice none 0 0, .slice none 0 0, .bool false, .slice none 0 0]).call HPL.out hf1)
  have hs1 := hf1.size
  simp only [World.size_alloc] at hs1
  have hlR1 := HR1.out.lt
  have hp1 := HD1.out.pr.lt
  clear h1 hf1
  have HI := Lib.hid (is_ne (b := [105, 110, 100, 101, 120]) HX.out (by decide))
  go_wp2_with fail
  refine (skips_no P g s [105, 110, 100, 101, 120] _ HD1.out.pr HI.out).mono ?_
  rintro e w2 ⟨rfl, h2, hf2⟩
  have HI2 := Lib.hid HI.out
  have HD2 : Hid (Bd w P g w2 s) := Lib.hid (HD1.out.call h2 hf2)
  have HR2 : Hid (Ow w w2 w.heap.size 30 [.int .i64 0, .string ⟨#[]⟩, .string ⟨#[]⟩, .slice none 0 0, .slice none 0 0, .slice none 0 0, .slice none 0 0, .string ⟨#[]⟩, .slice none 0 0, .slice none 0 0, .slice none 0 0, .bool false, .slice none 0 0]) := Lib.hid (HR1.out.call HPL.out hf2)
  have hs2 := hf2.size
  have hlR2 := HR2.out.lt
  have hp2 := HD2.out.pr.lt
  clear h2 hf2
  have HI := HX
  go_wp2_with fail
  refine (skips_yes P g s [118, 105, 101, 119] _ HD2.out.pr HI.out).mono ?_
  rintro e w3 ⟨rfl, h3, hf3⟩
  have hi3 := HI.out
  obtain ⟨s1, hq3⟩ : ∃ x, PM.skip s = x := ⟨_, rfl⟩
  rw [hq3] at h3
  have HQ3 := Lib.hid hq3
  have HI3 := Lib.hid hi3
  clear hq3 hi3
  have HD3 : Hid (Bd w P g w3 s1) := Lib.hid (HD2.out.call h3 hf3)
  have HR3 : Hid (Ow w w3 w.heap.size 30 [.int .i64 0, .string ⟨#[]⟩, .string ⟨#[]⟩, .slice none 0 0, .slice none 0 0, .slice none 0 0, .slice none 0 0, .string ⟨#[]⟩, .slice none 0 0, .slice none 0 0, .slice none 0 0, .bool false, .slice none 0 0]) := Lib.hid (HR2.out.call HPL.out hf3)
  have hs3 := hf3.size
  have hlR3 := HR3.out.lt
  have hp3 := HD3.out.pr.lt
  clear h3 hf3
  have HG3 : Hid (PM.Le s1 s) := Lib.hid (HG0.out.calm PM.calm_skip HQ3.out)
  obtain ⟨sx, s2, hqd⟩ : ∃ a b, PM.door n 3 [[115, 101, 108, 101, 99, 116]] s1 = (a, b) := ⟨_, _, rfl⟩
  have HQD := Lib.hid hqd
  clear hqd
  go_wp2_with fail
  refine (door_any P g n s1 _ (HD3.out.pr.alloc _) (by have := HG3.out.1; have := HN.out; omega) (by have := HG3.out.1; have := HN.out; omega) (by have := HG3.out.2; have := HN.out; omega) (by have := HG3.out.2; have := HN.out; omega) 3 [[115, 101, 108, 101, 99, 116]] w3.heap.size (strsA_new (l := [[115, 101, 108, 101, 99, 116]]) rfl) (by omega) (by decide) (fun x hx s h => data_some (by revert hx; simp only [List.mem_cons, List.not_mem_nil, or_false]; intro hx; rcases hx with rfl <;> simp) h) HQD.out).mono ?_
  rintro e w4 ⟨hx, h4, hf4⟩
  obtain ⟨kind, table, name, join, a3, a4, a5, a6, a8, a9, a10, a12, l3, l4, l5, l6, l8, l9, l10, l12, c3, c4, c5, c6, c8, c9, c10, c12, desc, rfl, hrep⟩ := st_cells hx
  have HREP := Lib.hid hrep
  clear hx hrep
  have HD4 : Hid (Bd w P g w4 s2) := Lib.hid ((HD3.out.alloc _).call h4 hf4)
  have HR4 : Hid (Ow w w4 w.heap.size 30 [.int .i64 0, .string ⟨#[]⟩, .string ⟨#[]⟩, .slice none 0 0, .slice none 0 0, .slice none 0 0, .slice none 0 0, .string ⟨#[]⟩, .slice none 0 0, .slice none 0 0, .slice none 0 0, .bool false, .slice none 0 0]) := Lib.hid ((HR3.out.alloc _).call HPL.out hf4)
  have hs4 := hf4.size
  simp only [World.size_alloc] at hs4
  have hlR4 := HR4.out.lt
  have hp4 := HD4.out.pr.lt
  clear h4 hf4
  have HM : Hid (PM.create n s = (sx, s2)) := Lib.hid (by simp only [PM.create, HI1.out, HI2.out, HI3.out, HQ3.out, HQD.out, if_true, if_false, Bool.false_eq_true, eq_self])
  obtain ⟨Rc0, Rc1, Rc2, Rc3, Rc4, Rc5, Rc6, Rc7, Rc8, Rc9, Rc10, Rc11, Rc12, Rf0, Rf1, Rf2, Rf3, Rf4, Rf5, Rf6, Rf7, Rf8, Rf9, Rf10, Rf11, Rf12⟩ := c13_of HR4.out.blk
  go_wp2_with fail
  refine bodyPost_ret (ret_cell13 rfl _ w.heap.size rfl _ _ _ _ _ _ _ _ _ _ _ _ _ _ (blkPut13 HR4.out.blk _ _ _ _ _ _ _ _ _ _ _ _ _)) rfl ?_
  rw [HM.out]
  exact st_end HD4.out (frPut13 (Fr.refl [some w.heap.size] _) (.inl (by simp)) _ _ _ _ _ _ _ _ _ _ _ _ _) (Nat.le_refl _) (SR.mono (fun b hb => by first | omega | (simp at hb; omega)) HREP.out)
set_option maxRecDepth 100000 in
set_option maxHeartbeats 10000000 in
theorem create_closure (P g n : Nat) (s : PS) (w : World) (h : PR w P g s) (h0 : 0 ≤ s.deep) (h64 : s.deep ≤ 64) (hn : s.l.length ≤ n) (hb : s.l.length ≤ 1000) (hi : PM.is [99, 108, 111, 115, 117, 114, 101] s = true) :
    Calls Tryd.prog 31 #[.pointer (some ⟨P, 0, none⟩)] w fun e w' => StR w.heap.size w' e (PM.create n s).1 ∧ PR w' P g (PM.create n s).2 ∧ Fr [some P] w w' := by
  have hPl := h.lt
  have hgP := h.ne
  have HPL := Lib.hid hPl
  have HD : Hid (Bd w P g w s) := Lib.hid (Bd.start h)
  have HX := Lib.hid hi
  clear hi
  have HN := Lib.hid (And.intro h0 (And.intro h64 (And.intro hn hb)))
  have HG0 := Lib.hid (PM.Le.refl s)
  clear h h0 h64 hn hb
  go_enter Tryd.func31, Tryd.ntmps31
  have HI := Lib.hid (is_ne (b := [116, 97, 98, 108, 101]) HX.out (by decide))
  go_wp2_with fail
  refine (skips_no P g s [116, 97, 98, 108, 101] _ (HD.out.alloc _).pr HI.out).mono ?_
  rintro e w1 ⟨rfl, h1, hf1⟩
  have HI1 := Lib.hid HI.out
  have HD1 : Hid (Bd w P g w1 s) := Lib.hid ((HD.out.alloc _).call h1 hf1)
  have HR1 : Hid (Ow w w1 w.heap.size 30 [.int .i64 0, .string ⟨#[]⟩, .string ⟨#[]⟩, .slice none 0 0, .slice none 0 0, .slice none 0 0, .slice none 0 0, .string ⟨#[]⟩, .slice none 0 0, .slice none 0 0, .slice none 0 0, .bool false, .slice none 0 0]) := Lib.hid ((Ow.new (by omega) 30 [.int .i64 0, .string ⟨#[]⟩, .string ⟨#[]⟩, .slice none 0 0, .slice none 0 0, .slice none 0 0, .slice none 0 0, .string ⟨#[]⟩, .slice none 0 0, .slice none 0 0, .slice none 0 0, .bool false, .slice none 0 0]).call HPL.out hf1)
  have hs1 := hf1.size
  simp only [World.size_alloc] at hs1
  have hlR1 := HR1.out.lt
  have hp1 := HD1.out.pr.lt
  clear h1 hf1
  have HI := Lib.hid (is_ne (b := [105, 110, 100, 101, 120]) HX.out (by decide))
  go_wp2_with fail
  refine (skips_no P g s [105, 110, 100, 101, 120] _ HD1.out.pr HI.out).mono ?_
  rintro e w2 ⟨rfl, h2, hf2⟩
  have HI2 := Lib.hid HI.out
  have HD2 : Hid (Bd w P g w2 s) := Lib.hid (HD1.out.call h2 hf2)
  have HR2 : Hid (Ow w w2 w.heap.size 30 [.int .i64 0, .string ⟨#[]⟩, .string ⟨#[]⟩, .slice none 0 0, .slice none 0 0, .slice none 0 0, .slice none 0 0, .string ⟨#[]⟩, .slice none 0 0, .slice none 0 0, .slice none 0 0, .bool false, .slice none 0 0]) := Lib.hid (HR1.out.call HPL.out hf2)
  have hs2 := hf2.size
  have hlR2 := HR2.out.lt
  have hp2 := HD2.out.pr.lt
  clear h2 hf2
  have HI := Lib.hid (is_ne (b := [118, 105, 101, 119]) HX.out (by decide))
  go_wp2_with fail
  refine (skips_no P g s [118, 105, 101, 119] _ HD2.out.pr HI.out).mono ?_
  rintro e w3 ⟨rfl, h3, hf3⟩
  have HI3 := Lib.hid HI.out
  have HD3 : Hid (Bd w P g w3 s) := Lib.hid (HD2.out.call h3 hf3)
  have HR3 : Hid (Ow w w3 w.heap.size 30 [.int .i64 0, .string ⟨#[]⟩, .string ⟨#[]⟩, .slice none 0 0, .slice none 0 0, .slice none 0 0, .slice none 0 0, .string ⟨#[]⟩, .slice none 0 0, .slice none 0 0, .slice none 0 0, .bool false, .slice none 0 0]) := Lib.hid (HR2.out.call HPL.out hf3)
  have hs3 := hf3.size
  have hlR3 := HR3.out.lt
  have hp3 := HD3.out.pr.lt
  clear h3 hf3
  have HI := HX
  go_wp2_with fail
  refine (skips_yes P g s [99, 108, 111, 115, 117, 114, 101] _ HD3.out.pr HI.out).mono ?_
  rintro e w4 ⟨rfl, h4, hf4⟩
  have hi4 := HI.out
  obtain ⟨s1, hq4⟩ : ∃ x, PM.skip s = x := ⟨_, rfl⟩
  rw [hq4] at h4
  have HQ4 := Lib.hid hq4
  have HI4 := Lib.hid hi4
  clear hq4 hi4
  have HD4 : Hid (Bd w P g w4 s1) := Lib.hid (HD3.out.call h4 hf4)
  have HR4 : Hid (Ow w w4 w.heap.size 30 [.int .i64 0, .string ⟨#[]⟩, .string ⟨#[]⟩, .slice none 0 0, .slice none 0 0, .slice none 0 0, .slice none 0 0, .string ⟨#[]⟩, .slice none 0 0, .slice none 0 0, .slice none 0 0, .bool false, .slice none 0 0]) := Lib.hid (HR3.out.call HPL.out hf4)
  have hs4 := hf4.size
  have hlR4 := HR4.out.lt
  have hp4 := HD4.out.pr.lt
  clear h4 hf4
  have HG4 : Hid (PM.Le s1 s) := Lib.hid (HG0.out.calm PM.calm_skip HQ4.out)
  obtain ⟨sx, s2, hqd⟩ : ∃ a b, PM.door n 4 [[105, 110, 115, 101, 114, 116], [117, 112, 100, 97, 116, 101], [100, 101, 108, 101, 116, 101]] s1 = (a, b) := ⟨_, _, rfl⟩
  have HQD := Lib.hid hqd
  clear hqd
  go_wp2_with fail
  refine (door_any P g n s1 _ (HD4.out.pr.alloc _) (by have := HG4.out.1; have := HN.out; omega) (by have := HG4.out.1; have := HN.out; omega) (by have := HG4.out.2; have := HN.out; omega) (by have := HG4.out.2; have := HN.out; omega) 4 [[105, 110, 115, 101, 114, 116], [117, 112, 100, 97, 116, 101], [100, 101, 108, 101, 116, 101]] w4.heap.size (strsA_new (l := [[105, 110, 115, 101, 114, 116], [117, 112, 100, 97, 116, 101], [100, 101, 108, 101, 116, 101]]) rfl) (by omega) (by decide) (fun x hx s h => data_some (by revert hx; simp only [List.mem_cons, List.not_mem_nil, or_false]; intro hx; rcases hx with rfl | rfl | rfl <;> simp) h) HQD.out).mono ?_
  rintro e w5 ⟨hx, h5, hf5⟩
  obtain ⟨kind, table, name, join, a3, a4, a5, a6, a8, a9, a10, a12, l3, l4, l5, l6, l8, l9, l10, l12, c3, c4, c5, c6, c8, c9, c10, c12, desc, rfl, hrep⟩ := st_cells hx
  have HREP := Lib.hid hrep
  clear hx hrep
  have HD5 : Hid (Bd w P g w5 s2) := Lib.hid ((HD4.out.alloc _).call h5 hf5)
  have HR5 : Hid (Ow w w5 w.heap.size 30 [.int .i64 0, .string ⟨#[]⟩, .string ⟨#[]⟩, .slice none 0 0, .slice none 0 0, .slice none 0 0, .slice none 0 0, .string ⟨#[]⟩, .slice none 0 0, .slice none 0 0, .slice none 0 0, .bool false, .slice none 0 0]) := Lib.hid ((HR4.out.alloc _).call HPL.out hf5)
  have hs5 := hf5.size
  simp only [World.size_alloc] at hs5
  have hlR5 := HR5.out.lt
  have hp5 := HD5.out.pr.lt
  clear h5 hf5
  have HM : Hid (PM.create n s = (sx, s2)) := Lib.hid (by simp only [PM.create, HI1.out, HI2.out, HI3.out, HI4.out, HQ4.out, HQD.out, if_true, if_false, Bool.false_eq_true, eq_self])
  obtain ⟨Rc0, Rc1, Rc2, Rc3, Rc4, Rc5, Rc6, Rc7, Rc8, Rc9, Rc10, Rc11, Rc12, Rf0, Rf1, Rf2, Rf3, Rf4, Rf5, Rf6, Rf7, Rf8, Rf9, Rf10, Rf11, Rf12⟩ := c13_of HR5.out.blk
  go_wp2_with fail
  refine bodyPost_ret (ret_cell13 rfl _ w.heap.size rfl _ _ _ _ _ _ _ _ _ _ _ _ _ _ (blkPut13 HR5.out.blk _ _ _ _ _ _ _ _ _ _ _ _ _)) rfl ?_
  rw [HM.out]
  exact st_end HD5.out (frPut13 (Fr.refl [some w.heap.size] _) (.inl (by simp)) _ _ _ _ _ _ _ _ _ _ _ _ _) (Nat.le_refl _) (SR.mono (fun b hb => by first | omega | (simp at hb; omega)) HREP.out)
set_option maxRecDepth 100000 in
set_option maxHeartbeats 10000000 in
theorem create_none (P g n : Nat) (s : PS) (w : World) (h : PR w P g s) (h0 : 0 ≤ s.deep) (h64 : s.deep ≤ 64) (hn : s.l.length ≤ n) (hb : s.l.length ≤ 1000) (k1 : PM.is [116, 97, 98, 108, 101] s = false) (k2 : PM.is [105, 110, 100, 101, 120] s = false) (k3 : PM.is [118, 105, 101, 119] s = false) (k4 : PM.is [99, 108, 111, 115, 117, 114, 101] s = false) :
    Calls Tryd.prog 31 #[.pointer (some ⟨P, 0, none⟩)] w fun e w' => StR w.heap.size w' e (PM.create n s).1 ∧ PR w' P g (PM.create n s).2 ∧ Fr [some P] w w' := by
  have hPl := h.lt
  have hgP := h.ne
  have HPL := Lib.hid hPl
  have HD : Hid (Bd w P g w s) := Lib.hid (Bd.start h)
  have HN := Lib.hid (And.intro h0 (And.intro h64 (And.intro hn hb)))
  have HG0 := Lib.hid (PM.Le.refl s)
  clear h h0 h64 hn hb
  have HK1 := Lib.hid k1
  have HK2 := Lib.hid k2
  have HK3 := Lib.hid k3
  have HK4 := Lib.hid k4
  clear k1 k2 k3 k4
  go_enter Tryd.func31, Tryd.ntmps31
  have HI := HK1
  go_wp2_with fail
  refine (skips_no P g s [116, 97, 98, 108, 101] _ (HD.out.alloc _).pr HI.out).mono ?_
  rintro e w1 ⟨rfl, h1, hf1⟩
  have HI1 := Lib.hid HI.out
  have HD1 : Hid (Bd w P g w1 s) := Lib.hid ((HD.out.alloc _).call h1 hf1)
  have HR1 : Hid (Ow w w1 w.heap.size 30 [.int .i64 0, .string ⟨#[]⟩, .string ⟨#[]⟩, .slice none 0 0, .slice none 0 0, .slice none 0 0, .slice none 0 0, .string ⟨#[]⟩, .slice none 0 0, .slice none 0 0, .slice none 0 0, .bool false, .slice none 0 0]) := Lib.hid ((Ow.new (by omega) 30 [.int .i64 0, .string ⟨#[]⟩, .string ⟨#[]⟩, .slice none 0 0, .slice none 0 0, .slice none 0 0, .slice none 0 0, .string ⟨#[]⟩, .slice none 0 0, .slice none 0 0, .slice none 0 0, .bool false, .slice none 0 0]).call HPL.out hf1)
  have hs1 := hf1.size
  simp only [World.size_alloc] at hs1
  have hlR1 := HR1.out.lt
  have hp1 := HD1.out.pr.lt
  clear h1 hf1
  have HI := HK2
  go_wp2_with fail
  refine (skips_no P g s [105, 110, 100, 101, 120] _ HD1.out.pr HI.out).mono ?_
  rintro e w2 ⟨rfl, h2, hf2⟩
  have HI2 := Lib.hid HI.out
  have HD2 : Hid (Bd w P g w2 s) := Lib.hid (HD1.out.call h2 hf2)
  have HR2 : Hid (Ow w w2 w.heap.size 30 [.int .i64 0, .string ⟨#[]⟩, .string ⟨#[]⟩, .slice none 0 0, .slice none 0 0, .slice none 0 0, .slice none 0 0, .string ⟨#[]⟩, .slice none 0 0, .slice none 0 0, .slice none 0 0, .bool false, .slice none 0 0]) := Lib.hid (HR1.out.call HPL.out hf2)
  have hs2 := hf2.size
  have hlR2 := HR2.out.lt
  have hp2 := HD2.out.pr.lt
  clear h2 hf2
  have HI := HK3
  go_wp2_with fail
  refine (skips_no P g s [118, 105, 101, 119] _ HD2.out.pr HI.out).mono ?_
  rintro e w3 ⟨rfl, h3, hf3⟩
  have HI3 := Lib.hid HI.out
  have HD3 : Hid (Bd w P g w3 s) := Lib.hid (HD2.out.call h3 hf3)
  have HR3 : Hid (Ow w w3 w.heap.size 30 [.int .i64 0, .string ⟨#[]⟩, .string ⟨#[]⟩, .slice none 0 0, .slice none 0 0, .slice none 0 0, .slice none 0 0, .string ⟨#[]⟩, .slice none 0 0, .slice none 0 0, .slice none 0 0, .bool false, .slice none 0 0]) := Lib.hid (HR2.out.call HPL.out hf3)
  have hs3 := hf3.size
  have hlR3 := HR3.out.lt
  have hp3 := HD3.out.pr.lt
  clear h3 hf3
  have HI := HK4
  go_wp2_with fail
  refine (skips_no P g s [99, 108, 111, 115, 117, 114, 101] _ HD3.out.pr HI.out).mono ?_
  rintro e w4 ⟨rfl, h4, hf4⟩
  have HI4 := Lib.hid HI.out
  have HD4 : Hid (Bd w P g w4 s) := Lib.hid (HD3.out.call h4 hf4)
  have HR4 : Hid (Ow w w4 w.heap.size 30 [.int .i64 0, .string ⟨#[]⟩, .string ⟨#[]⟩, .slice none 0 0, .slice none 0 0, .slice none 0 0, .slice none 0 0, .string ⟨#[]⟩, .slice none 0 0, .slice none 0 0, .slice none 0 0, .bool false, .slice none 0 0]) := Lib.hid (HR3.out.call HPL.out hf4)
  have hs4 := hf4.size
  have hlR4 := HR4.out.lt
  have hp4 := HD4.out.pr.lt
  clear h4 hf4
  go_wp2_with fail
  refine (fails_any P g s 5 _ HD4.out.pr).mono ?_
  rintro e w5 ⟨rfl, h5, hf5⟩
  obtain ⟨s1, hq5⟩ : ∃ x, PM.fails 5 s = x := ⟨_, rfl⟩
  rw [hq5] at h5
  have HQ5 := Lib.hid hq5
  clear hq5
  have HD5 : Hid (Bd w P g w5 s1) := Lib.hid (HD4.out.call h5 hf5)
  have HR5 : Hid (Ow w w5 w.heap.size 30 [.int .i64 0, .string ⟨#[]⟩, .string ⟨#[]⟩, .slice none 0 0, .slice none 0 0, .slice none 0 0, .slice none 0 0, .string ⟨#[]⟩, .slice none 0 0, .slice none 0 0, .slice none 0 0, .bool false, .slice none 0 0]) := Lib.hid (HR4.out.call HPL.out hf5)
  have hs5 := hf5.size
  have hlR5 := HR5.out.lt
  have hp5 := HD5.out.pr.lt
  clear h5 hf5
  have HG5 : Hid (PM.Le s1 s) := Lib.hid (HG0.out.calm (PM.calm_fails 5) HQ5.out)
  have HM : Hid (PM.create n s = (PM.St.zero, s1)) := Lib.hid (by simp only [PM.create, HI1.out, HI2.out, HI3.out, HI4.out, HQ5.out, if_false, Bool.false_eq_true, eq_self])
  obtain ⟨Rc0, Rc1, Rc2, Rc3, Rc4, Rc5, Rc6, Rc7, Rc8, Rc9, Rc10, Rc11, Rc12, Rf0, Rf1, Rf2, Rf3, Rf4, Rf5, Rf6, Rf7, Rf8, Rf9, Rf10, Rf11, Rf12⟩ := c13_of HR5.out.blk
  go_wp2_with fail
  refine bodyPost_ret (ret_cell13 rfl _ w.heap.size rfl _ _ _ _ _ _ _ _ _ _ _ _ _ _ (blkPut13 HR5.out.blk _ _ _ _ _ _ _ _ _ _ _ _ _)) rfl ?_
  rw [HM.out]
  exact st_end HD5.out (frPut13 (Fr.refl [some w.heap.size] _) (.inl (by simp)) _ _ _ _ _ _ _ _ _ _ _ _ _) (Nat.le_refl _) (zero_st _ _)
theorem create_any (P g n : Nat) (s : PS) (w : World) (h : PR w P g s) (h0 : 0 ≤ s.deep) (h64 : s.deep ≤ 64) (hn : s.l.length ≤ n) (hb : s.l.length ≤ 1000) {st : PM.St} {s' : PS} (hq : PM.create n s = (st, s')) :
    Calls Tryd.prog 31 #[.pointer (some ⟨P, 0, none⟩)] w fun e w' => StR w.heap.size w' e st ∧ PR w' P g s' ∧ Fr [some P] w w' := by
  have e1 : st = (PM.create n s).1 := by rw [hq]
  have e2 : s' = (PM.create n s).2 := by rw [hq]
  subst e1 e2
  cases h1 : PM.is [116, 97, 98, 108, 101] s
  · cases h2 : PM.is [105, 110, 100, 101, 120] s
    · cases h3 : PM.is [118, 105, 101, 119] s
      · cases h4 : PM.is [99, 108, 111, 115, 117, 114, 101] s
        · exact create_none P g n s w h h0 h64 hn hb h1 h2 h3 h4
        · exact create_closure P g n s w h h0 h64 hn hb h4
      · exact create_view P g n s w h h0 h64 hn hb h3
    · exact create_index P g n s w h h0 h64 hn hb h2
  · exact create_table P g n s w h h0 h64 hn hb h1
end Px
end Go.Proofs.YtpmgecnkcllneaaDoor
