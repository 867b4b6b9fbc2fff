/- parse: selects. -/
import Derived.Test.YtmdnhinpaflamaaGreatDoorPaC
namespace Go.Proofs.YtmdnhinpaflamaaGreatDoor
open Go.RowKit
namespace Px
open PM (PS B Ex)

set_option maxRecDepth 100000 in
set_option maxHeartbeats 10000000 in
theorem selects_star (P g n : Nat) (s : PS) (w : World) (h : PR w P g s) (h0 : 0 ≤ s.deep) (h64 : s.deep ≤ 64) (hn : s.l.length ≤ n) (hb : s.l.length ≤ 1000) (hi : PM.is [42] s = true) :
    Calls Tryz.prog 56 #[.pointer (some ⟨P, 0, none⟩)] w fun e w' => StR w.heap.size w' e (PM.selects n s).1 ∧ PR w' P g (PM.selects n s).2 ∧ Fr [some P] w w' := by
  have hPl := h.lt
  have hgP := h.ne
  have HPL := Lib.hid hPl
  have HD : Hid (Bd w P g w s) := Lib.hid (Bd.start h)
  have HI := Lib.hid hi
  have HN := Lib.hid (And.intro h0 (And.intro h64 (And.intro hn hb)))
  have HG0 := Lib.hid (PM.Le.refl s)
  clear h h0 h64 hn hb hi
  go_enter Tryz.func56, Tryz.ntmps56
  go_wp2_with fail
  refine (skips_yes P g s [42] _ ((HD.out.alloc _).alloc _).pr HI.out).mono ?_
  rintro e w1 ⟨rfl, h1, hf1⟩
  have hi1 := HI.out
  obtain ⟨s1, hq1⟩ : ∃ x, PM.skip s = x := ⟨_, rfl⟩
  rw [hq1] at h1
  have HQ1 := Lib.hid hq1
  have HI1 := Lib.hid hi1
  clear hq1 hi1
  have HD1 : Hid (Bd w P g w1 s1) := Lib.hid (((HD.out.alloc _).alloc _).call h1 hf1)
  have HR1 : Hid (Ow w w1 w.heap.size 29 [.int .i64 0, .string ⟨#[]⟩, .string ⟨#[]⟩, .slice none 0 0, .slice none 0 0, .slice none 0 0, .slice none 0 0, .string ⟨#[]⟩, .slice none 0 0, .slice none 0 0, .slice none 0 0, .bool false, .slice none 0 0]) := Lib.hid (((Ow.new (by omega) 29 [.int .i64 0, .string ⟨#[]⟩, .string ⟨#[]⟩, .slice none 0 0, .slice none 0 0, .slice none 0 0, .slice none 0 0, .string ⟨#[]⟩, .slice none 0 0, .slice none 0 0, .slice none 0 0, .bool false, .slice none 0 0]).alloc _).call HPL.out hf1)
  have HSt1 : Hid (Ow w w1 (w.heap.size + 1) 29 [.int .i64 6, .string ⟨#[]⟩, .string ⟨#[]⟩, .slice none 0 0, .slice none 0 0, .slice none 0 0, .slice none 0 0, .string ⟨#[]⟩, .slice none 0 0, .slice none 0 0, .slice none 0 0, .bool false, .slice none 0 0]) := Lib.hid ((Ow.new1 (by omega) _ 29 [.int .i64 6, .string ⟨#[]⟩, .string ⟨#[]⟩, .slice none 0 0, .slice none 0 0, .slice none 0 0, .slice none 0 0, .string ⟨#[]⟩, .slice none 0 0, .slice none 0 0, .slice none 0 0, .bool false, .slice none 0 0]).call HPL.out hf1)
  have hs1 := hf1.size
  simp only [World.size_alloc] at hs1
  have hlR1 := HR1.out.lt
  have hlSt1 := HSt1.out.lt
  have hp1 := HD1.out.pr.lt
  clear h1 hf1
  have HG1 : Hid (PM.Le s1 s) := Lib.hid (HG0.out.calm PM.calm_skip HQ1.out)
  go_wp2_with fail
  refine (needs_new (n := w1.heap.size) HD1.out.pr [[102, 114, 111, 109]] (by decide) (by simp)).mono ?_
  rintro e w2 ⟨rfl, h2, hf2⟩
  obtain ⟨s2, hq2⟩ : ∃ x, PM.needs [[102, 114, 111, 109]] s1 = x := ⟨_, rfl⟩
  rw [hq2] at h2
  have HQ2 := Lib.hid hq2
  clear hq2
  have HD2 : Hid (Bd w P g w2 s2) := Lib.hid ((HD1.out.alloc _).call h2 hf2)
  have HR2 : Hid (Ow w w2 w.heap.size 29 [.int .i64 0, .string ⟨#[]⟩, .string ⟨#[]⟩, .slice none 0 0, .slice none 0 0, .slice none 0 0, .slice none 0 0, .string ⟨#[]⟩, .slice none 0 0, .slice none 0 0, .slice none 0 0, .bool false, .slice none 0 0]) := Lib.hid ((HR1.out.alloc _).call HPL.out hf2)
  have HSt2 : Hid (Ow w w2 (w.heap.size + 1) 29 [.int .i64 6, .string ⟨#[]⟩, .string ⟨#[]⟩, .slice none 0 0, .slice none 0 0, .slice none 0 0, .slice none 0 0, .string ⟨#[]⟩, .slice none 0 0, .slice none 0 0, .slice none 0 0, .bool false, .slice none 0 0]) := Lib.hid ((HSt1.out.alloc _).call HPL.out hf2)
  have hs2 := hf2.size
  simp only [World.size_alloc] at hs2
  have hlR2 := HR2.out.lt
  have hlSt2 := HSt2.out.lt
  have hp2 := HD2.out.pr.lt
  clear h2 hf2
  have HG2 : Hid (PM.Le s2 s) := Lib.hid (HG1.out.calm (PM.calm_needs [[102, 114, 111, 109]]) HQ2.out)
  go_wp2_with fail
  refine (name_any P g s2 _ HD2.out.pr).mono ?_
  rintro e w3 ⟨rfl, h3, hf3⟩
  obtain ⟨tn, s3, hq3⟩ : ∃ a b, PM.name s2 = (a, b) := ⟨_, _, rfl⟩
  rw [hq3] at h3 ⊢
  have HQ3 := Lib.hid hq3
  clear hq3
  have HD3 : Hid (Bd w P g w3 s3) := Lib.hid (HD2.out.call h3 hf3)
  have HR3 : Hid (Ow w w3 w.heap.size 29 [.int .i64 0, .string ⟨#[]⟩, .string ⟨#[]⟩, .slice none 0 0, .slice none 0 0, .slice none 0 0, .slice none 0 0, .string ⟨#[]⟩, .slice none 0 0, .slice none 0 0, .slice none 0 0, .bool false, .slice none 0 0]) := Lib.hid (HR2.out.call HPL.out hf3)
  have HSt3 : Hid (Ow w w3 (w.heap.size + 1) 29 [.int .i64 6, .string ⟨#[]⟩, .string ⟨#[]⟩, .slice none 0 0, .slice none 0 0, .slice none 0 0, .slice none 0 0, .string ⟨#[]⟩, .slice none 0 0, .slice none 0 0, .slice none 0 0, .bool false, .slice none 0 0]) := Lib.hid (HSt2.out.call HPL.out hf3)
  have hs3 := hf3.size
  have hlR3 := HR3.out.lt
  have hlSt3 := HSt3.out.lt
  have hp3 := HD3.out.pr.lt
  clear h3 hf3
  have HG3 : Hid (PM.Le s3 s) := Lib.hid (HG2.out.good PM.good_name HQ3.out)
  obtain ⟨Stc0, Stc1, Stc2, Stc3, Stc4, Stc5, Stc6, Stc7, Stc8, Stc9, Stc10, Stc11, Stc12, Stf0, Stf1, Stf2, Stf3, Stf4, Stf5, Stf6, Stf7, Stf8, Stf9, Stf10, Stf11, Stf12⟩ := c13_of HSt3.out.blk
  go_wp2_with fail
  clear Stc0 Stc1 Stc2 Stc3 Stc4 Stc5 Stc6 Stc7 Stc8 Stc9 Stc10 Stc11 Stc12 Stf0 Stf1 Stf2 Stf3 Stf4 Stf5 Stf6 Stf7 Stf8 Stf9 Stf10 Stf11 Stf12
  cases hi : PM.is [106, 111, 105, 110] s3
  · have HI := Lib.hid hi
    clear hi
    go_wp2_with fail
    refine (skips_no P g s3 [106, 111, 105, 110] _ (HD3.out.set (by omega)).pr HI.out).mono ?_
    rintro e w4 ⟨rfl, h4, hf4⟩
    have HI4 := Lib.hid HI.out
    have HD4 : Hid (Bd w P g w4 s3) := Lib.hid ((HD3.out.set (by omega)).call h4 hf4)
    have HR4 : Hid (Ow w w4 w.heap.size 29 [.int .i64 0, .string ⟨#[]⟩, .string ⟨#[]⟩, .slice none 0 0, .slice none 0 0, .slice none 0 0, .slice none 0 0, .string ⟨#[]⟩, .slice none 0 0, .slice none 0 0, .slice none 0 0, .bool false, .slice none 0 0]) := Lib.hid ((HR3.out.other (by omega)).call HPL.out hf4)
    have HSt4 : Hid (Ow w w4 (w.heap.size + 1) 29 [.int .i64 6, (.string ⟨tn.toArray⟩), .string ⟨#[]⟩, .slice none 0 0, .slice none 0 0, .slice none 0 0, .slice none 0 0, .string ⟨#[]⟩, .slice none 0 0, .slice none 0 0, .slice none 0 0, .bool false, .slice none 0 0]) := Lib.hid ((HSt3.out.set 1 (.string ⟨tn.toArray⟩)).call HPL.out hf4)
    have hs4 := hf4.size
    simp only [World.size_setCell] at hs4
    have hlR4 := HR4.out.lt
    have hlSt4 := HSt4.out.lt
    have hp4 := HD4.out.pr.lt
    clear h4 hf4
    obtain ⟨wh, s4, hq5⟩ : ∃ a b, PM.wheres n s3 = (a, b) := ⟨_, _, rfl⟩
    have HQ5 := Lib.hid hq5
    clear hq5
    go_wp2_with fail
    refine (where' n HD4.out.pr (by have := HG3.out.1; have := HN.out; omega) (by have := HG3.out.1; have := HN.out; omega) (by have := HG3.out.2; have := HN.out; omega) HQ5.out).mono ?_
    rintro e w5 ⟨⟨wha, whl, whc, rfl, hv⟩, h5, hf5⟩
    have HD5 : Hid (Bd w P g w5 s4) := Lib.hid (HD4.out.call h5 hf5)
    have HR5 : Hid (Ow w w5 w.heap.size 29 [.int .i64 0, .string ⟨#[]⟩, .string ⟨#[]⟩, .slice none 0 0, .slice none 0 0, .slice none 0 0, .slice none 0 0, .string ⟨#[]⟩, .slice none 0 0, .slice none 0 0, .slice none 0 0, .bool false, .slice none 0 0]) := Lib.hid (HR4.out.call HPL.out hf5)
    have HSt5 : Hid (Ow w w5 (w.heap.size + 1) 29 [.int .i64 6, (.string ⟨tn.toArray⟩), .string ⟨#[]⟩, .slice none 0 0, .slice none 0 0, .slice none 0 0, .slice none 0 0, .string ⟨#[]⟩, .slice none 0 0, .slice none 0 0, .slice none 0 0, .bool false, .slice none 0 0]) := Lib.hid (HSt4.out.call HPL.out hf5)
    have hs5 := hf5.size
    have hlR5 := HR5.out.lt
    have hlSt5 := HSt5.out.lt
    have hp5 := HD5.out.pr.lt
    clear h5 hf5
    have HG5 : Hid (PM.Le s4 s) := Lib.hid (HG3.out.good (PM.good_wheres n) HQ5.out)
    have HH5 := Lib.hid (Rep.Es.mono (A' := fun b => w.heap.size + 1 < b) (fun b hb => by first | omega | (simp at hb; omega)) hv)
    clear hv
    obtain ⟨Stc0, Stc1, Stc2, Stc3, Stc4, Stc5, Stc6, Stc7, Stc8, Stc9, Stc10, Stc11, Stc12, Stf0, Stf1, Stf2, Stf3, Stf4, Stf5, Stf6, Stf7, Stf8, Stf9, Stf10, Stf11, Stf12⟩ := c13_of HSt5.out.blk
    go_wp2_with fail
    clear Stc0 Stc1 Stc2 Stc3 Stc4 Stc5 Stc6 Stc7 Stc8 Stc9 Stc10 Stc11 Stc12 Stf0 Stf1 Stf2 Stf3 Stf4 Stf5 Stf6 Stf7 Stf8 Stf9 Stf10 Stf11 Stf12
    cases hi : PM.is [111, 114, 100, 101, 114] s4
    · have HI := Lib.hid hi
      clear hi
      go_wp2_with fail
      refine (skips_no P g s4 [111, 114, 100, 101, 114] _ (HD5.out.set (by omega)).pr HI.out).mono ?_
      rintro e w6 ⟨rfl, h6, hf6⟩
      have HI6 := Lib.hid HI.out
      have HD6 : Hid (Bd w P g w6 s4) := Lib.hid ((HD5.out.set (by omega)).call h6 hf6)
      have HR6 : Hid (Ow w w6 w.heap.size 29 [.int .i64 0, .string ⟨#[]⟩, .string ⟨#[]⟩, .slice none 0 0, .slice none 0 0, .slice none 0 0, .slice none 0 0, .string ⟨#[]⟩, .slice none 0 0, .slice none 0 0, .slice none 0 0, .bool false, .slice none 0 0]) := Lib.hid ((HR5.out.other (by omega)).call HPL.out hf6)
      have HSt6 : Hid (Ow w w6 (w.heap.size + 1) 29 [.int .i64 6, (.string ⟨tn.toArray⟩), .string ⟨#[]⟩, .slice none 0 0, .slice none 0 0, .slice none 0 0, .slice none 0 0, .string ⟨#[]⟩, .slice none 0 0, (.slice wha whl whc), .slice none 0 0, .bool false, .slice none 0 0]) := Lib.hid ((HSt5.out.set 9 (.slice wha whl whc)).call HPL.out hf6)
      have HH6 := Lib.hid (Rep.Es.keep hf6 (fun b hb => by simp <;> omega) (Rep.Es.keep ((Fr.refl [some (w.heap.size + 1)] w5).setCell (p := ⟨w.heap.size + 1, 9, none⟩) (.inl (by simp)) (.slice wha whl whc)) (fun b hb => by simp <;> omega) HH5.out))
      have hs6 := hf6.size
      simp only [World.size_setCell] at hs6
      have hlR6 := HR6.out.lt
      have hlSt6 := HSt6.out.lt
      have hp6 := HD6.out.pr.lt
      clear h6 hf6
      have HM : Hid (PM.selects n s = (.mk 6 tn [] [] [] [] [] [] [] wh [] false [], s4)) := Lib.hid (by simp only [PM.selects, HI1.out, HQ1.out, HQ2.out, HQ3.out, HI4.out, HQ5.out, HI6.out, if_true, if_false, Bool.false_eq_true, eq_self])
      have hnRSt : ¬ w.heap.size = w.heap.size + 1 := by omega
      have hnStR : ¬ w.heap.size + 1 = w.heap.size := by omega
      obtain ⟨Stc0, Stc1, Stc2, Stc3, Stc4, Stc5, Stc6, Stc7, Stc8, Stc9, Stc10, Stc11, Stc12, Stf0, Stf1, Stf2, Stf3, Stf4, Stf5, Stf6, Stf7, Stf8, Stf9, Stf10, Stf11, Stf12⟩ := c13_of HSt6.out.blk
      obtain ⟨Rc0, Rc1, Rc2, Rc3, Rc4, Rc5, Rc6, Rc7, Rc8, Rc9, Rc10, Rc11, Rc12, Rf0, Rf1, Rf2, Rf3, Rf4, Rf5, Rf6, Rf7, Rf8, Rf9, Rf10, Rf11, Rf12⟩ := c13_of HR6.out.blk
      go_wp2_with fail
      refine bodyPost_ret (ret_cell13 rfl _ w.heap.size rfl _ _ _ _ _ _ _ _ _ _ _ _ _ _ (blkPut13 HR6.out.blk _ _ _ _ _ _ _ _ _ _ _ _ _)) rfl ?_
      rw [HM.out]
      exact ⟨⟨_, rfl, .mk _ _ _ _ _ _ _ _ _ _ _ _ _ _ _ _ _ _ _ _ _ .nil .nil Rep.Es.nil .nil Rep.Es.nil (Rep.Es.mono (A' := fun b => w.heap.size ≤ b) (fun b hb => by omega) (Rep.Es.keep (frPut13 (Fr.refl [some w.heap.size] w6) (.inl (by simp)) _ _ _ _ _ _ _ _ _ _ _ _ _) (fun b hb => by simp; omega) HH6.out)) Rep.Es.nil SS.nil⟩, (HD6.out.pr.keep (frPut13 (Fr.refl [some w.heap.size] _) (.inl (by simp)) _ _ _ _ _ _ _ _ _ _ _ _ _) (by simp; omega) (by simp; omega)), (frPut13 HD6.out.fr (.inr HR6.out.ge) _ _ _ _ _ _ _ _ _ _ _ _ _)⟩
    · have HI := Lib.hid hi
      clear hi
      go_wp2_with fail
      refine (skips_yes P g s4 [111, 114, 100, 101, 114] _ (HD5.out.set (by omega)).pr HI.out).mono ?_
      rintro e w6 ⟨rfl, h6, hf6⟩
      have hi6 := HI.out
      obtain ⟨s5, hq6⟩ : ∃ x, PM.skip s4 = x := ⟨_, rfl⟩
      rw [hq6] at h6
      have HQ6 := Lib.hid hq6
      have HI6 := Lib.hid hi6
      clear hq6 hi6
      have HD6 : Hid (Bd w P g w6 s5) := Lib.hid ((HD5.out.set (by omega)).call h6 hf6)
      have HR6 : Hid (Ow w w6 w.heap.size 29 [.int .i64 0, .string ⟨#[]⟩, .string ⟨#[]⟩, .slice none 0 0, .slice none 0 0, .slice none 0 0, .slice none 0 0, .string ⟨#[]⟩, .slice none 0 0, .slice none 0 0, .slice none 0 0, .bool false, .slice none 0 0]) := Lib.hid ((HR5.out.other (by omega)).call HPL.out hf6)
      have HSt6 : Hid (Ow w w6 (w.heap.size + 1) 29 [.int .i64 6, (.string ⟨tn.toArray⟩), .string ⟨#[]⟩, .slice none 0 0, .slice none 0 0, .slice none 0 0, .slice none 0 0, .string ⟨#[]⟩, .slice none 0 0, (.slice wha whl whc), .slice none 0 0, .bool false, .slice none 0 0]) := Lib.hid ((HSt5.out.set 9 (.slice wha whl whc)).call HPL.out hf6)
      have HH6 := Lib.hid (Rep.Es.keep hf6 (fun b hb => by simp <;> omega) (Rep.Es.keep ((Fr.refl [some (w.heap.size + 1)] w5).setCell (p := ⟨w.heap.size + 1, 9, none⟩) (.inl (by simp)) (.slice wha whl whc)) (fun b hb => by simp <;> omega) HH5.out))
      have hs6 := hf6.size
      simp only [World.size_setCell] at hs6
      have hlR6 := HR6.out.lt
      have hlSt6 := HSt6.out.lt
      have hp6 := HD6.out.pr.lt
      clear h6 hf6
      have HG6 : Hid (PM.Le s5 s) := Lib.hid (HG5.out.calm PM.calm_skip HQ6.out)
      go_wp2_with fail
      refine (needs_new (n := w6.heap.size) HD6.out.pr [[98, 121]] (by decide) (by simp)).mono ?_
      rintro e w7 ⟨rfl, h7, hf7⟩
      obtain ⟨s6, hq7⟩ : ∃ x, PM.needs [[98, 121]] s5 = x := ⟨_, rfl⟩
      rw [hq7] at h7
      have HQ7 := Lib.hid hq7
      clear hq7
      have HD7 : Hid (Bd w P g w7 s6) := Lib.hid ((HD6.out.alloc _).call h7 hf7)
      have HR7 : Hid (Ow w w7 w.heap.size 29 [.int .i64 0, .string ⟨#[]⟩, .string ⟨#[]⟩, .slice none 0 0, .slice none 0 0, .slice none 0 0, .slice none 0 0, .string ⟨#[]⟩, .slice none 0 0, .slice none 0 0, .slice none 0 0, .bool false, .slice none 0 0]) := Lib.hid ((HR6.out.alloc _).call HPL.out hf7)
      have HSt7 : Hid (Ow w w7 (w.heap.size + 1) 29 [.int .i64 6, (.string ⟨tn.toArray⟩), .string ⟨#[]⟩, .slice none 0 0, .slice none 0 0, .slice none 0 0, .slice none 0 0, .string ⟨#[]⟩, .slice none 0 0, (.slice wha whl whc), .slice none 0 0, .bool false, .slice none 0 0]) := Lib.hid ((HSt6.out.alloc _).call HPL.out hf7)
      have HH7 := Lib.hid (Rep.Es.keep hf7 (fun b hb => by simp <;> omega) (Rep.Es.keep ((Fr.refl [] w6).alloc _) (fun b hb => by simp <;> omega) HH6.out))
      have hs7 := hf7.size
      simp only [World.size_alloc] at hs7
      have hlR7 := HR7.out.lt
      have hlSt7 := HSt7.out.lt
      have hp7 := HD7.out.pr.lt
      clear h7 hf7
      have HG7 : Hid (PM.Le s6 s) := Lib.hid (HG6.out.calm (PM.calm_needs [[98, 121]]) HQ7.out)
      obtain ⟨ddx, s7, hq8⟩ : ∃ a b, PM.column s6 = (a, b) := ⟨_, _, rfl⟩
      have HQ8 := Lib.hid hq8
      clear hq8
      go_wp2_with fail
      refine (column' HD7.out.pr HQ8.out).mono ?_
      rintro e w8 ⟨hx, h8, hf8⟩
      obtain ⟨ddo, ddk, ddi, ddz, ddt, ddn, dda, dde, ddc, rfl, hrep⟩ := ex_cells hx
      clear hx
      have HD8 : Hid (Bd w P g w8 s7) := Lib.hid (HD7.out.call h8 hf8)
      have HR8 : Hid (Ow w w8 w.heap.size 29 [.int .i64 0, .string ⟨#[]⟩, .string ⟨#[]⟩, .slice none 0 0, .slice none 0 0, .slice none 0 0, .slice none 0 0, .string ⟨#[]⟩, .slice none 0 0, .slice none 0 0, .slice none 0 0, .bool false, .slice none 0 0]) := Lib.hid (HR7.out.call HPL.out hf8)
      have HSt8 : Hid (Ow w w8 (w.heap.size + 1) 29 [.int .i64 6, (.string ⟨tn.toArray⟩), .string ⟨#[]⟩, .slice none 0 0, .slice none 0 0, .slice none 0 0, .slice none 0 0, .string ⟨#[]⟩, .slice none 0 0, (.slice wha whl whc), .slice none 0 0, .bool false, .slice none 0 0]) := Lib.hid (HSt7.out.call HPL.out hf8)
      have HH8 := Lib.hid (Rep.Es.keep hf8 (fun b hb => by simp <;> omega) HH7.out)
      have hs8 := hf8.size
      have hlR8 := HR8.out.lt
      have hlSt8 := HSt8.out.lt
      have hp8 := HD8.out.pr.lt
      clear h8 hf8
      have HG8 : Hid (PM.Le s7 s) := Lib.hid (HG7.out.good PM.good_column HQ8.out)
      have Hdd8 := Lib.hid (Rep.E.mono (A' := fun b => w.heap.size + 1 < b) (fun b hb => by first | omega | (simp at hb; omega)) hrep)
      clear hrep
      obtain ⟨Stc0, Stc1, Stc2, Stc3, Stc4, Stc5, Stc6, Stc7, Stc8, Stc9, Stc10, Stc11, Stc12, Stf0, Stf1, Stf2, Stf3, Stf4, Stf5, Stf6, Stf7, Stf8, Stf9, Stf10, Stf11, Stf12⟩ := c13_of HSt8.out.blk
      have HOdn : Hid (Rep.Es 82 (fun b => w.heap.size + 1 < b) ((w8.setCell ⟨w.heap.size + 1, 10, none⟩ (.slice (some ⟨w8.heap.size, 0, none⟩) 1 1)).alloc (.cells #[.int .i64 ddo, .int .i64 ddk, .int .i64 ddi, .string ⟨ddz.toArray⟩, .string ⟨ddt.toArray⟩, .string ⟨ddn.toArray⟩, .slice dda dde ddc] 82)) [ddx] (.slice (some ⟨w8.heap.size, 0, none⟩) 1 1)) := Lib.hid (es_set_new (Rep.L.cons _ _ _ _ Hdd8.out .nil) (fun g hg => by omega) (by omega) (by simp [maxLen]))
      obtain ⟨dsc, s8, hq9⟩ : ∃ a b, PM.skips [100, 101, 115, 99] s7 = (a, b) := ⟨_, _, rfl⟩
      have HQ9 := Lib.hid hq9
      clear hq9
      go_wp2_with fail
      refine (skips_pair P g s7 [100, 101, 115, 99] _ ((HD8.out.set (by omega)).alloc _).pr HQ9.out).mono ?_
      rintro e w9 ⟨rfl, h9, hf9⟩
      have HD9 : Hid (Bd w P g w9 s8) := Lib.hid (((HD8.out.set (by omega)).alloc _).call h9 hf9)
      have HR9 : Hid (Ow w w9 w.heap.size 29 [.int .i64 0, .string ⟨#[]⟩, .string ⟨#[]⟩, .slice none 0 0, .slice none 0 0, .slice none 0 0, .slice none 0 0, .string ⟨#[]⟩, .slice none 0 0, .slice none 0 0, .slice none 0 0, .bool false, .slice none 0 0]) := Lib.hid (((HR8.out.other (by omega)).alloc _).call HPL.out hf9)
      have HSt9 : Hid (Ow w w9 (w.heap.size + 1) 29 [.int .i64 6, (.string ⟨tn.toArray⟩), .string ⟨#[]⟩, .slice none 0 0, .slice none 0 0, .slice none 0 0, .slice none 0 0, .string ⟨#[]⟩, .slice none 0 0, (.slice wha whl whc), (.slice (some ⟨w8.heap.size, 0, none⟩) 1 1), .bool false, .slice none 0 0]) := Lib.hid (((HSt8.out.set 10 (.slice (some ⟨w8.heap.size, 0, none⟩) 1 1)).alloc _).call HPL.out hf9)
      have HH9 := Lib.hid (Rep.Es.keep hf9 (fun b hb => by simp <;> omega) (Rep.Es.keep (((Fr.refl [some (w.heap.size + 1)] w8).setCell (p := ⟨w.heap.size + 1, 10, none⟩) (.inl (by simp)) (.slice (some ⟨w8.heap.size, 0, none⟩) 1 1)).alloc _) (fun b hb => by simp <;> omega) HH8.out))
      have HOd9 := Lib.hid (Rep.Es.keep hf9 (fun b hb => by simp <;> omega) HOdn.out)
      have hs9 := hf9.size
      simp only [World.size_alloc, World.size_setCell] at hs9
      have hlR9 := HR9.out.lt
      have hlSt9 := HSt9.out.lt
      have hp9 := HD9.out.pr.lt
      clear h9 hf9
      have HG9 : Hid (PM.Le s8 s) := Lib.hid (HG8.out.good (PM.good_skips _) HQ9.out)
      clear Stc0 Stf0 Stc1 Stf1 Stc2 Stf2 Stc3 Stf3 Stc4 Stf4 Stc5 Stf5 Stc6 Stf6 Stc7 Stf7 Stc8 Stf8 Stc9 Stf9 Stc10 Stf10 Stc11 Stf11 Stc12 Stf12
      obtain ⟨Stc0, Stc1, Stc2, Stc3, Stc4, Stc5, Stc6, Stc7, Stc8, Stc9, Stc10, Stc11, Stc12, Stf0, Stf1, Stf2, Stf3, Stf4, Stf5, Stf6, Stf7, Stf8, Stf9, Stf10, Stf11, Stf12⟩ := c13_of HSt9.out.blk
      clear Stc0 Stc1 Stc2 Stc3 Stc4 Stc5 Stc6 Stc7 Stc8 Stc9 Stc10 Stc11 Stc12 Stf0 Stf1 Stf2 Stf3 Stf4 Stf5 Stf6 Stf7 Stf8 Stf9 Stf10 Stf11 Stf12
      have HM : Hid (PM.selects n s = (.mk 6 tn [] [] [] [] [] [] [] wh [ddx] dsc [], s8)) := Lib.hid (by simp only [PM.selects, HI1.out, HQ1.out, HQ2.out, HQ3.out, HI4.out, HQ5.out, HI6.out, HQ6.out, HQ7.out, HQ8.out, HQ9.out, if_true, if_false, Bool.false_eq_true, eq_self])
      have hnRSt : ¬ w.heap.size = w.heap.size + 1 := by omega
      have hnStR : ¬ w.heap.size + 1 = w.heap.size := by omega
      obtain ⟨Stc0, Stc1, Stc2, Stc3, Stc4, Stc5, Stc6, Stc7, Stc8, Stc9, Stc10, Stc11, Stc12, Stf0, Stf1, Stf2, Stf3, Stf4, Stf5, Stf6, Stf7, Stf8, Stf9, Stf10, Stf11, Stf12⟩ := c13_of HSt9.out.blk
      obtain ⟨Rc0, Rc1, Rc2, Rc3, Rc4, Rc5, Rc6, Rc7, Rc8, Rc9, Rc10, Rc11, Rc12, Rf0, Rf1, Rf2, Rf3, Rf4, Rf5, Rf6, Rf7, Rf8, Rf9, Rf10, Rf11, Rf12⟩ := c13_of HR9.out.blk
      go_wp2_with fail
      refine bodyPost_ret (ret_cell13 rfl _ w.heap.size rfl _ _ _ _ _ _ _ _ _ _ _ _ _ _ (blkPut13 (HR9.out.other (by omega)).blk _ _ _ _ _ _ _ _ _ _ _ _ _)) rfl ?_
      rw [HM.out]
      exact ⟨⟨_, rfl, .mk _ _ _ _ _ _ _ _ _ _ _ _ _ _ _ _ _ _ _ _ _ .nil .nil Rep.Es.nil .nil Rep.Es.nil (Rep.Es.mono (A' := fun b => w.heap.size ≤ b) (fun b hb => by omega) (Rep.Es.keep (frPut13 ((Fr.refl [some w.heap.size, some (w.heap.size + 1)] w9).setCell (p := ⟨w.heap.size + 1, 11, none⟩) (.inl (by simp)) (.bool dsc)) (.inl (by simp)) _ _ _ _ _ _ _ _ _ _ _ _ _) (fun b hb => by simp; omega) HH9.out)) (Rep.Es.mono (A' := fun b => w.heap.size ≤ b) (fun b hb => by omega) (Rep.Es.keep (frPut13 ((Fr.refl [some w.heap.size, some (w.heap.size + 1)] w9).setCell (p := ⟨w.heap.size + 1, 11, none⟩) (.inl (by simp)) (.bool dsc)) (.inl (by simp)) _ _ _ _ _ _ _ _ _ _ _ _ _) (fun b hb => by simp; omega) HOd9.out)) SS.nil⟩, ((HD9.out.set (by omega)).pr.keep (frPut13 (Fr.refl [some w.heap.size] _) (.inl (by simp)) _ _ _ _ _ _ _ _ _ _ _ _ _) (by simp; omega) (by simp; omega)), (frPut13 (HD9.out.set (by omega)).fr (.inr HR9.out.ge) _ _ _ _ _ _ _ _ _ _ _ _ _)⟩
  · have HI := Lib.hid hi
    clear hi
    go_wp2_with fail
    refine (skips_yes P g s3 [106, 111, 105, 110] _ (HD3.out.set (by omega)).pr HI.out).mono ?_
    rintro e w4 ⟨rfl, h4, hf4⟩
    have hi4 := HI.out
    obtain ⟨s4, hq4⟩ : ∃ x, PM.skip s3 = x := ⟨_, rfl⟩
    rw [hq4] at h4
    have HQ4 := Lib.hid hq4
    have HI4 := Lib.hid hi4
    clear hq4 hi4
    have HD4 : Hid (Bd w P g w4 s4) := Lib.hid ((HD3.out.set (by omega)).call h4 hf4)
    have HR4 : Hid (Ow w w4 w.heap.size 29 [.int .i64 0, .string ⟨#[]⟩, .string ⟨#[]⟩, .slice none 0 0, .slice none 0 0, .slice none 0 0, .slice none 0 0, .string ⟨#[]⟩, .slice none 0 0, .slice none 0 0, .slice none 0 0, .bool false, .slice none 0 0]) := Lib.hid ((HR3.out.other (by omega)).call HPL.out hf4)
    have HSt4 : Hid (Ow w w4 (w.heap.size + 1) 29 [.int .i64 6, (.string ⟨tn.toArray⟩), .string ⟨#[]⟩, .slice none 0 0, .slice none 0 0, .slice none 0 0, .slice none 0 0, .string ⟨#[]⟩, .slice none 0 0, .slice none 0 0, .slice none 0 0, .bool false, .slice none 0 0]) := Lib.hid ((HSt3.out.set 1 (.string ⟨tn.toArray⟩)).call HPL.out hf4)
    have hs4 := hf4.size
    simp only [World.size_setCell] at hs4
    have hlR4 := HR4.out.lt
    have hlSt4 := HSt4.out.lt
    have hp4 := HD4.out.pr.lt
    clear h4 hf4
    have HG4 : Hid (PM.Le s4 s) := Lib.hid (HG3.out.calm PM.calm_skip HQ4.out)
    go_wp2_with fail
    refine (name_any P g s4 _ HD4.out.pr).mono ?_
    rintro e w5 ⟨rfl, h5, hf5⟩
    obtain ⟨jn, s5, hq5⟩ : ∃ a b, PM.name s4 = (a, b) := ⟨_, _, rfl⟩
    rw [hq5] at h5 ⊢
    have HQ5 := Lib.hid hq5
    clear hq5
    have HD5 : Hid (Bd w P g w5 s5) := Lib.hid (HD4.out.call h5 hf5)
    have HR5 : Hid (Ow w w5 w.heap.size 29 [.int .i64 0, .string ⟨#[]⟩, .string ⟨#[]⟩, .slice none 0 0, .slice none 0 0, .slice none 0 0, .slice none 0 0, .string ⟨#[]⟩, .slice none 0 0, .slice none 0 0, .slice none 0 0, .bool false, .slice none 0 0]) := Lib.hid (HR4.out.call HPL.out hf5)
    have HSt5 : Hid (Ow w w5 (w.heap.size + 1) 29 [.int .i64 6, (.string ⟨tn.toArray⟩), .string ⟨#[]⟩, .slice none 0 0, .slice none 0 0, .slice none 0 0, .slice none 0 0, .string ⟨#[]⟩, .slice none 0 0, .slice none 0 0, .slice none 0 0, .bool false, .slice none 0 0]) := Lib.hid (HSt4.out.call HPL.out hf5)
    have hs5 := hf5.size
    have hlR5 := HR5.out.lt
    have hlSt5 := HSt5.out.lt
    have hp5 := HD5.out.pr.lt
    clear h5 hf5
    have HG5 : Hid (PM.Le s5 s) := Lib.hid (HG4.out.good PM.good_name HQ5.out)
    obtain ⟨Stc0, Stc1, Stc2, Stc3, Stc4, Stc5, Stc6, Stc7, Stc8, Stc9, Stc10, Stc11, Stc12, Stf0, Stf1, Stf2, Stf3, Stf4, Stf5, Stf6, Stf7, Stf8, Stf9, Stf10, Stf11, Stf12⟩ := c13_of HSt5.out.blk
    go_wp2_with fail
    refine (needs_new (n := w5.heap.size) (HD5.out.set (by omega)).pr [[111, 110]] (by decide) (by simp)).mono ?_
    rintro e w6 ⟨rfl, h6, hf6⟩
    obtain ⟨s6, hq6⟩ : ∃ x, PM.needs [[111, 110]] s5 = x := ⟨_, rfl⟩
    rw [hq6] at h6
    have HQ6 := Lib.hid hq6
    clear hq6
    have HD6 : Hid (Bd w P g w6 s6) := Lib.hid (((HD5.out.set (by omega)).alloc _).call h6 hf6)
    have HR6 : Hid (Ow w w6 w.heap.size 29 [.int .i64 0, .string ⟨#[]⟩, .string ⟨#[]⟩, .slice none 0 0, .slice none 0 0, .slice none 0 0, .slice none 0 0, .string ⟨#[]⟩, .slice none 0 0, .slice none 0 0, .slice none 0 0, .bool false, .slice none 0 0]) := Lib.hid (((HR5.out.other (by omega)).alloc _).call HPL.out hf6)
    have HSt6 : Hid (Ow w w6 (w.heap.size + 1) 29 [.int .i64 6, (.string ⟨tn.toArray⟩), .string ⟨#[]⟩, .slice none 0 0, .slice none 0 0, .slice none 0 0, .slice none 0 0, (.string ⟨jn.toArray⟩), .slice none 0 0, .slice none 0 0, .slice none 0 0, .bool false, .slice none 0 0]) := Lib.hid (((HSt5.out.set 7 (.string ⟨jn.toArray⟩)).alloc _).call HPL.out hf6)
    have hs6 := hf6.size
    simp only [World.size_alloc, World.size_setCell] at hs6
    have hlR6 := HR6.out.lt
    have hlSt6 := HSt6.out.lt
    have hp6 := HD6.out.pr.lt
    clear h6 hf6
    have HG6 : Hid (PM.Le s6 s) := Lib.hid (HG5.out.calm (PM.calm_needs [[111, 110]]) HQ6.out)
    clear Stc0 Stc1 Stc2 Stc3 Stc4 Stc5 Stc6 Stc7 Stc8 Stc9 Stc10 Stc11 Stc12 Stf0 Stf1 Stf2 Stf3 Stf4 Stf5 Stf6 Stf7 Stf8 Stf9 Stf10 Stf11 Stf12
    obtain ⟨lx, s7, hq7⟩ : ∃ a b, PM.column s6 = (a, b) := ⟨_, _, rfl⟩
    have HQ7 := Lib.hid hq7
    clear hq7
    go_wp2_with fail
    refine (column' HD6.out.pr HQ7.out).mono ?_
    rintro e w7 ⟨hx, h7, hf7⟩
    obtain ⟨lo, lk, li, lz, lt, ln, la, le, lc, rfl, hrep⟩ := ex_cells hx
    clear hx
    have HD7 : Hid (Bd w P g w7 s7) := Lib.hid (HD6.out.call h7 hf7)
    have HR7 : Hid (Ow w w7 w.heap.size 29 [.int .i64 0, .string ⟨#[]⟩, .string ⟨#[]⟩, .slice none 0 0, .slice none 0 0, .slice none 0 0, .slice none 0 0, .string ⟨#[]⟩, .slice none 0 0, .slice none 0 0, .slice none 0 0, .bool false, .slice none 0 0]) := Lib.hid (HR6.out.call HPL.out hf7)
    have HSt7 : Hid (Ow w w7 (w.heap.size + 1) 29 [.int .i64 6, (.string ⟨tn.toArray⟩), .string ⟨#[]⟩, .slice none 0 0, .slice none 0 0, .slice none 0 0, .slice none 0 0, (.string ⟨jn.toArray⟩), .slice none 0 0, .slice none 0 0, .slice none 0 0, .bool false, .slice none 0 0]) := Lib.hid (HSt6.out.call HPL.out hf7)
    have hs7 := hf7.size
    have hlR7 := HR7.out.lt
    have hlSt7 := HSt7.out.lt
    have hp7 := HD7.out.pr.lt
    clear h7 hf7
    have HG7 : Hid (PM.Le s7 s) := Lib.hid (HG6.out.good PM.good_column HQ7.out)
    have Hl7 := Lib.hid (Rep.E.mono (A' := fun b => w.heap.size + 1 < b) (fun b hb => by first | omega | (simp at hb; omega)) hrep)
    clear hrep
    go_wp2_with fail
    refine (needs_new (n := w7.heap.size + 1) (HD7.out.alloc _).pr [[61]] (by decide) (by simp)).mono ?_
    rintro e w8 ⟨rfl, h8, hf8⟩
    obtain ⟨s8, hq8⟩ : ∃ x, PM.needs [[61]] s7 = x := ⟨_, rfl⟩
    rw [hq8] at h8
    have HQ8 := Lib.hid hq8
    clear hq8
    have HD8 : Hid (Bd w P g w8 s8) := Lib.hid (((HD7.out.alloc _).alloc _).call h8 hf8)
    have HR8 : Hid (Ow w w8 w.heap.size 29 [.int .i64 0, .string ⟨#[]⟩, .string ⟨#[]⟩, .slice none 0 0, .slice none 0 0, .slice none 0 0, .slice none 0 0, .string ⟨#[]⟩, .slice none 0 0, .slice none 0 0, .slice none 0 0, .bool false, .slice none 0 0]) := Lib.hid (((HR7.out.alloc _).alloc _).call HPL.out hf8)
    have HSt8 : Hid (Ow w w8 (w.heap.size + 1) 29 [.int .i64 6, (.string ⟨tn.toArray⟩), .string ⟨#[]⟩, .slice none 0 0, .slice none 0 0, .slice none 0 0, .slice none 0 0, (.string ⟨jn.toArray⟩), .slice none 0 0, .slice none 0 0, .slice none 0 0, .bool false, .slice none 0 0]) := Lib.hid (((HSt7.out.alloc _).alloc _).call HPL.out hf8)
    have HL8 : Hid (Ow w w8 w7.heap.size 82 [.int .i64 lo, .int .i64 lk, .int .i64 li, .string ⟨lz.toArray⟩, .string ⟨lt.toArray⟩, .string ⟨ln.toArray⟩, .slice la le lc]) := Lib.hid (((Ow.new (by omega) 82 [.int .i64 lo, .int .i64 lk, .int .i64 li, .string ⟨lz.toArray⟩, .string ⟨lt.toArray⟩, .string ⟨ln.toArray⟩, .slice la le lc]).alloc _).call HPL.out hf8)
    have Hl8 := Lib.hid (Rep.E.keep hf8 (fun b hb => by simp <;> omega) (Rep.E.keep (((Fr.refl [] w7).alloc _).alloc _) (fun b hb => by simp <;> omega) Hl7.out))
    have hs8 := hf8.size
    simp only [World.size_alloc] at hs8
    have hlR8 := HR8.out.lt
    have hlSt8 := HSt8.out.lt
    have hlL8 := HL8.out.lt
    have hp8 := HD8.out.pr.lt
    clear h8 hf8
    have HG8 : Hid (PM.Le s8 s) := Lib.hid (HG7.out.calm (PM.calm_needs [[61]]) HQ8.out)
    obtain ⟨Stc0, Stc1, Stc2, Stc3, Stc4, Stc5, Stc6, Stc7, Stc8, Stc9, Stc10, Stc11, Stc12, Stf0, Stf1, Stf2, Stf3, Stf4, Stf5, Stf6, Stf7, Stf8, Stf9, Stf10, Stf11, Stf12⟩ := c13_of HSt8.out.blk
    obtain ⟨Lc0, Lc1, Lc2, Lc3, Lc4, Lc5, Lc6, Lf0, Lf1, Lf2, Lf3, Lf4, Lf5, Lf6⟩ := c7_of HL8.out.blk
    have hnRSt : ¬ w.heap.size = w.heap.size + 1 := by omega
    have hnRL : ¬ w.heap.size = w7.heap.size := by omega
    have hnStR : ¬ w.heap.size + 1 = w.heap.size := by omega
    have hnStL : ¬ w.heap.size + 1 = w7.heap.size := by omega
    have hnLR : ¬ w7.heap.size = w.heap.size := by omega
    have hnLSt : ¬ w7.heap.size = w.heap.size + 1 := by omega
    go_wp2_with fail
    obtain ⟨rx, s9, hqr⟩ : ∃ a b, PM.column s8 = (a, b) := ⟨_, _, rfl⟩
    have HQR := Lib.hid hqr
    clear hqr
    have HCR := Lib.hid (column' (HD8.out.drew).pr HQR.out)
    go_region_with (
      go_at_call 108
      refine (HCR.out).mono ?_
      rintro e w9 ⟨hx, h9, hf9⟩
      obtain ⟨ro, rk, ri, rz, rt, rn, ra, re, rc, rfl, hrep⟩ := ex_cells hx
      clear hx
      have HD9 : Hid (Bd w P g w9 s9) := Lib.hid ((HD8.out.drew).call h9 hf9)
      have HR9 : Hid (Ow w w9 w.heap.size 29 [.int .i64 0, .string ⟨#[]⟩, .string ⟨#[]⟩, .slice none 0 0, .slice none 0 0, .slice none 0 0, .slice none 0 0, .string ⟨#[]⟩, .slice none 0 0, .slice none 0 0, .slice none 0 0, .bool false, .slice none 0 0]) := Lib.hid ((HR8.out.drew).call HPL.out hf9)
      have HSt9 : Hid (Ow w w9 (w.heap.size + 1) 29 [.int .i64 6, (.string ⟨tn.toArray⟩), .string ⟨#[]⟩, .slice none 0 0, .slice none 0 0, .slice none 0 0, .slice none 0 0, (.string ⟨jn.toArray⟩), .slice none 0 0, .slice none 0 0, .slice none 0 0, .bool false, .slice none 0 0]) := Lib.hid ((HSt8.out.drew).call HPL.out hf9)
      have HL9 : Hid (Ow w w9 w7.heap.size 82 [.int .i64 lo, .int .i64 lk, .int .i64 li, .string ⟨lz.toArray⟩, .string ⟨lt.toArray⟩, .string ⟨ln.toArray⟩, .slice la le lc]) := Lib.hid ((HL8.out.drew).call HPL.out hf9)
      have Hl9 := Lib.hid (Rep.E.keep hf9 (fun b hb => by simp <;> omega) (Rep.E.keep ((Fr.refl [] w8).drew) (fun b hb => by simp <;> omega) Hl8.out))
      have hs9 := hf9.size
      simp only [World.size_drew] at hs9
      have hlR9 := HR9.out.lt
      have hlSt9 := HSt9.out.lt
      have hlL9 := HL9.out.lt
      have hp9 := HD9.out.pr.lt
      clear h9 hf9
      have HG9 : Hid (PM.Le s9 s) := Lib.hid (HG8.out.good PM.good_column HQR.out)
      have Hr9 := Lib.hid (Rep.E.mono (A' := fun b => w.heap.size + 1 < b) (fun b hb => by first | omega | (simp at hb; omega)) hrep)
      clear hrep
      obtain ⟨Std0, Std1, Std2, Std3, Std4, Std5, Std6, Std7, Std8, Std9, Std10, Std11, Std12, Stg0, Stg1, Stg2, Stg3, Stg4, Stg5, Stg6, Stg7, Stg8, Stg9, Stg10, Stg11, Stg12⟩ := c13_of HSt9.out.blk
      obtain ⟨Ld0, Ld1, Ld2, Ld3, Ld4, Ld5, Ld6, Lg0, Lg1, Lg2, Lg3, Lg4, Lg5, Lg6⟩ := c7_of HL9.out.blk)
    all_goals
      have HOn : Hid (Rep.Es 82 (fun b => w.heap.size + 1 < b) ((w9.setCell ⟨w.heap.size + 1, 8, none⟩ (.slice (some ⟨w9.heap.size, 0, none⟩) 2 2)).alloc (.cells #[.int .i64 lo, .int .i64 lk, .int .i64 li, .string ⟨lz.toArray⟩, .string ⟨lt.toArray⟩, .string ⟨ln.toArray⟩, .slice la le lc, .int .i64 ro, .int .i64 rk, .int .i64 ri, .string ⟨rz.toArray⟩, .string ⟨rt.toArray⟩, .string ⟨rn.toArray⟩, .slice ra re rc] 82)) [lx, rx] (.slice (some ⟨w9.heap.size, 0, none⟩) 2 2)) := Lib.hid (es_set_new (Rep.L.cons _ _ _ _ Hl9.out (Rep.L.cons _ _ _ _ Hr9.out .nil)) (fun g hg => by omega) (by omega) (by simp [maxLen]))
      clear Stc0 Stf0 Std0 Stg0 Stc1 Stf1 Std1 Stg1 Stc2 Stf2 Std2 Stg2 Stc3 Stf3 Std3 Stg3 Stc4 Stf4 Std4 Stg4 Stc5 Stf5 Std5 Stg5 Stc6 Stf6 Std6 Stg6 Stc7 Stf7 Std7 Stg7 Stc8 Stf8 Std8 Stg8 Stc9 Stf9 Std9 Stg9 Stc10 Stf10 Std10 Stg10 Stc11 Stf11 Std11 Stg11 Stc12 Stf12 Std12 Stg12 Lc0 Lf0 Ld0 Lg0 Lc1 Lf1 Ld1 Lg1 Lc2 Lf2 Ld2 Lg2 Lc3 Lf3 Ld3 Lg3 Lc4 Lf4 Ld4 Lg4 Lc5 Lf5 Ld5 Lg5 Lc6 Lf6 Ld6 Lg6
      obtain ⟨wh, s10, hq10⟩ : ∃ a b, PM.wheres n s9 = (a, b) := ⟨_, _, rfl⟩
      have HQ10 := Lib.hid hq10
      clear hq10
      go_wp2_with fail
      refine (where' n ((HD9.out.set (by omega)).alloc _).pr (by have := HG9.out.1; have := HN.out; omega) (by have := HG9.out.1; have := HN.out; omega) (by have := HG9.out.2; have := HN.out; omega) HQ10.out).mono ?_
      rintro e w10 ⟨⟨wha, whl, whc, rfl, hv⟩, h10, hf10⟩
      have HD10 : Hid (Bd w P g w10 s10) := Lib.hid (((HD9.out.set (by omega)).alloc _).call h10 hf10)
      have HR10 : Hid (Ow w w10 w.heap.size 29 [.int .i64 0, .string ⟨#[]⟩, .string ⟨#[]⟩, .slice none 0 0, .slice none 0 0, .slice none 0 0, .slice none 0 0, .string ⟨#[]⟩, .slice none 0 0, .slice none 0 0, .slice none 0 0, .bool false, .slice none 0 0]) := Lib.hid (((HR9.out.other (by omega)).alloc _).call HPL.out hf10)
      have HSt10 : Hid (Ow w w10 (w.heap.size + 1) 29 [.int .i64 6, (.string ⟨tn.toArray⟩), .string ⟨#[]⟩, .slice none 0 0, .slice none 0 0, .slice none 0 0, .slice none 0 0, (.string ⟨jn.toArray⟩), (.slice (some ⟨w9.heap.size, 0, none⟩) 2 2), .slice none 0 0, .slice none 0 0, .bool false, .slice none 0 0]) := Lib.hid (((HSt9.out.set 8 (.slice (some ⟨w9.heap.size, 0, none⟩) 2 2)).alloc _).call HPL.out hf10)
      have HO10 := Lib.hid (Rep.Es.keep hf10 (fun b hb => by simp <;> omega) HOn.out)
      have hs10 := hf10.size
      simp only [World.size_alloc, World.size_setCell] at hs10
      have hlR10 := HR10.out.lt
      have hlSt10 := HSt10.out.lt
      have hp10 := HD10.out.pr.lt
      clear h10 hf10
      have HG10 : Hid (PM.Le s10 s) := Lib.hid (HG9.out.good (PM.good_wheres n) HQ10.out)
      have HH10 := Lib.hid (Rep.Es.mono (A' := fun b => w.heap.size + 1 < b) (fun b hb => by first | omega | (simp at hb; omega)) hv)
      clear hv
      obtain ⟨Stc0, Stc1, Stc2, Stc3, Stc4, Stc5, Stc6, Stc7, Stc8, Stc9, Stc10, Stc11, Stc12, Stf0, Stf1, Stf2, Stf3, Stf4, Stf5, Stf6, Stf7, Stf8, Stf9, Stf10, Stf11, Stf12⟩ := c13_of HSt10.out.blk
      go_wp2_with fail
      clear Stc0 Stc1 Stc2 Stc3 Stc4 Stc5 Stc6 Stc7 Stc8 Stc9 Stc10 Stc11 Stc12 Stf0 Stf1 Stf2 Stf3 Stf4 Stf5 Stf6 Stf7 Stf8 Stf9 Stf10 Stf11 Stf12
      cases hi : PM.is [111, 114, 100, 101, 114] s10
      · have HI := Lib.hid hi
        clear hi
        go_wp2_with fail
        refine (skips_no P g s10 [111, 114, 100, 101, 114] _ (HD10.out.set (by omega)).pr HI.out).mono ?_
        rintro e w11 ⟨rfl, h11, hf11⟩
        have HI11 := Lib.hid HI.out
        have HD11 : Hid (Bd w P g w11 s10) := Lib.hid ((HD10.out.set (by omega)).call h11 hf11)
        have HR11 : Hid (Ow w w11 w.heap.size 29 [.int .i64 0, .string ⟨#[]⟩, .string ⟨#[]⟩, .slice none 0 0, .slice none 0 0, .slice none 0 0, .slice none 0 0, .string ⟨#[]⟩, .slice none 0 0, .slice none 0 0, .slice none 0 0, .bool false, .slice none 0 0]) := Lib.hid ((HR10.out.other (by omega)).call HPL.out hf11)
        have HSt11 : Hid (Ow w w11 (w.heap.size + 1) 29 [.int .i64 6, (.string ⟨tn.toArray⟩), .string ⟨#[]⟩, .slice none 0 0, .slice none 0 0, .slice none 0 0, .slice none 0 0, (.string ⟨jn.toArray⟩), (.slice (some ⟨w9.heap.size, 0, none⟩) 2 2), (.slice wha whl whc), .slice none 0 0, .bool false, .slice none 0 0]) := Lib.hid ((HSt10.out.set 9 (.slice wha whl whc)).call HPL.out hf11)
        have HO11 := Lib.hid (Rep.Es.keep hf11 (fun b hb => by simp <;> omega) (Rep.Es.keep ((Fr.refl [some (w.heap.size + 1)] w10).setCell (p := ⟨w.heap.size + 1, 9, none⟩) (.inl (by simp)) (.slice wha whl whc)) (fun b hb => by simp <;> omega) HO10.out))
        have HH11 := Lib.hid (Rep.Es.keep hf11 (fun b hb => by simp <;> omega) (Rep.Es.keep ((Fr.refl [some (w.heap.size + 1)] w10).setCell (p := ⟨w.heap.size + 1, 9, none⟩) (.inl (by simp)) (.slice wha whl whc)) (fun b hb => by simp <;> omega) HH10.out))
        have hs11 := hf11.size
        simp only [World.size_setCell] at hs11
        have hlR11 := HR11.out.lt
        have hlSt11 := HSt11.out.lt
        have hp11 := HD11.out.pr.lt
        clear h11 hf11
        have HM : Hid (PM.selects n s = (.mk 6 tn [] [] [] [] [] jn [lx, rx] wh [] false [], s10)) := Lib.hid (by simp only [PM.selects, HI1.out, HQ1.out, HQ2.out, HQ3.out, HI4.out, HQ4.out, HQ5.out, HQ6.out, HQ7.out, HQ8.out, HQR.out, HQ10.out, HI11.out, if_true, if_false, Bool.false_eq_true, eq_self])
        have hnRSt : ¬ w.heap.size = w.heap.size + 1 := by omega
        have hnStR : ¬ w.heap.size + 1 = w.heap.size := by omega
        obtain ⟨Stc0, Stc1, Stc2, Stc3, Stc4, Stc5, Stc6, Stc7, Stc8, Stc9, Stc10, Stc11, Stc12, Stf0, Stf1, Stf2, Stf3, Stf4, Stf5, Stf6, Stf7, Stf8, Stf9, Stf10, Stf11, Stf12⟩ := c13_of HSt11.out.blk
        obtain ⟨Rc0, Rc1, Rc2, Rc3, Rc4, Rc5, Rc6, Rc7, Rc8, Rc9, Rc10, Rc11, Rc12, Rf0, Rf1, Rf2, Rf3, Rf4, Rf5, Rf6, Rf7, Rf8, Rf9, Rf10, Rf11, Rf12⟩ := c13_of HR11.out.blk
        go_wp2_with fail
        refine bodyPost_ret (ret_cell13 rfl _ w.heap.size rfl _ _ _ _ _ _ _ _ _ _ _ _ _ _ (blkPut13 HR11.out.blk _ _ _ _ _ _ _ _ _ _ _ _ _)) rfl ?_
        rw [HM.out]
        exact ⟨⟨_, rfl, .mk _ _ _ _ _ _ _ _ _ _ _ _ _ _ _ _ _ _ _ _ _ .nil .nil Rep.Es.nil .nil (Rep.Es.mono (A' := fun b => w.heap.size ≤ b) (fun b hb => by omega) (Rep.Es.keep (frPut13 (Fr.refl [some w.heap.size] w11) (.inl (by simp)) _ _ _ _ _ _ _ _ _ _ _ _ _) (fun b hb => by simp; omega) HO11.out)) (Rep.Es.mono (A' := fun b => w.heap.size ≤ b) (fun b hb => by omega) (Rep.Es.keep (frPut13 (Fr.refl [some w.heap.size] w11) (.inl (by simp)) _ _ _ _ _ _ _ _ _ _ _ _ _) (fun b hb => by simp; omega) HH11.out)) Rep.Es.nil SS.nil⟩, (HD11.out.pr.keep (frPut13 (Fr.refl [some w.heap.size] _) (.inl (by simp)) _ _ _ _ _ _ _ _ _ _ _ _ _) (by simp; omega) (by simp; omega)), (frPut13 HD11.out.fr (.inr HR11.out.ge) _ _ _ _ _ _ _ _ _ _ _ _ _)⟩
      · have HI := Lib.hid hi
        clear hi
        go_wp2_with fail
        refine (skips_yes P g s10 [111, 114, 100, 101, 114] _ (HD10.out.set (by omega)).pr HI.out).mono ?_
        rintro e w11 ⟨rfl, h11, hf11⟩
        have hi11 := HI.out
        obtain ⟨s11, hq11⟩ : ∃ x, PM.skip s10 = x := ⟨_, rfl⟩
        rw [hq11] at h11
        have HQ11 := Lib.hid hq11
        have HI11 := Lib.hid hi11
        clear hq11 hi11
        have HD11 : Hid (Bd w P g w11 s11) := Lib.hid ((HD10.out.set (by omega)).call h11 hf11)
        have HR11 : Hid (Ow w w11 w.heap.size 29 [.int .i64 0, .string ⟨#[]⟩, .string ⟨#[]⟩, .slice none 0 0, .slice none 0 0, .slice none 0 0, .slice none 0 0, .string ⟨#[]⟩, .slice none 0 0, .slice none 0 0, .slice none 0 0, .bool false, .slice none 0 0]) := Lib.hid ((HR10.out.other (by omega)).call HPL.out hf11)
        have HSt11 : Hid (Ow w w11 (w.heap.size + 1) 29 [.int .i64 6, (.string ⟨tn.toArray⟩), .string ⟨#[]⟩, .slice none 0 0, .slice none 0 0, .slice none 0 0, .slice none 0 0, (.string ⟨jn.toArray⟩), (.slice (some ⟨w9.heap.size, 0, none⟩) 2 2), (.slice wha whl whc), .slice none 0 0, .bool false, .slice none 0 0]) := Lib.hid ((HSt10.out.set 9 (.slice wha whl whc)).call HPL.out hf11)
        have HO11 := Lib.hid (Rep.Es.keep hf11 (fun b hb => by simp <;> omega) (Rep.Es.keep ((Fr.refl [some (w.heap.size + 1)] w10).setCell (p := ⟨w.heap.size + 1, 9, none⟩) (.inl (by simp)) (.slice wha whl whc)) (fun b hb => by simp <;> omega) HO10.out))
        have HH11 := Lib.hid (Rep.Es.keep hf11 (fun b hb => by simp <;> omega) (Rep.Es.keep ((Fr.refl [some (w.heap.size + 1)] w10).setCell (p := ⟨w.heap.size + 1, 9, none⟩) (.inl (by simp)) (.slice wha whl whc)) (fun b hb => by simp <;> omega) HH10.out))
        have hs11 := hf11.size
        simp only [World.size_setCell] at hs11
        have hlR11 := HR11.out.lt
        have hlSt11 := HSt11.out.lt
        have hp11 := HD11.out.pr.lt
        clear h11 hf11
        have HG11 : Hid (PM.Le s11 s) := Lib.hid (HG10.out.calm PM.calm_skip HQ11.out)
        go_wp2_with fail
        refine (needs_new (n := w11.heap.size) HD11.out.pr [[98, 121]] (by decide) (by simp)).mono ?_
        rintro e w12 ⟨rfl, h12, hf12⟩
        obtain ⟨s12, hq12⟩ : ∃ x, PM.needs [[98, 121]] s11 = x := ⟨_, rfl⟩
        rw [hq12] at h12
        have HQ12 := Lib.hid hq12
        clear hq12
        have HD12 : Hid (Bd w P g w12 s12) := Lib.hid ((HD11.out.alloc _).call h12 hf12)
        have HR12 : Hid (Ow w w12 w.heap.size 29 [.int .i64 0, .string ⟨#[]⟩, .string ⟨#[]⟩, .slice none 0 0, .slice none 0 0, .slice none 0 0, .slice none 0 0, .string ⟨#[]⟩, .slice none 0 0, .slice none 0 0, .slice none 0 0, .bool false, .slice none 0 0]) := Lib.hid ((HR11.out.alloc _).call HPL.out hf12)
        have HSt12 : Hid (Ow w w12 (w.heap.size + 1) 29 [.int .i64 6, (.string ⟨tn.toArray⟩), .string ⟨#[]⟩, .slice none 0 0, .slice none 0 0, .slice none 0 0, .slice none 0 0, (.string ⟨jn.toArray⟩), (.slice (some ⟨w9.heap.size, 0, none⟩) 2 2), (.slice wha whl whc), .slice none 0 0, .bool false, .slice none 0 0]) := Lib.hid ((HSt11.out.alloc _).call HPL.out hf12)
        have HO12 := Lib.hid (Rep.Es.keep hf12 (fun b hb => by simp <;> omega) (Rep.Es.keep ((Fr.refl [] w11).alloc _) (fun b hb => by simp <;> omega) HO11.out))
        have HH12 := Lib.hid (Rep.Es.keep hf12 (fun b hb => by simp <;> omega) (Rep.Es.keep ((Fr.refl [] w11).alloc _) (fun b hb => by simp <;> omega) HH11.out))
        have hs12 := hf12.size
        simp only [World.size_alloc] at hs12
        have hlR12 := HR12.out.lt
        have hlSt12 := HSt12.out.lt
        have hp12 := HD12.out.pr.lt
        clear h12 hf12
        have HG12 : Hid (PM.Le s12 s) := Lib.hid (HG11.out.calm (PM.calm_needs [[98, 121]]) HQ12.out)
        obtain ⟨ddx, s13, hq13⟩ : ∃ a b, PM.column s12 = (a, b) := ⟨_, _, rfl⟩
        have HQ13 := Lib.hid hq13
        clear hq13
        go_wp2_with fail
        refine (column' HD12.out.pr HQ13.out).mono ?_
        rintro e w13 ⟨hx, h13, hf13⟩
        obtain ⟨ddo, ddk, ddi, ddz, ddt, ddn, dda, dde, ddc, rfl, hrep⟩ := ex_cells hx
        clear hx
        have HD13 : Hid (Bd w P g w13 s13) := Lib.hid (HD12.out.call h13 hf13)
        have HR13 : Hid (Ow w w13 w.heap.size 29 [.int .i64 0, .string ⟨#[]⟩, .string ⟨#[]⟩, .slice none 0 0, .slice none 0 0, .slice none 0 0, .slice none 0 0, .string ⟨#[]⟩, .slice none 0 0, .slice none 0 0, .slice none 0 0, .bool false, .slice none 0 0]) := Lib.hid (HR12.out.call HPL.out hf13)
        have HSt13 : Hid (Ow w w13 (w.heap.size + 1) 29 [.int .i64 6, (.string ⟨tn.toArray⟩), .string ⟨#[]⟩, .slice none 0 0, .slice none 0 0, .slice none 0 0, .slice none 0 0, (.string ⟨jn.toArray⟩), (.slice (some ⟨w9.heap.size, 0, none⟩) 2 2), (.slice wha whl whc), .slice none 0 0, .bool false, .slice none 0 0]) := Lib.hid (HSt12.out.call HPL.out hf13)
        have HO13 := Lib.hid (Rep.Es.keep hf13 (fun b hb => by simp <;> omega) HO12.out)
        have HH13 := Lib.hid (Rep.Es.keep hf13 (fun b hb => by simp <;> omega) HH12.out)
        have hs13 := hf13.size
        have hlR13 := HR13.out.lt
        have hlSt13 := HSt13.out.lt
        have hp13 := HD13.out.pr.lt
        clear h13 hf13
        have HG13 : Hid (PM.Le s13 s) := Lib.hid (HG12.out.good PM.good_column HQ13.out)
        have Hdd13 := Lib.hid (Rep.E.mono (A' := fun b => w.heap.size + 1 < b) (fun b hb => by first | omega | (simp at hb; omega)) hrep)
        clear hrep
        obtain ⟨Stc0, Stc1, Stc2, Stc3, Stc4, Stc5, Stc6, Stc7, Stc8, Stc9, Stc10, Stc11, Stc12, Stf0, Stf1, Stf2, Stf3, Stf4, Stf5, Stf6, Stf7, Stf8, Stf9, Stf10, Stf11, Stf12⟩ := c13_of HSt13.out.blk
        have HOdn : Hid (Rep.Es 82 (fun b => w.heap.size + 1 < b) ((w13.setCell ⟨w.heap.size + 1, 10, none⟩ (.slice (some ⟨w13.heap.size, 0, none⟩) 1 1)).alloc (.cells #[.int .i64 ddo, .int .i64 ddk, .int .i64 ddi, .string ⟨ddz.toArray⟩, .string ⟨ddt.toArray⟩, .string ⟨ddn.toArray⟩, .slice dda dde ddc] 82)) [ddx] (.slice (some ⟨w13.heap.size, 0, none⟩) 1 1)) := Lib.hid (es_set_new (Rep.L.cons _ _ _ _ Hdd13.out .nil) (fun g hg => by omega) (by omega) (by simp [maxLen]))
        obtain ⟨dsc, s14, hq14⟩ : ∃ a b, PM.skips [100, 101, 115, 99] s13 = (a, b) := ⟨_, _, rfl⟩
        have HQ14 := Lib.hid hq14
        clear hq14
        go_wp2_with fail
        refine (skips_pair P g s13 [100, 101, 115, 99] _ ((HD13.out.set (by omega)).alloc _).pr HQ14.out).mono ?_
        rintro e w14 ⟨rfl, h14, hf14⟩
        have HD14 : Hid (Bd w P g w14 s14) := Lib.hid (((HD13.out.set (by omega)).alloc _).call h14 hf14)
        have HR14 : Hid (Ow w w14 w.heap.size 29 [.int .i64 0, .string ⟨#[]⟩, .string ⟨#[]⟩, .slice none 0 0, .slice none 0 0, .slice none 0 0, .slice none 0 0, .string ⟨#[]⟩, .slice none 0 0, .slice none 0 0, .slice none 0 0, .bool false, .slice none 0 0]) := Lib.hid (((HR13.out.other (by omega)).alloc _).call HPL.out hf14)
        have HSt14 : Hid (Ow w w14 (w.heap.size + 1) 29 [.int .i64 6, (.string ⟨tn.toArray⟩), .string ⟨#[]⟩, .slice none 0 0, .slice none 0 0, .slice none 0 0, .slice none 0 0, (.string ⟨jn.toArray⟩), (.slice (some ⟨w9.heap.size, 0, none⟩) 2 2), (.slice wha whl whc), (.slice (some ⟨w13.heap.size, 0, none⟩) 1 1), .bool false, .slice none 0 0]) := Lib.hid (((HSt13.out.set 10 (.slice (some ⟨w13.heap.size, 0, none⟩) 1 1)).alloc _).call HPL.out hf14)
        have HO14 := Lib.hid (Rep.Es.keep hf14 (fun b hb => by simp <;> omega) (Rep.Es.keep (((Fr.refl [some (w.heap.size + 1)] w13).setCell (p := ⟨w.heap.size + 1, 10, none⟩) (.inl (by simp)) (.slice (some ⟨w13.heap.size, 0, none⟩) 1 1)).alloc _) (fun b hb => by simp <;> omega) HO13.out))
        have HH14 := Lib.hid (Rep.Es.keep hf14 (fun b hb => by simp <;> omega) (Rep.Es.keep (((Fr.refl [some (w.heap.size + 1)] w13).setCell (p := ⟨w.heap.size + 1, 10, none⟩) (.inl (by simp)) (.slice (some ⟨w13.heap.size, 0, none⟩) 1 1)).alloc _) (fun b hb => by simp <;> omega) HH13.out))
        have HOd14 := Lib.hid (Rep.Es.keep hf14 (fun b hb => by simp <;> omega) HOdn.out)
        have hs14 := hf14.size
        simp only [World.size_alloc, World.size_setCell] at hs14
        have hlR14 := HR14.out.lt
        have hlSt14 := HSt14.out.lt
        have hp14 := HD14.out.pr.lt
        clear h14 hf14
        have HG14 : Hid (PM.Le s14 s) := Lib.hid (HG13.out.good (PM.good_skips _) HQ14.out)
        clear Stc0 Stf0 Stc1 Stf1 Stc2 Stf2 Stc3 Stf3 Stc4 Stf4 Stc5 Stf5 Stc6 Stf6 Stc7 Stf7 Stc8 Stf8 Stc9 Stf9 Stc10 Stf10 Stc11 Stf11 Stc12 Stf12
        obtain ⟨Stc0, Stc1, Stc2, Stc3, Stc4, Stc5, Stc6, Stc7, Stc8, Stc9, Stc10, Stc11, Stc12, Stf0, Stf1, Stf2, Stf3, Stf4, Stf5, Stf6, Stf7, Stf8, Stf9, Stf10, Stf11, Stf12⟩ := c13_of HSt14.out.blk
        clear Stc0 Stc1 Stc2 Stc3 Stc4 Stc5 Stc6 Stc7 Stc8 Stc9 Stc10 Stc11 Stc12 Stf0 Stf1 Stf2 Stf3 Stf4 Stf5 Stf6 Stf7 Stf8 Stf9 Stf10 Stf11 Stf12
        have HM : Hid (PM.selects n s = (.mk 6 tn [] [] [] [] [] jn [lx, rx] wh [ddx] dsc [], s14)) := Lib.hid (by simp only [PM.selects, HI1.out, HQ1.out, HQ2.out, HQ3.out, HI4.out, HQ4.out, HQ5.out, HQ6.out, HQ7.out, HQ8.out, HQR.out, HQ10.out, HI11.out, HQ11.out, HQ12.out, HQ13.out, HQ14.out, if_true, eq_self])
        have hnRSt : ¬ w.heap.size = w.heap.size + 1 := by omega
        have hnStR : ¬ w.heap.size + 1 = w.heap.size := by omega
        obtain ⟨Stc0, Stc1, Stc2, Stc3, Stc4, Stc5, Stc6, Stc7, Stc8, Stc9, Stc10, Stc11, Stc12, Stf0, Stf1, Stf2, Stf3, Stf4, Stf5, Stf6, Stf7, Stf8, Stf9, Stf10, Stf11, Stf12⟩ := c13_of HSt14.out.blk
        obtain ⟨Rc0, Rc1, Rc2, Rc3, Rc4, Rc5, Rc6, Rc7, Rc8, Rc9, Rc10, Rc11, Rc12, Rf0, Rf1, Rf2, Rf3, Rf4, Rf5, Rf6, Rf7, Rf8, Rf9, Rf10, Rf11, Rf12⟩ := c13_of HR14.out.blk
        go_wp2_with fail
        refine bodyPost_ret (ret_cell13 rfl _ w.heap.size rfl _ _ _ _ _ _ _ _ _ _ _ _ _ _ (blkPut13 (HR14.out.other (by omega)).blk _ _ _ _ _ _ _ _ _ _ _ _ _)) rfl ?_
        rw [HM.out]
        exact ⟨⟨_, rfl, .mk _ _ _ _ _ _ _ _ _ _ _ _ _ _ _ _ _ _ _ _ _ .nil .nil Rep.Es.nil .nil (Rep.Es.mono (A' := fun b => w.heap.size ≤ b) (fun b hb => by omega) (Rep.Es.keep (frPut13 ((Fr.refl [some w.heap.size, some (w.heap.size + 1)] w14).setCell (p := ⟨w.heap.size + 1, 11, none⟩) (.inl (by simp)) (.bool dsc)) (.inl (by simp)) _ _ _ _ _ _ _ _ _ _ _ _ _) (fun b hb => by simp; omega) HO14.out)) (Rep.Es.mono (A' := fun b => w.heap.size ≤ b) (fun b hb => by omega) (Rep.Es.keep (frPut13 ((Fr.refl [some w.heap.size, some (w.heap.size + 1)] w14).setCell (p := ⟨w.heap.size + 1, 11, none⟩) (.inl (by simp)) (.bool dsc)) (.inl (by simp)) _ _ _ _ _ _ _ _ _ _ _ _ _) (fun b hb => by simp; omega) HH14.out)) (Rep.Es.mono (A' := fun b => w.heap.size ≤ b) (fun b hb => by omega) (Rep.Es.keep (frPut13 ((Fr.refl [some w.heap.size, some (w.heap.size + 1)] w14).setCell (p := ⟨w.heap.size + 1, 11, none⟩) (.inl (by simp)) (.bool dsc)) (.inl (by simp)) _ _ _ _ _ _ _ _ _ _ _ _ _) (fun b hb => by simp; omega) HOd14.out)) SS.nil⟩, ((HD14.out.set (by omega)).pr.keep (frPut13 (Fr.refl [some w.heap.size] _) (.inl (by simp)) _ _ _ _ _ _ _ _ _ _ _ _ _) (by simp; omega) (by simp; omega)), (frPut13 (HD14.out.set (by omega)).fr (.inr HR14.out.ge) _ _ _ _ _ _ _ _ _ _ _ _ _)⟩
set_option maxRecDepth 100000 in
set_option maxHeartbeats 10000000 in
theorem selects_items (P g n : Nat) (s : PS) (w : World) (h : PR w P g s) (h0 : 0 ≤ s.deep) (h64 : s.deep ≤ 64) (hn : s.l.length ≤ n) (hb : s.l.length ≤ 1000) (hi : PM.is [42] s = false) :
    Calls Tryz.prog 56 #[.pointer (some ⟨P, 0, none⟩)] w fun e w' => StR w.heap.size w' e (PM.selects n s).1 ∧ PR w' P g (PM.selects n s).2 ∧ Fr [some P] w w' := by
  have hPl := h.lt
  have hgP := h.ne
  have HPL := Lib.hid hPl
  have HD : Hid (Bd w P g w s) := Lib.hid (Bd.start h)
  have HI := Lib.hid hi
  have HN := Lib.hid (And.intro h0 (And.intro h64 (And.intro hn hb)))
  have HG0 := Lib.hid (PM.Le.refl s)
  clear h h0 h64 hn hb hi
  go_enter Tryz.func56, Tryz.ntmps56
  go_wp2_with fail
  refine (skips_no P g s [42] _ ((HD.out.alloc _).alloc _).pr HI.out).mono ?_
  rintro e w1 ⟨rfl, h1, hf1⟩
  have HI1 := Lib.hid HI.out
  have HD1 : Hid (Bd w P g w1 s) := Lib.hid (((HD.out.alloc _).alloc _).call h1 hf1)
  have HR1 : Hid (Ow w w1 w.heap.size 29 [.int .i64 0, .string ⟨#[]⟩, .string ⟨#[]⟩, .slice none 0 0, .slice none 0 0, .slice none 0 0, .slice none 0 0, .string ⟨#[]⟩, .slice none 0 0, .slice none 0 0, .slice none 0 0, .bool false, .slice none 0 0]) := Lib.hid (((Ow.new (by omega) 29 [.int .i64 0, .string ⟨#[]⟩, .string ⟨#[]⟩, .slice none 0 0, .slice none 0 0, .slice none 0 0, .slice none 0 0, .string ⟨#[]⟩, .slice none 0 0, .slice none 0 0, .slice none 0 0, .bool false, .slice none 0 0]).alloc _).call HPL.out hf1)
  have HSt1 : Hid (Ow w w1 (w.heap.size + 1) 29 [.int .i64 6, .string ⟨#[]⟩, .string ⟨#[]⟩, .slice none 0 0, .slice none 0 0, .slice none 0 0, .slice none 0 0, .string ⟨#[]⟩, .slice none 0 0, .slice none 0 0, .slice none 0 0, .bool false, .slice none 0 0]) := Lib.hid ((Ow.new1 (by omega) _ 29 [.int .i64 6, .string ⟨#[]⟩, .string ⟨#[]⟩, .slice none 0 0, .slice none 0 0, .slice none 0 0, .slice none 0 0, .string ⟨#[]⟩, .slice none 0 0, .slice none 0 0, .slice none 0 0, .bool false, .slice none 0 0]).call HPL.out hf1)
  have hs1 := hf1.size
  simp only [World.size_alloc] at hs1
  have hlR1 := HR1.out.lt
  have hlSt1 := HSt1.out.lt
  have hp1 := HD1.out.pr.lt
  clear h1 hf1
  obtain ⟨it, s1, hq2⟩ : ∃ a b, PM.list PM.item s = (a, b) := ⟨_, _, rfl⟩
  have HQ2 := Lib.hid hq2
  clear hq2
  go_wp2_with fail
  refine (list_item' n HD1.out.pr (by have := HG0.out.1; have := HN.out; omega) (by have := HG0.out.1; have := HN.out; omega) (by have := HG0.out.2; have := HN.out; omega) (by have := HG0.out.2; have := HN.out; omega) HQ2.out).mono ?_
  rintro e w2 ⟨⟨ita, itl, itc, rfl, hv⟩, h2, hf2⟩
  have HD2 : Hid (Bd w P g w2 s1) := Lib.hid (HD1.out.call h2 hf2)
  have HR2 : Hid (Ow w w2 w.heap.size 29 [.int .i64 0, .string ⟨#[]⟩, .string ⟨#[]⟩, .slice none 0 0, .slice none 0 0, .slice none 0 0, .slice none 0 0, .string ⟨#[]⟩, .slice none 0 0, .slice none 0 0, .slice none 0 0, .bool false, .slice none 0 0]) := Lib.hid (HR1.out.call HPL.out hf2)
  have HSt2 : Hid (Ow w w2 (w.heap.size + 1) 29 [.int .i64 6, .string ⟨#[]⟩, .string ⟨#[]⟩, .slice none 0 0, .slice none 0 0, .slice none 0 0, .slice none 0 0, .string ⟨#[]⟩, .slice none 0 0, .slice none 0 0, .slice none 0 0, .bool false, .slice none 0 0]) := Lib.hid (HSt1.out.call HPL.out hf2)
  have hs2 := hf2.size
  have hlR2 := HR2.out.lt
  have hlSt2 := HSt2.out.lt
  have hp2 := HD2.out.pr.lt
  clear h2 hf2
  have HG2 : Hid (PM.Le s1 s) := Lib.hid (HG0.out.good (PM.good_list PM.good_item) HQ2.out)
  have HMi2 := Lib.hid (FlatS.mono (A' := fun b => w.heap.size + 1 < b) (fun b hb => by first | omega | (simp at hb; omega)) hv)
  clear hv
  obtain ⟨Stc0, Stc1, Stc2, Stc3, Stc4, Stc5, Stc6, Stc7, Stc8, Stc9, Stc10, Stc11, Stc12, Stf0, Stf1, Stf2, Stf3, Stf4, Stf5, Stf6, Stf7, Stf8, Stf9, Stf10, Stf11, Stf12⟩ := c13_of HSt2.out.blk
  go_wp2_with fail
  refine (needs_new (n := w2.heap.size) (HD2.out.set (by omega)).pr [[102, 114, 111, 109]] (by decide) (by simp)).mono ?_
  rintro e w3 ⟨rfl, h3, hf3⟩
  obtain ⟨s2, hq3⟩ : ∃ x, PM.needs [[102, 114, 111, 109]] s1 = x := ⟨_, rfl⟩
  rw [hq3] at h3
  have HQ3 := Lib.hid hq3
  clear hq3
  have HD3 : Hid (Bd w P g w3 s2) := Lib.hid (((HD2.out.set (by omega)).alloc _).call h3 hf3)
  have HR3 : Hid (Ow w w3 w.heap.size 29 [.int .i64 0, .string ⟨#[]⟩, .string ⟨#[]⟩, .slice none 0 0, .slice none 0 0, .slice none 0 0, .slice none 0 0, .string ⟨#[]⟩, .slice none 0 0, .slice none 0 0, .slice none 0 0, .bool false, .slice none 0 0]) := Lib.hid (((HR2.out.other (by omega)).alloc _).call HPL.out hf3)
  have HSt3 : Hid (Ow w w3 (w.heap.size + 1) 29 [.int .i64 6, .string ⟨#[]⟩, .string ⟨#[]⟩, .slice none 0 0, .slice none 0 0, .slice none 0 0, (.slice ita itl itc), .string ⟨#[]⟩, .slice none 0 0, .slice none 0 0, .slice none 0 0, .bool false, .slice none 0 0]) := Lib.hid (((HSt2.out.set 6 (.slice ita itl itc)).alloc _).call HPL.out hf3)
  have HMi3 := Lib.hid (FlatS.keep hf3 (fun b hb => by simp <;> omega) (FlatS.keep (((Fr.refl [some (w.heap.size + 1)] w2).setCell (p := ⟨w.heap.size + 1, 6, none⟩) (.inl (by simp)) (.slice ita itl itc)).alloc _) (fun b hb => by simp <;> omega) HMi2.out))
  have hs3 := hf3.size
  simp only [World.size_alloc, World.size_setCell] at hs3
  have hlR3 := HR3.out.lt
  have hlSt3 := HSt3.out.lt
  have hp3 := HD3.out.pr.lt
  clear h3 hf3
  have HG3 : Hid (PM.Le s2 s) := Lib.hid (HG2.out.calm (PM.calm_needs [[102, 114, 111, 109]]) HQ3.out)
  clear Stc0 Stc1 Stc2 Stc3 Stc4 Stc5 Stc6 Stc7 Stc8 Stc9 Stc10 Stc11 Stc12 Stf0 Stf1 Stf2 Stf3 Stf4 Stf5 Stf6 Stf7 Stf8 Stf9 Stf10 Stf11 Stf12
  go_wp2_with fail
  refine (name_any P g s2 _ HD3.out.pr).mono ?_
  rintro e w4 ⟨rfl, h4, hf4⟩
  obtain ⟨tn, s3, hq4⟩ : ∃ a b, PM.name s2 = (a, b) := ⟨_, _, rfl⟩
  rw [hq4] at h4 ⊢
  have HQ4 := Lib.hid hq4
  clear hq4
  have HD4 : Hid (Bd w P g w4 s3) := Lib.hid (HD3.out.call h4 hf4)
  have HR4 : Hid (Ow w w4 w.heap.size 29 [.int .i64 0, .string ⟨#[]⟩, .string ⟨#[]⟩, .slice none 0 0, .slice none 0 0, .slice none 0 0, .slice none 0 0, .string ⟨#[]⟩, .slice none 0 0, .slice none 0 0, .slice none 0 0, .bool false, .slice none 0 0]) := Lib.hid (HR3.out.call HPL.out hf4)
  have HSt4 : Hid (Ow w w4 (w.heap.size + 1) 29 [.int .i64 6, .string ⟨#[]⟩, .string ⟨#[]⟩, .slice none 0 0, .slice none 0 0, .slice none 0 0, (.slice ita itl itc), .string ⟨#[]⟩, .slice none 0 0, .slice none 0 0, .slice none 0 0, .bool false, .slice none 0 0]) := Lib.hid (HSt3.out.call HPL.out hf4)
  have HMi4 := Lib.hid (FlatS.keep hf4 (fun b hb => by simp <;> omega) HMi3.out)
  have hs4 := hf4.size
  have hlR4 := HR4.out.lt
  have hlSt4 := HSt4.out.lt
  have hp4 := HD4.out.pr.lt
  clear h4 hf4
  have HG4 : Hid (PM.Le s3 s) := Lib.hid (HG3.out.good PM.good_name HQ4.out)
  obtain ⟨Stc0, Stc1, Stc2, Stc3, Stc4, Stc5, Stc6, Stc7, Stc8, Stc9, Stc10, Stc11, Stc12, Stf0, Stf1, Stf2, Stf3, Stf4, Stf5, Stf6, Stf7, Stf8, Stf9, Stf10, Stf11, Stf12⟩ := c13_of HSt4.out.blk
  go_wp2_with fail
  clear Stc0 Stc1 Stc2 Stc3 Stc4 Stc5 Stc6 Stc7 Stc8 Stc9 Stc10 Stc11 Stc12 Stf0 Stf1 Stf2 Stf3 Stf4 Stf5 Stf6 Stf7 Stf8 Stf9 Stf10 Stf11 Stf12
  cases hi : PM.is [106, 111, 105, 110] s3
  · have HI := Lib.hid hi
    clear hi
    go_wp2_with fail
    refine (skips_no P g s3 [106, 111, 105, 110] _ (HD4.out.set (by omega)).pr HI.out).mono ?_
    rintro e w5 ⟨rfl, h5, hf5⟩
    have HI5 := Lib.hid HI.out
    have HD5 : Hid (Bd w P g w5 s3) := Lib.hid ((HD4.out.set (by omega)).call h5 hf5)
    have HR5 : Hid (Ow w w5 w.heap.size 29 [.int .i64 0, .string ⟨#[]⟩, .string ⟨#[]⟩, .slice none 0 0, .slice none 0 0, .slice none 0 0, .slice none 0 0, .string ⟨#[]⟩, .slice none 0 0, .slice none 0 0, .slice none 0 0, .bool false, .slice none 0 0]) := Lib.hid ((HR4.out.other (by omega)).call HPL.out hf5)
    have HSt5 : Hid (Ow w w5 (w.heap.size + 1) 29 [.int .i64 6, (.string ⟨tn.toArray⟩), .string ⟨#[]⟩, .slice none 0 0, .slice none 0 0, .slice none 0 0, (.slice ita itl itc), .string ⟨#[]⟩, .slice none 0 0, .slice none 0 0, .slice none 0 0, .bool false, .slice none 0 0]) := Lib.hid ((HSt4.out.set 1 (.string ⟨tn.toArray⟩)).call HPL.out hf5)
    have HMi5 := Lib.hid (FlatS.keep hf5 (fun b hb => by simp <;> omega) (FlatS.keep ((Fr.refl [some (w.heap.size + 1)] w4).setCell (p := ⟨w.heap.size + 1, 1, none⟩) (.inl (by simp)) (.string ⟨tn.toArray⟩)) (fun b hb => by simp <;> omega) HMi4.out))
    have hs5 := hf5.size
    simp only [World.size_setCell] at hs5
    have hlR5 := HR5.out.lt
    have hlSt5 := HSt5.out.lt
    have hp5 := HD5.out.pr.lt
    clear h5 hf5
    obtain ⟨wh, s4, hq6⟩ : ∃ a b, PM.wheres n s3 = (a, b) := ⟨_, _, rfl⟩
    have HQ6 := Lib.hid hq6
    clear hq6
    go_wp2_with fail
    refine (where' n HD5.out.pr (by have := HG4.out.1; have := HN.out; omega) (by have := HG4.out.1; have := HN.out; omega) (by have := HG4.out.2; have := HN.out; omega) HQ6.out).mono ?_
    rintro e w6 ⟨⟨wha, whl, whc, rfl, hv⟩, h6, hf6⟩
    have HD6 : Hid (Bd w P g w6 s4) := Lib.hid (HD5.out.call h6 hf6)
    have HR6 : Hid (Ow w w6 w.heap.size 29 [.int .i64 0, .string ⟨#[]⟩, .string ⟨#[]⟩, .slice none 0 0, .slice none 0 0, .slice none 0 0, .slice none 0 0, .string ⟨#[]⟩, .slice none 0 0, .slice none 0 0, .slice none 0 0, .bool false, .slice none 0 0]) := Lib.hid (HR5.out.call HPL.out hf6)
    have HSt6 : Hid (Ow w w6 (w.heap.size + 1) 29 [.int .i64 6, (.string ⟨tn.toArray⟩), .string ⟨#[]⟩, .slice none 0 0, .slice none 0 0, .slice none 0 0, (.slice ita itl itc), .string ⟨#[]⟩, .slice none 0 0, .slice none 0 0, .slice none 0 0, .bool false, .slice none 0 0]) := Lib.hid (HSt5.out.call HPL.out hf6)
    have HMi6 := Lib.hid (FlatS.keep hf6 (fun b hb => by simp <;> omega) HMi5.out)
    have hs6 := hf6.size
    have hlR6 := HR6.out.lt
    have hlSt6 := HSt6.out.lt
    have hp6 := HD6.out.pr.lt
    clear h6 hf6
    have HG6 : Hid (PM.Le s4 s) := Lib.hid (HG4.out.good (PM.good_wheres n) HQ6.out)
    have HH6 := Lib.hid (Rep.Es.mono (A' := fun b => w.heap.size + 1 < b) (fun b hb => by first | omega | (simp at hb; omega)) hv)
    clear hv
    obtain ⟨Stc0, Stc1, Stc2, Stc3, Stc4, Stc5, Stc6, Stc7, Stc8, Stc9, Stc10, Stc11, Stc12, Stf0, Stf1, Stf2, Stf3, Stf4, Stf5, Stf6, Stf7, Stf8, Stf9, Stf10, Stf11, Stf12⟩ := c13_of HSt6.out.blk
    go_wp2_with fail
    clear Stc0 Stc1 Stc2 Stc3 Stc4 Stc5 Stc6 Stc7 Stc8 Stc9 Stc10 Stc11 Stc12 Stf0 Stf1 Stf2 Stf3 Stf4 Stf5 Stf6 Stf7 Stf8 Stf9 Stf10 Stf11 Stf12
    cases hi : PM.is [111, 114, 100, 101, 114] s4
    · have HI := Lib.hid hi
      clear hi
      go_wp2_with fail
      refine (skips_no P g s4 [111, 114, 100, 101, 114] _ (HD6.out.set (by omega)).pr HI.out).mono ?_
      rintro e w7 ⟨rfl, h7, hf7⟩
      have HI7 := Lib.hid HI.out
      have HD7 : Hid (Bd w P g w7 s4) := Lib.hid ((HD6.out.set (by omega)).call h7 hf7)
      have HR7 : Hid (Ow w w7 w.heap.size 29 [.int .i64 0, .string ⟨#[]⟩, .string ⟨#[]⟩, .slice none 0 0, .slice none 0 0, .slice none 0 0, .slice none 0 0, .string ⟨#[]⟩, .slice none 0 0, .slice none 0 0, .slice none 0 0, .bool false, .slice none 0 0]) := Lib.hid ((HR6.out.other (by omega)).call HPL.out hf7)
      have HSt7 : Hid (Ow w w7 (w.heap.size + 1) 29 [.int .i64 6, (.string ⟨tn.toArray⟩), .string ⟨#[]⟩, .slice none 0 0, .slice none 0 0, .slice none 0 0, (.slice ita itl itc), .string ⟨#[]⟩, .slice none 0 0, (.slice wha whl whc), .slice none 0 0, .bool false, .slice none 0 0]) := Lib.hid ((HSt6.out.set 9 (.slice wha whl whc)).call HPL.out hf7)
      have HMi7 := Lib.hid (FlatS.keep hf7 (fun b hb => by simp <;> omega) (FlatS.keep ((Fr.refl [some (w.heap.size + 1)] w6).setCell (p := ⟨w.heap.size + 1, 9, none⟩) (.inl (by simp)) (.slice wha whl whc)) (fun b hb => by simp <;> omega) HMi6.out))
      have HH7 := Lib.hid (Rep.Es.keep hf7 (fun b hb => by simp <;> omega) (Rep.Es.keep ((Fr.refl [some (w.heap.size + 1)] w6).setCell (p := ⟨w.heap.size + 1, 9, none⟩) (.inl (by simp)) (.slice wha whl whc)) (fun b hb => by simp <;> omega) HH6.out))
      have hs7 := hf7.size
      simp only [World.size_setCell] at hs7
      have hlR7 := HR7.out.lt
      have hlSt7 := HSt7.out.lt
      have hp7 := HD7.out.pr.lt
      clear h7 hf7
      have HM : Hid (PM.selects n s = (.mk 6 tn [] [] [] [] it [] [] wh [] false [], s4)) := Lib.hid (by simp only [PM.selects, HI1.out, HQ2.out, HQ3.out, HQ4.out, HI5.out, HQ6.out, HI7.out, if_false, Bool.false_eq_true, eq_self])
      have hnRSt : ¬ w.heap.size = w.heap.size + 1 := by omega
      have hnStR : ¬ w.heap.size + 1 = w.heap.size := by omega
      obtain ⟨Stc0, Stc1, Stc2, Stc3, Stc4, Stc5, Stc6, Stc7, Stc8, Stc9, Stc10, Stc11, Stc12, Stf0, Stf1, Stf2, Stf3, Stf4, Stf5, Stf6, Stf7, Stf8, Stf9, Stf10, Stf11, Stf12⟩ := c13_of HSt7.out.blk
      obtain ⟨Rc0, Rc1, Rc2, Rc3, Rc4, Rc5, Rc6, Rc7, Rc8, Rc9, Rc10, Rc11, Rc12, Rf0, Rf1, Rf2, Rf3, Rf4, Rf5, Rf6, Rf7, Rf8, Rf9, Rf10, Rf11, Rf12⟩ := c13_of HR7.out.blk
      go_wp2_with fail
      refine bodyPost_ret (ret_cell13 rfl _ w.heap.size rfl _ _ _ _ _ _ _ _ _ _ _ _ _ _ (blkPut13 HR7.out.blk _ _ _ _ _ _ _ _ _ _ _ _ _)) rfl ?_
      rw [HM.out]
      exact ⟨⟨_, rfl, .mk _ _ _ _ _ _ _ _ _ _ _ _ _ _ _ _ _ _ _ _ _ .nil .nil Rep.Es.nil (FlatS.mono (A' := fun b => w.heap.size ≤ b) (fun b hb => by omega) (FlatS.keep (frPut13 (Fr.refl [some w.heap.size] w7) (.inl (by simp)) _ _ _ _ _ _ _ _ _ _ _ _ _) (fun b hb => by simp; omega) HMi7.out)) Rep.Es.nil (Rep.Es.mono (A' := fun b => w.heap.size ≤ b) (fun b hb => by omega) (Rep.Es.keep (frPut13 (Fr.refl [some w.heap.size] w7) (.inl (by simp)) _ _ _ _ _ _ _ _ _ _ _ _ _) (fun b hb => by simp; omega) HH7.out)) Rep.Es.nil SS.nil⟩, (HD7.out.pr.keep (frPut13 (Fr.refl [some w.heap.size] _) (.inl (by simp)) _ _ _ _ _ _ _ _ _ _ _ _ _) (by simp; omega) (by simp; omega)), (frPut13 HD7.out.fr (.inr HR7.out.ge) _ _ _ _ _ _ _ _ _ _ _ _ _)⟩
    · have HI := Lib.hid hi
      clear hi
      go_wp2_with fail
      refine (skips_yes P g s4 [111, 114, 100, 101, 114] _ (HD6.out.set (by omega)).pr HI.out).mono ?_
      rintro e w7 ⟨rfl, h7, hf7⟩
      have hi7 := HI.out
      obtain ⟨s5, hq7⟩ : ∃ x, PM.skip s4 = x := ⟨_, rfl⟩
      rw [hq7] at h7
      have HQ7 := Lib.hid hq7
      have HI7 := Lib.hid hi7
      clear hq7 hi7
      have HD7 : Hid (Bd w P g w7 s5) := Lib.hid ((HD6.out.set (by omega)).call h7 hf7)
      have HR7 : Hid (Ow w w7 w.heap.size 29 [.int .i64 0, .string ⟨#[]⟩, .string ⟨#[]⟩, .slice none 0 0, .slice none 0 0, .slice none 0 0, .slice none 0 0, .string ⟨#[]⟩, .slice none 0 0, .slice none 0 0, .slice none 0 0, .bool false, .slice none 0 0]) := Lib.hid ((HR6.out.other (by omega)).call HPL.out hf7)
      have HSt7 : Hid (Ow w w7 (w.heap.size + 1) 29 [.int .i64 6, (.string ⟨tn.toArray⟩), .string ⟨#[]⟩, .slice none 0 0, .slice none 0 0, .slice none 0 0, (.slice ita itl itc), .string ⟨#[]⟩, .slice none 0 0, (.slice wha whl whc), .slice none 0 0, .bool false, .slice none 0 0]) := Lib.hid ((HSt6.out.set 9 (.slice wha whl whc)).call HPL.out hf7)
      have HMi7 := Lib.hid (FlatS.keep hf7 (fun b hb => by simp <;> omega) (FlatS.keep ((Fr.refl [some (w.heap.size + 1)] w6).setCell (p := ⟨w.heap.size + 1, 9, none⟩) (.inl (by simp)) (.slice wha whl whc)) (fun b hb => by simp <;> omega) HMi6.out))
      have HH7 := Lib.hid (Rep.Es.keep hf7 (fun b hb => by simp <;> omega) (Rep.Es.keep ((Fr.refl [some (w.heap.size + 1)] w6).setCell (p := ⟨w.heap.size + 1, 9, none⟩) (.inl (by simp)) (.slice wha whl whc)) (fun b hb => by simp <;> omega) HH6.out))
      have hs7 := hf7.size
      simp only [World.size_setCell] at hs7
      have hlR7 := HR7.out.lt
      have hlSt7 := HSt7.out.lt
      have hp7 := HD7.out.pr.lt
      clear h7 hf7
      have HG7 : Hid (PM.Le s5 s) := Lib.hid (HG6.out.calm PM.calm_skip HQ7.out)
      go_wp2_with fail
      refine (needs_new (n := w7.heap.size) HD7.out.pr [[98, 121]] (by decide) (by simp)).mono ?_
      rintro e w8 ⟨rfl, h8, hf8⟩
      obtain ⟨s6, hq8⟩ : ∃ x, PM.needs [[98, 121]] s5 = x := ⟨_, rfl⟩
      rw [hq8] at h8
      have HQ8 := Lib.hid hq8
      clear hq8
      have HD8 : Hid (Bd w P g w8 s6) := Lib.hid ((HD7.out.alloc _).call h8 hf8)
      have HR8 : Hid (Ow w w8 w.heap.size 29 [.int .i64 0, .string ⟨#[]⟩, .string ⟨#[]⟩, .slice none 0 0, .slice none 0 0, .slice none 0 0, .slice none 0 0, .string ⟨#[]⟩, .slice none 0 0, .slice none 0 0, .slice none 0 0, .bool false, .slice none 0 0]) := Lib.hid ((HR7.out.alloc _).call HPL.out hf8)
      have HSt8 : Hid (Ow w w8 (w.heap.size + 1) 29 [.int .i64 6, (.string ⟨tn.toArray⟩), .string ⟨#[]⟩, .slice none 0 0, .slice none 0 0, .slice none 0 0, (.slice ita itl itc), .string ⟨#[]⟩, .slice none 0 0, (.slice wha whl whc), .slice none 0 0, .bool false, .slice none 0 0]) := Lib.hid ((HSt7.out.alloc _).call HPL.out hf8)
      have HMi8 := Lib.hid (FlatS.keep hf8 (fun b hb => by simp <;> omega) (FlatS.keep ((Fr.refl [] w7).alloc _) (fun b hb => by simp <;> omega) HMi7.out))
      have HH8 := Lib.hid (Rep.Es.keep hf8 (fun b hb => by simp <;> omega) (Rep.Es.keep ((Fr.refl [] w7).alloc _) (fun b hb => by simp <;> omega) HH7.out))
      have hs8 := hf8.size
      simp only [World.size_alloc] at hs8
      have hlR8 := HR8.out.lt
      have hlSt8 := HSt8.out.lt
      have hp8 := HD8.out.pr.lt
      clear h8 hf8
      have HG8 : Hid (PM.Le s6 s) := Lib.hid (HG7.out.calm (PM.calm_needs [[98, 121]]) HQ8.out)
      obtain ⟨ddx, s7, hq9⟩ : ∃ a b, PM.column s6 = (a, b) := ⟨_, _, rfl⟩
      have HQ9 := Lib.hid hq9
      clear hq9
      go_wp2_with fail
      refine (column' HD8.out.pr HQ9.out).mono ?_
      rintro e w9 ⟨hx, h9, hf9⟩
      obtain ⟨ddo, ddk, ddi, ddz, ddt, ddn, dda, dde, ddc, rfl, hrep⟩ := ex_cells hx
      clear hx
      have HD9 : Hid (Bd w P g w9 s7) := Lib.hid (HD8.out.call h9 hf9)
      have HR9 : Hid (Ow w w9 w.heap.size 29 [.int .i64 0, .string ⟨#[]⟩, .string ⟨#[]⟩, .slice none 0 0, .slice none 0 0, .slice none 0 0, .slice none 0 0, .string ⟨#[]⟩, .slice none 0 0, .slice none 0 0, .slice none 0 0, .bool false, .slice none 0 0]) := Lib.hid (HR8.out.call HPL.out hf9)
      have HSt9 : Hid (Ow w w9 (w.heap.size + 1) 29 [.int .i64 6, (.string ⟨tn.toArray⟩), .string ⟨#[]⟩, .slice none 0 0, .slice none 0 0, .slice none 0 0, (.slice ita itl itc), .string ⟨#[]⟩, .slice none 0 0, (.slice wha whl whc), .slice none 0 0, .bool false, .slice none 0 0]) := Lib.hid (HSt8.out.call HPL.out hf9)
      have HMi9 := Lib.hid (FlatS.keep hf9 (fun b hb => by simp <;> omega) HMi8.out)
      have HH9 := Lib.hid (Rep.Es.keep hf9 (fun b hb => by simp <;> omega) HH8.out)
      have hs9 := hf9.size
      have hlR9 := HR9.out.lt
      have hlSt9 := HSt9.out.lt
      have hp9 := HD9.out.pr.lt
      clear h9 hf9
      have HG9 : Hid (PM.Le s7 s) := Lib.hid (HG8.out.good PM.good_column HQ9.out)
      have Hdd9 := Lib.hid (Rep.E.mono (A' := fun b => w.heap.size + 1 < b) (fun b hb => by first | omega | (simp at hb; omega)) hrep)
      clear hrep
      obtain ⟨Stc0, Stc1, Stc2, Stc3, Stc4, Stc5, Stc6, Stc7, Stc8, Stc9, Stc10, Stc11, Stc12, Stf0, Stf1, Stf2, Stf3, Stf4, Stf5, Stf6, Stf7, Stf8, Stf9, Stf10, Stf11, Stf12⟩ := c13_of HSt9.out.blk
      have HOdn : Hid (Rep.Es 82 (fun b => w.heap.size + 1 < b) ((w9.setCell ⟨w.heap.size + 1, 10, none⟩ (.slice (some ⟨w9.heap.size, 0, none⟩) 1 1)).alloc (.cells #[.int .i64 ddo, .int .i64 ddk, .int .i64 ddi, .string ⟨ddz.toArray⟩, .string ⟨ddt.toArray⟩, .string ⟨ddn.toArray⟩, .slice dda dde ddc] 82)) [ddx] (.slice (some ⟨w9.heap.size, 0, none⟩) 1 1)) := Lib.hid (es_set_new (Rep.L.cons _ _ _ _ Hdd9.out .nil) (fun g hg => by omega) (by omega) (by simp [maxLen]))
      obtain ⟨dsc, s8, hq10⟩ : ∃ a b, PM.skips [100, 101, 115, 99] s7 = (a, b) := ⟨_, _, rfl⟩
      have HQ10 := Lib.hid hq10
      clear hq10
      go_wp2_with fail
      refine (skips_pair P g s7 [100, 101, 115, 99] _ ((HD9.out.set (by omega)).alloc _).pr HQ10.out).mono ?_
      rintro e w10 ⟨rfl, h10, hf10⟩
      have HD10 : Hid (Bd w P g w10 s8) := Lib.hid (((HD9.out.set (by omega)).alloc _).call h10 hf10)
      have HR10 : Hid (Ow w w10 w.heap.size 29 [.int .i64 0, .string ⟨#[]⟩, .string ⟨#[]⟩, .slice none 0 0, .slice none 0 0, .slice none 0 0, .slice none 0 0, .string ⟨#[]⟩, .slice none 0 0, .slice none 0 0, .slice none 0 0, .bool false, .slice none 0 0]) := Lib.hid (((HR9.out.other (by omega)).alloc _).call HPL.out hf10)
      have HSt10 : Hid (Ow w w10 (w.heap.size + 1) 29 [.int .i64 6, (.string ⟨tn.toArray⟩), .string ⟨#[]⟩, .slice none 0 0, .slice none 0 0, .slice none 0 0, (.slice ita itl itc), .string ⟨#[]⟩, .slice none 0 0, (.slice wha whl whc), (.slice (some ⟨w9.heap.size, 0, none⟩) 1 1), .bool false, .slice none 0 0]) := Lib.hid (((HSt9.out.set 10 (.slice (some ⟨w9.heap.size, 0, none⟩) 1 1)).alloc _).call HPL.out hf10)
      have HMi10 := Lib.hid (FlatS.keep hf10 (fun b hb => by simp <;> omega) (FlatS.keep (((Fr.refl [some (w.heap.size + 1)] w9).setCell (p := ⟨w.heap.size + 1, 10, none⟩) (.inl (by simp)) (.slice (some ⟨w9.heap.size, 0, none⟩) 1 1)).alloc _) (fun b hb => by simp <;> omega) HMi9.out))
      have HH10 := Lib.hid (Rep.Es.keep hf10 (fun b hb => by simp <;> omega) (Rep.Es.keep (((Fr.refl [some (w.heap.size + 1)] w9).setCell (p := ⟨w.heap.size + 1, 10, none⟩) (.inl (by simp)) (.slice (some ⟨w9.heap.size, 0, none⟩) 1 1)).alloc _) (fun b hb => by simp <;> omega) HH9.out))
      have HOd10 := Lib.hid (Rep.Es.keep hf10 (fun b hb => by simp <;> omega) HOdn.out)
      have hs10 := hf10.size
      simp only [World.size_alloc, World.size_setCell] at hs10
      have hlR10 := HR10.out.lt
      have hlSt10 := HSt10.out.lt
      have hp10 := HD10.out.pr.lt
      clear h10 hf10
      have HG10 : Hid (PM.Le s8 s) := Lib.hid (HG9.out.good (PM.good_skips _) HQ10.out)
      clear Stc0 Stf0 Stc1 Stf1 Stc2 Stf2 Stc3 Stf3 Stc4 Stf4 Stc5 Stf5 Stc6 Stf6 Stc7 Stf7 Stc8 Stf8 Stc9 Stf9 Stc10 Stf10 Stc11 Stf11 Stc12 Stf12
      obtain ⟨Stc0, Stc1, Stc2, Stc3, Stc4, Stc5, Stc6, Stc7, Stc8, Stc9, Stc10, Stc11, Stc12, Stf0, Stf1, Stf2, Stf3, Stf4, Stf5, Stf6, Stf7, Stf8, Stf9, Stf10, Stf11, Stf12⟩ := c13_of HSt10.out.blk
      clear Stc0 Stc1 Stc2 Stc3 Stc4 Stc5 Stc6 Stc7 Stc8 Stc9 Stc10 Stc11 Stc12 Stf0 Stf1 Stf2 Stf3 Stf4 Stf5 Stf6 Stf7 Stf8 Stf9 Stf10 Stf11 Stf12
      have HM : Hid (PM.selects n s = (.mk 6 tn [] [] [] [] it [] [] wh [ddx] dsc [], s8)) := Lib.hid (by simp only [PM.selects, HI1.out, HQ2.out, HQ3.out, HQ4.out, HI5.out, HQ6.out, HI7.out, HQ7.out, HQ8.out, HQ9.out, HQ10.out, if_true, if_false, Bool.false_eq_true, eq_self])
      have hnRSt : ¬ w.heap.size = w.heap.size + 1 := by omega
      have hnStR : ¬ w.heap.size + 1 = w.heap.size := by omega
      obtain ⟨Stc0, Stc1, Stc2, Stc3, Stc4, Stc5, Stc6, Stc7, Stc8, Stc9, Stc10, Stc11, Stc12, Stf0, Stf1, Stf2, Stf3, Stf4, Stf5, Stf6, Stf7, Stf8, Stf9, Stf10, Stf11, Stf12⟩ := c13_of HSt10.out.blk
      obtain ⟨Rc0, Rc1, Rc2, Rc3, Rc4, Rc5, Rc6, Rc7, Rc8, Rc9, Rc10, Rc11, Rc12, Rf0, Rf1, Rf2, Rf3, Rf4, Rf5, Rf6, Rf7, Rf8, Rf9, Rf10, Rf11, Rf12⟩ := c13_of HR10.out.blk
      go_wp2_with fail
      refine bodyPost_ret (ret_cell13 rfl _ w.heap.size rfl _ _ _ _ _ _ _ _ _ _ _ _ _ _ (blkPut13 (HR10.out.other (by omega)).blk _ _ _ _ _ _ _ _ _ _ _ _ _)) rfl ?_
      rw [HM.out]
      exact ⟨⟨_, rfl, .mk _ _ _ _ _ _ _ _ _ _ _ _ _ _ _ _ _ _ _ _ _ .nil .nil Rep.Es.nil (FlatS.mono (A' := fun b => w.heap.size ≤ b) (fun b hb => by omega) (FlatS.keep (frPut13 ((Fr.refl [some w.heap.size, some (w.heap.size + 1)] w10).setCell (p := ⟨w.heap.size + 1, 11, none⟩) (.inl (by simp)) (.bool dsc)) (.inl (by simp)) _ _ _ _ _ _ _ _ _ _ _ _ _) (fun b hb => by simp; omega) HMi10.out)) Rep.Es.nil (Rep.Es.mono (A' := fun b => w.heap.size ≤ b) (fun b hb => by omega) (Rep.Es.keep (frPut13 ((Fr.refl [some w.heap.size, some (w.heap.size + 1)] w10).setCell (p := ⟨w.heap.size + 1, 11, none⟩) (.inl (by simp)) (.bool dsc)) (.inl (by simp)) _ _ _ _ _ _ _ _ _ _ _ _ _) (fun b hb => by simp; omega) HH10.out)) (Rep.Es.mono (A' := fun b => w.heap.size ≤ b) (fun b hb => by omega) (Rep.Es.keep (frPut13 ((Fr.refl [some w.heap.size, some (w.heap.size + 1)] w10).setCell (p := ⟨w.heap.size + 1, 11, none⟩) (.inl (by simp)) (.bool dsc)) (.inl (by simp)) _ _ _ _ _ _ _ _ _ _ _ _ _) (fun b hb => by simp; omega) HOd10.out)) SS.nil⟩, ((HD10.out.set (by omega)).pr.keep (frPut13 (Fr.refl [some w.heap.size] _) (.inl (by simp)) _ _ _ _ _ _ _ _ _ _ _ _ _) (by simp; omega) (by simp; omega)), (frPut13 (HD10.out.set (by omega)).fr (.inr HR10.out.ge) _ _ _ _ _ _ _ _ _ _ _ _ _)⟩
  · have HI := Lib.hid hi
    clear hi
    go_wp2_with fail
    refine (skips_yes P g s3 [106, 111, 105, 110] _ (HD4.out.set (by omega)).pr HI.out).mono ?_
    rintro e w5 ⟨rfl, h5, hf5⟩
    have hi5 := HI.out
    obtain ⟨s4, hq5⟩ : ∃ x, PM.skip s3 = x := ⟨_, rfl⟩
    rw [hq5] at h5
    have HQ5 := Lib.hid hq5
    have HI5 := Lib.hid hi5
    clear hq5 hi5
    have HD5 : Hid (Bd w P g w5 s4) := Lib.hid ((HD4.out.set (by omega)).call h5 hf5)
    have HR5 : Hid (Ow w w5 w.heap.size 29 [.int .i64 0, .string ⟨#[]⟩, .string ⟨#[]⟩, .slice none 0 0, .slice none 0 0, .slice none 0 0, .slice none 0 0, .string ⟨#[]⟩, .slice none 0 0, .slice none 0 0, .slice none 0 0, .bool false, .slice none 0 0]) := Lib.hid ((HR4.out.other (by omega)).call HPL.out hf5)
    have HSt5 : Hid (Ow w w5 (w.heap.size + 1) 29 [.int .i64 6, (.string ⟨tn.toArray⟩), .string ⟨#[]⟩, .slice none 0 0, .slice none 0 0, .slice none 0 0, (.slice ita itl itc), .string ⟨#[]⟩, .slice none 0 0, .slice none 0 0, .slice none 0 0, .bool false, .slice none 0 0]) := Lib.hid ((HSt4.out.set 1 (.string ⟨tn.toArray⟩)).call HPL.out hf5)
    have HMi5 := Lib.hid (FlatS.keep hf5 (fun b hb => by simp <;> omega) (FlatS.keep ((Fr.refl [some (w.heap.size + 1)] w4).setCell (p := ⟨w.heap.size + 1, 1, none⟩) (.inl (by simp)) (.string ⟨tn.toArray⟩)) (fun b hb => by simp <;> omega) HMi4.out))
    have hs5 := hf5.size
    simp only [World.size_setCell] at hs5
    have hlR5 := HR5.out.lt
    have hlSt5 := HSt5.out.lt
    have hp5 := HD5.out.pr.lt
    clear h5 hf5
    have HG5 : Hid (PM.Le s4 s) := Lib.hid (HG4.out.calm PM.calm_skip HQ5.out)
    go_wp2_with fail
    refine (name_any P g s4 _ HD5.out.pr).mono ?_
    rintro e w6 ⟨rfl, h6, hf6⟩
    obtain ⟨jn, s5, hq6⟩ : ∃ a b, PM.name s4 = (a, b) := ⟨_, _, rfl⟩
    rw [hq6] at h6 ⊢
    have HQ6 := Lib.hid hq6
    clear hq6
    have HD6 : Hid (Bd w P g w6 s5) := Lib.hid (HD5.out.call h6 hf6)
    have HR6 : Hid (Ow w w6 w.heap.size 29 [.int .i64 0, .string ⟨#[]⟩, .string ⟨#[]⟩, .slice none 0 0, .slice none 0 0, .slice none 0 0, .slice none 0 0, .string ⟨#[]⟩, .slice none 0 0, .slice none 0 0, .slice none 0 0, .bool false, .slice none 0 0]) := Lib.hid (HR5.out.call HPL.out hf6)
    have HSt6 : Hid (Ow w w6 (w.heap.size + 1) 29 [.int .i64 6, (.string ⟨tn.toArray⟩), .string ⟨#[]⟩, .slice none 0 0, .slice none 0 0, .slice none 0 0, (.slice ita itl itc), .string ⟨#[]⟩, .slice none 0 0, .slice none 0 0, .slice none 0 0, .bool false, .slice none 0 0]) := Lib.hid (HSt5.out.call HPL.out hf6)
    have HMi6 := Lib.hid (FlatS.keep hf6 (fun b hb => by simp <;> omega) HMi5.out)
    have hs6 := hf6.size
    have hlR6 := HR6.out.lt
    have hlSt6 := HSt6.out.lt
    have hp6 := HD6.out.pr.lt
    clear h6 hf6
    have HG6 : Hid (PM.Le s5 s) := Lib.hid (HG5.out.good PM.good_name HQ6.out)
    obtain ⟨Stc0, Stc1, Stc2, Stc3, Stc4, Stc5, Stc6, Stc7, Stc8, Stc9, Stc10, Stc11, Stc12, Stf0, Stf1, Stf2, Stf3, Stf4, Stf5, Stf6, Stf7, Stf8, Stf9, Stf10, Stf11, Stf12⟩ := c13_of HSt6.out.blk
    go_wp2_with fail
    refine (needs_new (n := w6.heap.size) (HD6.out.set (by omega)).pr [[111, 110]] (by decide) (by simp)).mono ?_
    rintro e w7 ⟨rfl, h7, hf7⟩
    obtain ⟨s6, hq7⟩ : ∃ x, PM.needs [[111, 110]] s5 = x := ⟨_, rfl⟩
    rw [hq7] at h7
    have HQ7 := Lib.hid hq7
    clear hq7
    have HD7 : Hid (Bd w P g w7 s6) := Lib.hid (((HD6.out.set (by omega)).alloc _).call h7 hf7)
    have HR7 : Hid (Ow w w7 w.heap.size 29 [.int .i64 0, .string ⟨#[]⟩, .string ⟨#[]⟩, .slice none 0 0, .slice none 0 0, .slice none 0 0, .slice none 0 0, .string ⟨#[]⟩, .slice none 0 0, .slice none 0 0, .slice none 0 0, .bool false, .slice none 0 0]) := Lib.hid (((HR6.out.other (by omega)).alloc _).call HPL.out hf7)
    have HSt7 : Hid (Ow w w7 (w.heap.size + 1) 29 [.int .i64 6, (.string ⟨tn.toArray⟩), .string ⟨#[]⟩, .slice none 0 0, .slice none 0 0, .slice none 0 0, (.slice ita itl itc), (.string ⟨jn.toArray⟩), .slice none 0 0, .slice none 0 0, .slice none 0 0, .bool false, .slice none 0 0]) := Lib.hid (((HSt6.out.set 7 (.string ⟨jn.toArray⟩)).alloc _).call HPL.out hf7)
    have HMi7 := Lib.hid (FlatS.keep hf7 (fun b hb => by simp <;> omega) (FlatS.keep (((Fr.refl [some (w.heap.size + 1)] w6).setCell (p := ⟨w.heap.size + 1, 7, none⟩) (.inl (by simp)) (.string ⟨jn.toArray⟩)).alloc _) (fun b hb => by simp <;> omega) HMi6.out))
    have hs7 := hf7.size
    simp only [World.size_alloc, World.size_setCell] at hs7
    have hlR7 := HR7.out.lt
    have hlSt7 := HSt7.out.lt
    have hp7 := HD7.out.pr.lt
    clear h7 hf7
    have HG7 : Hid (PM.Le s6 s) := Lib.hid (HG6.out.calm (PM.calm_needs [[111, 110]]) HQ7.out)
    clear Stc0 Stc1 Stc2 Stc3 Stc4 Stc5 Stc6 Stc7 Stc8 Stc9 Stc10 Stc11 Stc12 Stf0 Stf1 Stf2 Stf3 Stf4 Stf5 Stf6 Stf7 Stf8 Stf9 Stf10 Stf11 Stf12
    obtain ⟨lx, s7, hq8⟩ : ∃ a b, PM.column s6 = (a, b) := ⟨_, _, rfl⟩
    have HQ8 := Lib.hid hq8
    clear hq8
    go_wp2_with fail
    refine (column' HD7.out.pr HQ8.out).mono ?_
    rintro e w8 ⟨hx, h8, hf8⟩
    obtain ⟨lo, lk, li, lz, lt, ln, la, le, lc, rfl, hrep⟩ := ex_cells hx
    clear hx
    have HD8 : Hid (Bd w P g w8 s7) := Lib.hid (HD7.out.call h8 hf8)
    have HR8 : Hid (Ow w w8 w.heap.size 29 [.int .i64 0, .string ⟨#[]⟩, .string ⟨#[]⟩, .slice none 0 0, .slice none 0 0, .slice none 0 0, .slice none 0 0, .string ⟨#[]⟩, .slice none 0 0, .slice none 0 0, .slice none 0 0, .bool false, .slice none 0 0]) := Lib.hid (HR7.out.call HPL.out hf8)
    have HSt8 : Hid (Ow w w8 (w.heap.size + 1) 29 [.int .i64 6, (.string ⟨tn.toArray⟩), .string ⟨#[]⟩, .slice none 0 0, .slice none 0 0, .slice none 0 0, (.slice ita itl itc), (.string ⟨jn.toArray⟩), .slice none 0 0, .slice none 0 0, .slice none 0 0, .bool false, .slice none 0 0]) := Lib.hid (HSt7.out.call HPL.out hf8)
    have HMi8 := Lib.hid (FlatS.keep hf8 (fun b hb => by simp <;> omega) HMi7.out)
    have hs8 := hf8.size
    have hlR8 := HR8.out.lt
    have hlSt8 := HSt8.out.lt
    have hp8 := HD8.out.pr.lt
    clear h8 hf8
    have HG8 : Hid (PM.Le s7 s) := Lib.hid (HG7.out.good PM.good_column HQ8.out)
    have Hl8 := Lib.hid (Rep.E.mono (A' := fun b => w.heap.size + 1 < b) (fun b hb => by first | omega | (simp at hb; omega)) hrep)
    clear hrep
    go_wp2_with fail
    refine (needs_new (n := w8.heap.size + 1) (HD8.out.alloc _).pr [[61]] (by decide) (by simp)).mono ?_
    rintro e w9 ⟨rfl, h9, hf9⟩
    obtain ⟨s8, hq9⟩ : ∃ x, PM.needs [[61]] s7 = x := ⟨_, rfl⟩
    rw [hq9] at h9
    have HQ9 := Lib.hid hq9
    clear hq9
    have HD9 : Hid (Bd w P g w9 s8) := Lib.hid (((HD8.out.alloc _).alloc _).call h9 hf9)
    have HR9 : Hid (Ow w w9 w.heap.size 29 [.int .i64 0, .string ⟨#[]⟩, .string ⟨#[]⟩, .slice none 0 0, .slice none 0 0, .slice none 0 0, .slice none 0 0, .string ⟨#[]⟩, .slice none 0 0, .slice none 0 0, .slice none 0 0, .bool false, .slice none 0 0]) := Lib.hid (((HR8.out.alloc _).alloc _).call HPL.out hf9)
    have HSt9 : Hid (Ow w w9 (w.heap.size + 1) 29 [.int .i64 6, (.string ⟨tn.toArray⟩), .string ⟨#[]⟩, .slice none 0 0, .slice none 0 0, .slice none 0 0, (.slice ita itl itc), (.string ⟨jn.toArray⟩), .slice none 0 0, .slice none 0 0, .slice none 0 0, .bool false, .slice none 0 0]) := Lib.hid (((HSt8.out.alloc _).alloc _).call HPL.out hf9)
    have HL9 : Hid (Ow w w9 w8.heap.size 82 [.int .i64 lo, .int .i64 lk, .int .i64 li, .string ⟨lz.toArray⟩, .string ⟨lt.toArray⟩, .string ⟨ln.toArray⟩, .slice la le lc]) := Lib.hid (((Ow.new (by omega) 82 [.int .i64 lo, .int .i64 lk, .int .i64 li, .string ⟨lz.toArray⟩, .string ⟨lt.toArray⟩, .string ⟨ln.toArray⟩, .slice la le lc]).alloc _).call HPL.out hf9)
    have HMi9 := Lib.hid (FlatS.keep hf9 (fun b hb => by simp <;> omega) (FlatS.keep (((Fr.refl [] w8).alloc _).alloc _) (fun b hb => by simp <;> omega) HMi8.out))
    have Hl9 := Lib.hid (Rep.E.keep hf9 (fun b hb => by simp <;> omega) (Rep.E.keep (((Fr.refl [] w8).alloc _).alloc _) (fun b hb => by simp <;> omega) Hl8.out))
    have hs9 := hf9.size
    simp only [World.size_alloc] at hs9
    have hlR9 := HR9.out.lt
    have hlSt9 := HSt9.out.lt
    have hlL9 := HL9.out.lt
    have hp9 := HD9.out.pr.lt
    clear h9 hf9
    have HG9 : Hid (PM.Le s8 s) := Lib.hid (HG8.out.calm (PM.calm_needs [[61]]) HQ9.out)
    obtain ⟨Stc0, Stc1, Stc2, Stc3, Stc4, Stc5, Stc6, Stc7, Stc8, Stc9, Stc10, Stc11, Stc12, Stf0, Stf1, Stf2, Stf3, Stf4, Stf5, Stf6, Stf7, Stf8, Stf9, Stf10, Stf11, Stf12⟩ := c13_of HSt9.out.blk
    obtain ⟨Lc0, Lc1, Lc2, Lc3, Lc4, Lc5, Lc6, Lf0, Lf1, Lf2, Lf3, Lf4, Lf5, Lf6⟩ := c7_of HL9.out.blk
    have hnRSt : ¬ w.heap.size = w.heap.size + 1 := by omega
    have hnRL : ¬ w.heap.size = w8.heap.size := by omega
    have hnStR : ¬ w.heap.size + 1 = w.heap.size := by omega
    have hnStL : ¬ w.heap.size + 1 = w8.heap.size := by omega
    have hnLR : ¬ w8.heap.size = w.heap.size := by omega
    have hnLSt : ¬ w8.heap.size = w.heap.size + 1 := by omega
    go_wp2_with fail
    obtain ⟨rx, s9, hqr⟩ : ∃ a b, PM.column s8 = (a, b) := ⟨_, _, rfl⟩
    have HQR := Lib.hid hqr
    clear hqr
    have HCR := Lib.hid (column' (HD9.out.drew).pr HQR.out)
    go_region_with (
      go_at_call 108
      refine (HCR.out).mono ?_
      rintro e w10 ⟨hx, h10, hf10⟩
      obtain ⟨ro, rk, ri, rz, rt, rn, ra, re, rc, rfl, hrep⟩ := ex_cells hx
      clear hx
      have HD10 : Hid (Bd w P g w10 s9) := Lib.hid ((HD9.out.drew).call h10 hf10)
      have HR10 : Hid (Ow w w10 w.heap.size 29 [.int .i64 0, .string ⟨#[]⟩, .string ⟨#[]⟩, .slice none 0 0, .slice none 0 0, .slice none 0 0, .slice none 0 0, .string ⟨#[]⟩, .slice none 0 0, .slice none 0 0, .slice none 0 0, .bool false, .slice none 0 0]) := Lib.hid ((HR9.out.drew).call HPL.out hf10)
      have HSt10 : Hid (Ow w w10 (w.heap.size + 1) 29 [.int .i64 6, (.string ⟨tn.toArray⟩), .string ⟨#[]⟩, .slice none 0 0, .slice none 0 0, .slice none 0 0, (.slice ita itl itc), (.string ⟨jn.toArray⟩), .slice none 0 0, .slice none 0 0, .slice none 0 0, .bool false, .slice none 0 0]) := Lib.hid ((HSt9.out.drew).call HPL.out hf10)
      have HL10 : Hid (Ow w w10 w8.heap.size 82 [.int .i64 lo, .int .i64 lk, .int .i64 li, .string ⟨lz.toArray⟩, .string ⟨lt.toArray⟩, .string ⟨ln.toArray⟩, .slice la le lc]) := Lib.hid ((HL9.out.drew).call HPL.out hf10)
      have HMi10 := Lib.hid (FlatS.keep hf10 (fun b hb => by simp <;> omega) (FlatS.keep ((Fr.refl [] w9).drew) (fun b hb => by simp <;> omega) HMi9.out))
      have Hl10 := Lib.hid (Rep.E.keep hf10 (fun b hb => by simp <;> omega) (Rep.E.keep ((Fr.refl [] w9).drew) (fun b hb => by simp <;> omega) Hl9.out))
      have hs10 := hf10.size
      simp only [World.size_drew] at hs10
      have hlR10 := HR10.out.lt
      have hlSt10 := HSt10.out.lt
      have hlL10 := HL10.out.lt
      have hp10 := HD10.out.pr.lt
      clear h10 hf10
      have HG10 : Hid (PM.Le s9 s) := Lib.hid (HG9.out.good PM.good_column HQR.out)
      have Hr10 := Lib.hid (Rep.E.mono (A' := fun b => w.heap.size + 1 < b) (fun b hb => by first | omega | (simp at hb; omega)) hrep)
      clear hrep
      obtain ⟨Std0, Std1, Std2, Std3, Std4, Std5, Std6, Std7, Std8, Std9, Std10, Std11, Std12, Stg0, Stg1, Stg2, Stg3, Stg4, Stg5, Stg6, Stg7, Stg8, Stg9, Stg10, Stg11, Stg12⟩ := c13_of HSt10.out.blk
      obtain ⟨Ld0, Ld1, Ld2, Ld3, Ld4, Ld5, Ld6, Lg0, Lg1, Lg2, Lg3, Lg4, Lg5, Lg6⟩ := c7_of HL10.out.blk)
    all_goals
      have HOn : Hid (Rep.Es 82 (fun b => w.heap.size + 1 < b) ((w10.setCell ⟨w.heap.size + 1, 8, none⟩ (.slice (some ⟨w10.heap.size, 0, none⟩) 2 2)).alloc (.cells #[.int .i64 lo, .int .i64 lk, .int .i64 li, .string ⟨lz.toArray⟩, .string ⟨lt.toArray⟩, .string ⟨ln.toArray⟩, .slice la le lc, .int .i64 ro, .int .i64 rk, .int .i64 ri, .string ⟨rz.toArray⟩, .string ⟨rt.toArray⟩, .string ⟨rn.toArray⟩, .slice ra re rc] 82)) [lx, rx] (.slice (some ⟨w10.heap.size, 0, none⟩) 2 2)) := Lib.hid (es_set_new (Rep.L.cons _ _ _ _ Hl10.out (Rep.L.cons _ _ _ _ Hr10.out .nil)) (fun g hg => by omega) (by omega) (by simp [maxLen]))
      clear Stc0 Stf0 Std0 Stg0 Stc1 Stf1 Std1 Stg1 Stc2 Stf2 Std2 Stg2 Stc3 Stf3 Std3 Stg3 Stc4 Stf4 Std4 Stg4 Stc5 Stf5 Std5 Stg5 Stc6 Stf6 Std6 Stg6 Stc7 Stf7 Std7 Stg7 Stc8 Stf8 Std8 Stg8 Stc9 Stf9 Std9 Stg9 Stc10 Stf10 Std10 Stg10 Stc11 Stf11 Std11 Stg11 Stc12 Stf12 Std12 Stg12 Lc0 Lf0 Ld0 Lg0 Lc1 Lf1 Ld1 Lg1 Lc2 Lf2 Ld2 Lg2 Lc3 Lf3 Ld3 Lg3 Lc4 Lf4 Ld4 Lg4 Lc5 Lf5 Ld5 Lg5 Lc6 Lf6 Ld6 Lg6
      obtain ⟨wh, s10, hq11⟩ : ∃ a b, PM.wheres n s9 = (a, b) := ⟨_, _, rfl⟩
      have HQ11 := Lib.hid hq11
      clear hq11
      go_wp2_with fail
      refine (where' n ((HD10.out.set (by omega)).alloc _).pr (by have := HG10.out.1; have := HN.out; omega) (by have := HG10.out.1; have := HN.out; omega) (by have := HG10.out.2; have := HN.out; omega) HQ11.out).mono ?_
      rintro e w11 ⟨⟨wha, whl, whc, rfl, hv⟩, h11, hf11⟩
      have HD11 : Hid (Bd w P g w11 s10) := Lib.hid (((HD10.out.set (by omega)).alloc _).call h11 hf11)
      have HR11 : Hid (Ow w w11 w.heap.size 29 [.int .i64 0, .string ⟨#[]⟩, .string ⟨#[]⟩, .slice none 0 0, .slice none 0 0, .slice none 0 0, .slice none 0 0, .string ⟨#[]⟩, .slice none 0 0, .slice none 0 0, .slice none 0 0, .bool false, .slice none 0 0]) := Lib.hid (((HR10.out.other (by omega)).alloc _).call HPL.out hf11)
      have HSt11 : Hid (Ow w w11 (w.heap.size + 1) 29 [.int .i64 6, (.string ⟨tn.toArray⟩), .string ⟨#[]⟩, .slice none 0 0, .slice none 0 0, .slice none 0 0, (.slice ita itl itc), (.string ⟨jn.toArray⟩), (.slice (some ⟨w10.heap.size, 0, none⟩) 2 2), .slice none 0 0, .slice none 0 0, .bool false, .slice none 0 0]) := Lib.hid (((HSt10.out.set 8 (.slice (some ⟨w10.heap.size, 0, none⟩) 2 2)).alloc _).call HPL.out hf11)
      have HMi11 := Lib.hid (FlatS.keep hf11 (fun b hb => by simp <;> omega) (FlatS.keep (((Fr.refl [some (w.heap.size + 1)] w10).setCell (p := ⟨w.heap.size + 1, 8, none⟩) (.inl (by simp)) (.slice (some ⟨w10.heap.size, 0, none⟩) 2 2)).alloc _) (fun b hb => by simp <;> omega) HMi10.out))
      have HO11 := Lib.hid (Rep.Es.keep hf11 (fun b hb => by simp <;> omega) HOn.out)
      have hs11 := hf11.size
      simp only [World.size_alloc, World.size_setCell] at hs11
      have hlR11 := HR11.out.lt
      have hlSt11 := HSt11.out.lt
      have hp11 := HD11.out.pr.lt
      clear h11 hf11
      have HG11 : Hid (PM.Le s10 s) := Lib.hid (HG10.out.good (PM.good_wheres n) HQ11.out)
      have HH11 := Lib.hid (Rep.Es.mono (A' := fun b => w.heap.size + 1 < b) (fun b hb => by first | omega | (simp at hb; omega)) hv)
      clear hv
      obtain ⟨Stc0, Stc1, Stc2, Stc3, Stc4, Stc5, Stc6, Stc7, Stc8, Stc9, Stc10, Stc11, Stc12, Stf0, Stf1, Stf2, Stf3, Stf4, Stf5, Stf6, Stf7, Stf8, Stf9, Stf10, Stf11, Stf12⟩ := c13_of HSt11.out.blk
      go_wp2_with fail
      clear Stc0 Stc1 Stc2 Stc3 Stc4 Stc5 Stc6 Stc7 Stc8 Stc9 Stc10 Stc11 Stc12 Stf0 Stf1 Stf2 Stf3 Stf4 Stf5 Stf6 Stf7 Stf8 Stf9 Stf10 Stf11 Stf12
      cases hi : PM.is [111, 114, 100, 101, 114] s10
      · have HI := Lib.hid hi
        clear hi
        go_wp2_with fail
        refine (skips_no P g s10 [111, 114, 100, 101, 114] _ (HD11.out.set (by omega)).pr HI.out).mono ?_
        rintro e w12 ⟨rfl, h12, hf12⟩
        have HI12 := Lib.hid HI.out
        have HD12 : Hid (Bd w P g w12 s10) := Lib.hid ((HD11.out.set (by omega)).call h12 hf12)
        have HR12 : Hid (Ow w w12 w.heap.size 29 [.int .i64 0, .string ⟨#[]⟩, .string ⟨#[]⟩, .slice none 0 0, .slice none 0 0, .slice none 0 0, .slice none 0 0, .string ⟨#[]⟩, .slice none 0 0, .slice none 0 0, .slice none 0 0, .bool false, .slice none 0 0]) := Lib.hid ((HR11.out.other (by omega)).call HPL.out hf12)
        have HSt12 : Hid (Ow w w12 (w.heap.size + 1) 29 [.int .i64 6, (.string ⟨tn.toArray⟩), .string ⟨#[]⟩, .slice none 0 0, .slice none 0 0, .slice none 0 0, (.slice ita itl itc), (.string ⟨jn.toArray⟩), (.slice (some ⟨w10.heap.size, 0, none⟩) 2 2), (.slice wha whl whc), .slice none 0 0, .bool false, .slice none 0 0]) := Lib.hid ((HSt11.out.set 9 (.slice wha whl whc)).call HPL.out hf12)
        have HMi12 := Lib.hid (FlatS.keep hf12 (fun b hb => by simp <;> omega) (FlatS.keep ((Fr.refl [some (w.heap.size + 1)] w11).setCell (p := ⟨w.heap.size + 1, 9, none⟩) (.inl (by simp)) (.slice wha whl whc)) (fun b hb => by simp <;> omega) HMi11.out))
        have HO12 := Lib.hid (Rep.Es.keep hf12 (fun b hb => by simp <;> omega) (Rep.Es.keep ((Fr.refl [some (w.heap.size + 1)] w11).setCell (p := ⟨w.heap.size + 1, 9, none⟩) (.inl (by simp)) (.slice wha whl whc)) (fun b hb => by simp <;> omega) HO11.out))
        have HH12 := Lib.hid (Rep.Es.keep hf12 (fun b hb => by simp <;> omega) (Rep.Es.keep ((Fr.refl [some (w.heap.size + 1)] w11).setCell (p := ⟨w.heap.size + 1, 9, none⟩) (.inl (by simp)) (.slice wha whl whc)) (fun b hb => by simp <;> omega) HH11.out))
        have hs12 := hf12.size
        simp only [World.size_setCell] at hs12
        have hlR12 := HR12.out.lt
        have hlSt12 := HSt12.out.lt
        have hp12 := HD12.out.pr.lt
        clear h12 hf12
        have HM : Hid (PM.selects n s = (.mk 6 tn [] [] [] [] it jn [lx, rx] wh [] false [], s10)) := Lib.hid (by simp only [PM.selects, HI1.out, HQ2.out, HQ3.out, HQ4.out, HI5.out, HQ5.out, HQ6.out, HQ7.out, HQ8.out, HQ9.out, HQR.out, HQ11.out, HI12.out, if_true, if_false, Bool.false_eq_true, eq_self])
        have hnRSt : ¬ w.heap.size = w.heap.size + 1 := by omega
        have hnStR : ¬ w.heap.size + 1 = w.heap.size := by omega
        obtain ⟨Stc0, Stc1, Stc2, Stc3, Stc4, Stc5, Stc6, Stc7, Stc8, Stc9, Stc10, Stc11, Stc12, Stf0, Stf1, Stf2, Stf3, Stf4, Stf5, Stf6, Stf7, Stf8, Stf9, Stf10, Stf11, Stf12⟩ := c13_of HSt12.out.blk
        obtain ⟨Rc0, Rc1, Rc2, Rc3, Rc4, Rc5, Rc6, Rc7, Rc8, Rc9, Rc10, Rc11, Rc12, Rf0, Rf1, Rf2, Rf3, Rf4, Rf5, Rf6, Rf7, Rf8, Rf9, Rf10, Rf11, Rf12⟩ := c13_of HR12.out.blk
        go_wp2_with fail
        refine bodyPost_ret (ret_cell13 rfl _ w.heap.size rfl _ _ _ _ _ _ _ _ _ _ _ _ _ _ (blkPut13 HR12.out.blk _ _ _ _ _ _ _ _ _ _ _ _ _)) rfl ?_
        rw [HM.out]
        exact ⟨⟨_, rfl, .mk _ _ _ _ _ _ _ _ _ _ _ _ _ _ _ _ _ _ _ _ _ .nil .nil Rep.Es.nil (FlatS.mono (A' := fun b => w.heap.size ≤ b) (fun b hb => by omega) (FlatS.keep (frPut13 (Fr.refl [some w.heap.size] w12) (.inl (by simp)) _ _ _ _ _ _ _ _ _ _ _ _ _) (fun b hb => by simp; omega) HMi12.out)) (Rep.Es.mono (A' := fun b => w.heap.size ≤ b) (fun b hb => by omega) (Rep.Es.keep (frPut13 (Fr.refl [some w.heap.size] w12) (.inl (by simp)) _ _ _ _ _ _ _ _ _ _ _ _ _) (fun b hb => by simp; omega) HO12.out)) (Rep.Es.mono (A' := fun b => w.heap.size ≤ b) (fun b hb => by omega) (Rep.Es.keep (frPut13 (Fr.refl [some w.heap.size] w12) (.inl (by simp)) _ _ _ _ _ _ _ _ _ _ _ _ _) (fun b hb => by simp; omega) HH12.out)) Rep.Es.nil SS.nil⟩, (HD12.out.pr.keep (frPut13 (Fr.refl [some w.heap.size] _) (.inl (by simp)) _ _ _ _ _ _ _ _ _ _ _ _ _) (by simp; omega) (by simp; omega)), (frPut13 HD12.out.fr (.inr HR12.out.ge) _ _ _ _ _ _ _ _ _ _ _ _ _)⟩
      · have HI := Lib.hid hi
        clear hi
        go_wp2_with fail
        refine (skips_yes P g s10 [111, 114, 100, 101, 114] _ (HD11.out.set (by omega)).pr HI.out).mono ?_
        rintro e w12 ⟨rfl, h12, hf12⟩
        have hi12 := HI.out
        obtain ⟨s11, hq12⟩ : ∃ x, PM.skip s10 = x := ⟨_, rfl⟩
        rw [hq12] at h12
        have HQ12 := Lib.hid hq12
        have HI12 := Lib.hid hi12
        clear hq12 hi12
        have HD12 : Hid (Bd w P g w12 s11) := Lib.hid ((HD11.out.set (by omega)).call h12 hf12)
        have HR12 : Hid (Ow w w12 w.heap.size 29 [.int .i64 0, .string ⟨#[]⟩, .string ⟨#[]⟩, .slice none 0 0, .slice none 0 0, .slice none 0 0, .slice none 0 0, .string ⟨#[]⟩, .slice none 0 0, .slice none 0 0, .slice none 0 0, .bool false, .slice none 0 0]) := Lib.hid ((HR11.out.other (by omega)).call HPL.out hf12)
        have HSt12 : Hid (Ow w w12 (w.heap.size + 1) 29 [.int .i64 6, (.string ⟨tn.toArray⟩), .string ⟨#[]⟩, .slice none 0 0, .slice none 0 0, .slice none 0 0, (.slice ita itl itc), (.string ⟨jn.toArray⟩), (.slice (some ⟨w10.heap.size, 0, none⟩) 2 2), (.slice wha whl whc), .slice none 0 0, .bool false, .slice none 0 0]) := Lib.hid ((HSt11.out.set 9 (.slice wha whl whc)).call HPL.out hf12)
        have HMi12 := Lib.hid (FlatS.keep hf12 (fun b hb => by simp <;> omega) (FlatS.keep ((Fr.refl [some (w.heap.size + 1)] w11).setCell (p := ⟨w.heap.size + 1, 9, none⟩) (.inl (by simp)) (.slice wha whl whc)) (fun b hb => by simp <;> omega) HMi11.out))
        have HO12 := Lib.hid (Rep.Es.keep hf12 (fun b hb => by simp <;> omega) (Rep.Es.keep ((Fr.refl [some (w.heap.size + 1)] w11).setCell (p := ⟨w.heap.size + 1, 9, none⟩) (.inl (by simp)) (.slice wha whl whc)) (fun b hb => by simp <;> omega) HO11.out))
        have HH12 := Lib.hid (Rep.Es.keep hf12 (fun b hb => by simp <;> omega) (Rep.Es.keep ((Fr.refl [some (w.heap.size + 1)] w11).setCell (p := ⟨w.heap.size + 1, 9, none⟩) (.inl (by simp)) (.slice wha whl whc)) (fun b hb => by simp <;> omega) HH11.out))
        have hs12 := hf12.size
        simp only [World.size_setCell] at hs12
        have hlR12 := HR12.out.lt
        have hlSt12 := HSt12.out.lt
        have hp12 := HD12.out.pr.lt
        clear h12 hf12
        have HG12 : Hid (PM.Le s11 s) := Lib.hid (HG11.out.calm PM.calm_skip HQ12.out)
        go_wp2_with fail
        refine (needs_new (n := w12.heap.size) HD12.out.pr [[98, 121]] (by decide) (by simp)).mono ?_
        rintro e w13 ⟨rfl, h13, hf13⟩
        obtain ⟨s12, hq13⟩ : ∃ x, PM.needs [[98, 121]] s11 = x := ⟨_, rfl⟩
        rw [hq13] at h13
        have HQ13 := Lib.hid hq13
        clear hq13
        have HD13 : Hid (Bd w P g w13 s12) := Lib.hid ((HD12.out.alloc _).call h13 hf13)
        have HR13 : Hid (Ow w w13 w.heap.size 29 [.int .i64 0, .string ⟨#[]⟩, .string ⟨#[]⟩, .slice none 0 0, .slice none 0 0, .slice none 0 0, .slice none 0 0, .string ⟨#[]⟩, .slice none 0 0, .slice none 0 0, .slice none 0 0, .bool false, .slice none 0 0]) := Lib.hid ((HR12.out.alloc _).call HPL.out hf13)
        have HSt13 : Hid (Ow w w13 (w.heap.size + 1) 29 [.int .i64 6, (.string ⟨tn.toArray⟩), .string ⟨#[]⟩, .slice none 0 0, .slice none 0 0, .slice none 0 0, (.slice ita itl itc), (.string ⟨jn.toArray⟩), (.slice (some ⟨w10.heap.size, 0, none⟩) 2 2), (.slice wha whl whc), .slice none 0 0, .bool false, .slice none 0 0]) := Lib.hid ((HSt12.out.alloc _).call HPL.out hf13)
        have HMi13 := Lib.hid (FlatS.keep hf13 (fun b hb => by simp <;> omega) (FlatS.keep ((Fr.refl [] w12).alloc _) (fun b hb => by simp <;> omega) HMi12.out))
        have HO13 := Lib.hid (Rep.Es.keep hf13 (fun b hb => by simp <;> omega) (Rep.Es.keep ((Fr.refl [] w12).alloc _) (fun b hb => by simp <;> omega) HO12.out))
        have HH13 := Lib.hid (Rep.Es.keep hf13 (fun b hb => by simp <;> omega) (Rep.Es.keep ((Fr.refl [] w12).alloc _) (fun b hb => by simp <;> omega) HH12.out))
        have hs13 := hf13.size
        simp only [World.size_alloc] at hs13
        have hlR13 := HR13.out.lt
        have hlSt13 := HSt13.out.lt
        have hp13 := HD13.out.pr.lt
        clear h13 hf13
        have HG13 : Hid (PM.Le s12 s) := Lib.hid (HG12.out.calm (PM.calm_needs [[98, 121]]) HQ13.out)
        obtain ⟨ddx, s13, hq14⟩ : ∃ a b, PM.column s12 = (a, b) := ⟨_, _, rfl⟩
        have HQ14 := Lib.hid hq14
        clear hq14
        go_wp2_with fail
        refine (column' HD13.out.pr HQ14.out).mono ?_
        rintro e w14 ⟨hx, h14, hf14⟩
        obtain ⟨ddo, ddk, ddi, ddz, ddt, ddn, dda, dde, ddc, rfl, hrep⟩ := ex_cells hx
        clear hx
        have HD14 : Hid (Bd w P g w14 s13) := Lib.hid (HD13.out.call h14 hf14)
        have HR14 : Hid (Ow w w14 w.heap.size 29 [.int .i64 0, .string ⟨#[]⟩, .string ⟨#[]⟩, .slice none 0 0, .slice none 0 0, .slice none 0 0, .slice none 0 0, .string ⟨#[]⟩, .slice none 0 0, .slice none 0 0, .slice none 0 0, .bool false, .slice none 0 0]) := Lib.hid (HR13.out.call HPL.out hf14)
        have HSt14 : Hid (Ow w w14 (w.heap.size + 1) 29 [.int .i64 6, (.string ⟨tn.toArray⟩), .string ⟨#[]⟩, .slice none 0 0, .slice none 0 0, .slice none 0 0, (.slice ita itl itc), (.string ⟨jn.toArray⟩), (.slice (some ⟨w10.heap.size, 0, none⟩) 2 2), (.slice wha whl whc), .slice none 0 0, .bool false, .slice none 0 0]) := Lib.hid (HSt13.out.call HPL.out hf14)
        have HMi14 := Lib.hid (FlatS.keep hf14 (fun b hb => by simp <;> omega) HMi13.out)
        have HO14 := Lib.hid (Rep.Es.keep hf14 (fun b hb => by simp <;> omega) HO13.out)
        have HH14 := Lib.hid (Rep.Es.keep hf14 (fun b hb => by simp <;> omega) HH13.out)
        have hs14 := hf14.size
        have hlR14 := HR14.out.lt
        have hlSt14 := HSt14.out.lt
        have hp14 := HD14.out.pr.lt
        clear h14 hf14
        have HG14 : Hid (PM.Le s13 s) := Lib.hid (HG13.out.good PM.good_column HQ14.out)
        have Hdd14 := Lib.hid (Rep.E.mono (A' := fun b => w.heap.size + 1 < b) (fun b hb => by first | omega | (simp at hb; omega)) hrep)
        clear hrep
        obtain ⟨Stc0, Stc1, Stc2, Stc3, Stc4, Stc5, Stc6, Stc7, Stc8, Stc9, Stc10, Stc11, Stc12, Stf0, Stf1, Stf2, Stf3, Stf4, Stf5, Stf6, Stf7, Stf8, Stf9, Stf10, Stf11, Stf12⟩ := c13_of HSt14.out.blk
        have HOdn : Hid (Rep.Es 82 (fun b => w.heap.size + 1 < b) ((w14.setCell ⟨w.heap.size + 1, 10, none⟩ (.slice (some ⟨w14.heap.size, 0, none⟩) 1 1)).alloc (.cells #[.int .i64 ddo, .int .i64 ddk, .int .i64 ddi, .string ⟨ddz.toArray⟩, .string ⟨ddt.toArray⟩, .string ⟨ddn.toArray⟩, .slice dda dde ddc] 82)) [ddx] (.slice (some ⟨w14.heap.size, 0, none⟩) 1 1)) := Lib.hid (es_set_new (Rep.L.cons _ _ _ _ Hdd14.out .nil) (fun g hg => by omega) (by omega) (by simp [maxLen]))
        obtain ⟨dsc, s14, hq15⟩ : ∃ a b, PM.skips [100, 101, 115, 99] s13 = (a, b) := ⟨_, _, rfl⟩
        have HQ15 := Lib.hid hq15
        clear hq15
        go_wp2_with fail
        refine (skips_pair P g s13 [100, 101, 115, 99] _ ((HD14.out.set (by omega)).alloc _).pr HQ15.out).mono ?_
        rintro e w15 ⟨rfl, h15, hf15⟩
        have HD15 : Hid (Bd w P g w15 s14) := Lib.hid (((HD14.out.set (by omega)).alloc _).call h15 hf15)
        have HR15 : Hid (Ow w w15 w.heap.size 29 [.int .i64 0, .string ⟨#[]⟩, .string ⟨#[]⟩, .slice none 0 0, .slice none 0 0, .slice none 0 0, .slice none 0 0, .string ⟨#[]⟩, .slice none 0 0, .slice none 0 0, .slice none 0 0, .bool false, .slice none 0 0]) := Lib.hid (((HR14.out.other (by omega)).alloc _).call HPL.out hf15)
        have HSt15 : Hid (Ow w w15 (w.heap.size + 1) 29 [.int .i64 6, (.string ⟨tn.toArray⟩), .string ⟨#[]⟩, .slice none 0 0, .slice none 0 0, .slice none 0 0, (.slice ita itl itc), (.string ⟨jn.toArray⟩), (.slice (some ⟨w10.heap.size, 0, none⟩) 2 2), (.slice wha whl whc), (.slice (some ⟨w14.heap.size, 0, none⟩) 1 1), .bool false, .slice none 0 0]) := Lib.hid (((HSt14.out.set 10 (.slice (some ⟨w14.heap.size, 0, none⟩) 1 1)).alloc _).call HPL.out hf15)
        have HMi15 := Lib.hid (FlatS.keep hf15 (fun b hb => by simp <;> omega) (FlatS.keep (((Fr.refl [some (w.heap.size + 1)] w14).setCell (p := ⟨w.heap.size + 1, 10, none⟩) (.inl (by simp)) (.slice (some ⟨w14.heap.size, 0, none⟩) 1 1)).alloc _) (fun b hb => by simp <;> omega) HMi14.out))
        have HO15 := Lib.hid (Rep.Es.keep hf15 (fun b hb => by simp <;> omega) (Rep.Es.keep (((Fr.refl [some (w.heap.size + 1)] w14).setCell (p := ⟨w.heap.size + 1, 10, none⟩) (.inl (by simp)) (.slice (some ⟨w14.heap.size, 0, none⟩) 1 1)).alloc _) (fun b hb => by simp <;> omega) HO14.out))
        have HH15 := Lib.hid (Rep.Es.keep hf15 (fun b hb => by simp <;> omega) (Rep.Es.keep (((Fr.refl [some (w.heap.size + 1)] w14).setCell (p := ⟨w.heap.size + 1, 10, none⟩) (.inl (by simp)) (.slice (some ⟨w14.heap.size, 0, none⟩) 1 1)).alloc _) (fun b hb => by simp <;> omega) HH14.out))
        have HOd15 := Lib.hid (Rep.Es.keep hf15 (fun b hb => by simp <;> omega) HOdn.out)
        have hs15 := hf15.size
        simp only [World.size_alloc, World.size_setCell] at hs15
        have hlR15 := HR15.out.lt
        have hlSt15 := HSt15.out.lt
        have hp15 := HD15.out.pr.lt
        clear h15 hf15
        have HG15 : Hid (PM.Le s14 s) := Lib.hid (HG14.out.good (PM.good_skips _) HQ15.out)
        clear Stc0 Stf0 Stc1 Stf1 Stc2 Stf2 Stc3 Stf3 Stc4 Stf4 Stc5 Stf5 Stc6 Stf6 Stc7 Stf7 Stc8 Stf8 Stc9 Stf9 Stc10 Stf10 Stc11 Stf11 Stc12 Stf12
        obtain ⟨Stc0, Stc1, Stc2, Stc3, Stc4, Stc5, Stc6, Stc7, Stc8, Stc9, Stc10, Stc11, Stc12, Stf0, Stf1, Stf2, Stf3, Stf4, Stf5, Stf6, Stf7, Stf8, Stf9, Stf10, Stf11, Stf12⟩ := c13_of HSt15.out.blk
        clear Stc0 Stc1 Stc2 Stc3 Stc4 Stc5 Stc6 Stc7 Stc8 Stc9 Stc10 Stc11 Stc12 Stf0 Stf1 Stf2 Stf3 Stf4 Stf5 Stf6 Stf7 Stf8 Stf9 Stf10 Stf11 Stf12
        have HM : Hid (PM.selects n s = (.mk 6 tn [] [] [] [] it jn [lx, rx] wh [ddx] dsc [], s14)) := Lib.hid (by simp only [PM.selects, HI1.out, HQ2.out, HQ3.out, HQ4.out, HI5.out, HQ5.out, HQ6.out, HQ7.out, HQ8.out, HQ9.out, HQR.out, HQ11.out, HI12.out, HQ12.out, HQ13.out, HQ14.out, HQ15.out, if_true, if_false, Bool.false_eq_true, eq_self])
        have hnRSt : ¬ w.heap.size = w.heap.size + 1 := by omega
        have hnStR : ¬ w.heap.size + 1 = w.heap.size := by omega
        obtain ⟨Stc0, Stc1, Stc2, Stc3, Stc4, Stc5, Stc6, Stc7, Stc8, Stc9, Stc10, Stc11, Stc12, Stf0, Stf1, Stf2, Stf3, Stf4, Stf5, Stf6, Stf7, Stf8, Stf9, Stf10, Stf11, Stf12⟩ := c13_of HSt15.out.blk
        obtain ⟨Rc0, Rc1, Rc2, Rc3, Rc4, Rc5, Rc6, Rc7, Rc8, Rc9, Rc10, Rc11, Rc12, Rf0, Rf1, Rf2, Rf3, Rf4, Rf5, Rf6, Rf7, Rf8, Rf9, Rf10, Rf11, Rf12⟩ := c13_of HR15.out.blk
        go_wp2_with fail
        refine bodyPost_ret (ret_cell13 rfl _ w.heap.size rfl _ _ _ _ _ _ _ _ _ _ _ _ _ _ (blkPut13 (HR15.out.other (by omega)).blk _ _ _ _ _ _ _ _ _ _ _ _ _)) rfl ?_
        rw [HM.out]
        exact ⟨⟨_, rfl, .mk _ _ _ _ _ _ _ _ _ _ _ _ _ _ _ _ _ _ _ _ _ .nil .nil Rep.Es.nil (FlatS.mono (A' := fun b => w.heap.size ≤ b) (fun b hb => by omega) (FlatS.keep (frPut13 ((Fr.refl [some w.heap.size, some (w.heap.size + 1)] w15).setCell (p := ⟨w.heap.size + 1, 11, none⟩) (.inl (by simp)) (.bool dsc)) (.inl (by simp)) _ _ _ _ _ _ _ _ _ _ _ _ _) (fun b hb => by simp; omega) HMi15.out)) (Rep.Es.mono (A' := fun b => w.heap.size ≤ b) (fun b hb => by omega) (Rep.Es.keep (frPut13 ((Fr.refl [some w.heap.size, some (w.heap.size + 1)] w15).setCell (p := ⟨w.heap.size + 1, 11, none⟩) (.inl (by simp)) (.bool dsc)) (.inl (by simp)) _ _ _ _ _ _ _ _ _ _ _ _ _) (fun b hb => by simp; omega) HO15.out)) (Rep.Es.mono (A' := fun b => w.heap.size ≤ b) (fun b hb => by omega) (Rep.Es.keep (frPut13 ((Fr.refl [some w.heap.size, some (w.heap.size + 1)] w15).setCell (p := ⟨w.heap.size + 1, 11, none⟩) (.inl (by simp)) (.bool dsc)) (.inl (by simp)) _ _ _ _ _ _ _ _ _ _ _ _ _) (fun b hb => by simp; omega) HH15.out)) (Rep.Es.mono (A' := fun b => w.heap.size ≤ b) (fun b hb => by omega) (Rep.Es.keep (frPut13 ((Fr.refl [some w.heap.size, some (w.heap.size + 1)] w15).setCell (p := ⟨w.heap.size + 1, 11, none⟩) (.inl (by simp)) (.bool dsc)) (.inl (by simp)) _ _ _ _ _ _ _ _ _ _ _ _ _) (fun b hb => by simp; omega) HOd15.out)) SS.nil⟩, ((HD15.out.set (by omega)).pr.keep (frPut13 (Fr.refl [some w.heap.size] _) (.inl (by simp)) _ _ _ _ _ _ _ _ _ _ _ _ _) (by simp; omega) (by simp; omega)), (frPut13 (HD15.out.set (by omega)).fr (.inr HR15.out.ge) _ _ _ _ _ _ _ _ _ _ _ _ _)⟩
end Px
end Go.Proofs.YtmdnhinpaflamaaGreatDoor
