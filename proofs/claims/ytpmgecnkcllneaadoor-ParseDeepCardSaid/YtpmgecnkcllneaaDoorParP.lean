/- parse: col, item. -/
import Derived.Test.YtpmgecnkcllneaaDoorParO
namespace Go.Proofs.YtpmgecnkcllneaaDoor
open Go.RowKit
namespace Px
open PM (PS B Ex)

theorem skips_yes (P g : Nat) (s : PS) (wd : B) (w : World) (h : PR w P g s) (hi : PM.is wd s = true) :
    Calls Tryd.prog 30 #[.pointer (some ⟨P, 0, none⟩), .string ⟨wd.toArray⟩] w fun e w' => e = .returned (.bool true) ∧ PR w' P g (PM.skip s) ∧ Fr [some P] w w' := by
  have := skips_any P g s wd w h
  rwa [hi, skipd, hi] at this
theorem skips_no (P g : Nat) (s : PS) (wd : B) (w : World) (h : PR w P g s) (hi : PM.is wd s = false) :
    Calls Tryd.prog 30 #[.pointer (some ⟨P, 0, none⟩), .string ⟨wd.toArray⟩] w fun e w' => e = .returned (.bool false) ∧ PR w' P g s ∧ Fr [some P] w w' := by
  have := skips_any P g s wd w h
  rwa [hi, skipd, hi] at this

set_option maxRecDepth 100000 in
set_option maxHeartbeats 4000000 in
theorem col_any (P g : Nat) (s : PS) (w : World) (h : PR w P g s) :
    Calls Tryd.prog 52 #[.pointer (some ⟨P, 0, none⟩)] w fun e w' => (∃ cs, e = .returned (agg cs) ∧ kCol.E (fun b => w.heap.size ≤ b) w' (PM.col s).1 cs) ∧ PR w' P g (PM.col s).2 ∧ Fr [some P] w w' := by
  have hPl := h.lt
  have hgP := h.ne
  have HPL := Lib.hid hPl
  have HD : Hid (Bd w P g w s) := Lib.hid (Bd.start h)
  clear h
  go_enter Tryd.func52, Tryd.ntmps52
  go_wp2_with fail
  refine (name_any P g s _ (HD.out.alloc _).pr).mono ?_
  rintro e w1 ⟨rfl, h1, hf1⟩
  obtain ⟨n, s1, hq1⟩ : ∃ a b, PM.name s = (a, b) := ⟨_, _, rfl⟩
  rw [hq1] at h1 ⊢
  have HQ1 := Lib.hid hq1
  clear hq1
  have HD1 : Hid (Bd w P g w1 s1) := Lib.hid ((HD.out.alloc _).call h1 hf1)
  have HR1 : Hid (Ow w w1 w.heap.size 71 [.string ⟨#[]⟩, .int .i64 0, .string ⟨#[]⟩]) := Lib.hid ((Ow.new (by omega) 71 [.string ⟨#[]⟩, .int .i64 0, .string ⟨#[]⟩]).call HPL.out hf1)
  have hs1 := hf1.size
  try simp only [World.size_alloc] at hs1
  have hlR1 := HR1.out.lt
  have hp1 := HD1.out.pr.lt
  clear h1 hf1
  cases hi : PM.is [105, 110, 116] s1
  · have HI := Lib.hid hi
    clear hi
    go_wp2_with fail
    refine (skips_no P g s1 [105, 110, 116] _ (HD1.out.alloc _).pr HI.out).mono ?_
    rintro e w2 ⟨rfl, h2, hf2⟩
    have HI2 := Lib.hid HI.out
    have HD2 : Hid (Bd w P g w2 s1) := Lib.hid ((HD1.out.alloc _).call h2 hf2)
    have HR2 : Hid (Ow w w2 w.heap.size 71 [.string ⟨#[]⟩, .int .i64 0, .string ⟨#[]⟩]) := Lib.hid ((HR1.out.alloc _).call HPL.out hf2)
    have HC2 : Hid (Ow w w2 w1.heap.size 71 [.string ⟨n.toArray⟩, .int .i64 0, .string ⟨#[]⟩]) := Lib.hid ((Ow.new (by omega) 71 [.string ⟨n.toArray⟩, .int .i64 0, .string ⟨#[]⟩]).call HPL.out hf2)
    have hs2 := hf2.size
    try simp only [World.size_alloc] at hs2
    have hlR2 := HR2.out.lt
    have hlC2 := HC2.out.lt
    have hp2 := HD2.out.pr.lt
    clear h2 hf2
    cases hi : PM.is [116, 101, 120, 116] s1
    · have HI := Lib.hid hi
      clear hi
      go_wp2_with fail
      refine (skips_no P g s1 [116, 101, 120, 116] _ HD2.out.pr HI.out).mono ?_
      rintro e w3 ⟨rfl, h3, hf3⟩
      have HI3 := Lib.hid HI.out
      have HD3 : Hid (Bd w P g w3 s1) := Lib.hid (HD2.out.call h3 hf3)
      have HR3 : Hid (Ow w w3 w.heap.size 71 [.string ⟨#[]⟩, .int .i64 0, .string ⟨#[]⟩]) := Lib.hid (HR2.out.call HPL.out hf3)
      have HC3 : Hid (Ow w w3 w1.heap.size 71 [.string ⟨n.toArray⟩, .int .i64 0, .string ⟨#[]⟩]) := Lib.hid (HC2.out.call HPL.out hf3)
      have hs3 := hf3.size
      try simp only [World.size_alloc, World.size_setCell, World.size_drew] at hs3
      have hlR3 := HR3.out.lt
      have hlC3 := HC3.out.lt
      have hp3 := HD3.out.pr.lt
      clear h3 hf3
      go_wp2_with fail
      refine (fails_any P g s1 5 _ HD3.out.pr).mono ?_
      rintro e w4 ⟨rfl, h4, hf4⟩
      obtain ⟨s2, hq4⟩ : ∃ x, PM.fails 5 s1 = x := ⟨_, rfl⟩
      rw [hq4] at h4
      have HQ4 := Lib.hid hq4
      clear hq4
      have HD4 : Hid (Bd w P g w4 s2) := Lib.hid (HD3.out.call h4 hf4)
      have HR4 : Hid (Ow w w4 w.heap.size 71 [.string ⟨#[]⟩, .int .i64 0, .string ⟨#[]⟩]) := Lib.hid (HR3.out.call HPL.out hf4)
      have HC4 : Hid (Ow w w4 w1.heap.size 71 [.string ⟨n.toArray⟩, .int .i64 0, .string ⟨#[]⟩]) := Lib.hid (HC3.out.call HPL.out hf4)
      have hs4 := hf4.size
      try simp only [World.size_alloc, World.size_setCell, World.size_drew] at hs4
      have hlR4 := HR4.out.lt
      have hlC4 := HC4.out.lt
      have hp4 := HD4.out.pr.lt
      clear h4 hf4
      cases hi : PM.is [114, 101, 102] s2
      · have HI := Lib.hid hi
        clear hi
        go_wp2_with fail
        refine (skips_no P g s2 [114, 101, 102] _ HD4.out.pr HI.out).mono ?_
        rintro e w5 ⟨rfl, h5, hf5⟩
        have HI5 := Lib.hid HI.out
        have HD5 : Hid (Bd w P g w5 s2) := Lib.hid (HD4.out.call h5 hf5)
        have HR5 : Hid (Ow w w5 w.heap.size 71 [.string ⟨#[]⟩, .int .i64 0, .string ⟨#[]⟩]) := Lib.hid (HR4.out.call HPL.out hf5)
        have HC5 : Hid (Ow w w5 w1.heap.size 71 [.string ⟨n.toArray⟩, .int .i64 0, .string ⟨#[]⟩]) := Lib.hid (HC4.out.call HPL.out hf5)
        have hs5 := hf5.size
        try simp only [World.size_alloc, World.size_setCell, World.size_drew] at hs5
        have hlR5 := HR5.out.lt
        have hlC5 := HC5.out.lt
        have hp5 := HD5.out.pr.lt
        clear h5 hf5
        have HM : Hid (PM.col s = (⟨n, 0, []⟩, s2)) := Lib.hid (by simp only [PM.col, HQ1.out, HI2.out, HI3.out, HQ4.out, HI5.out, if_false, Bool.false_eq_true, eq_self])
        have hnRC : ¬ w.heap.size = w1.heap.size := by omega
        have hnCR : ¬ w1.heap.size = w.heap.size := by omega
        obtain ⟨Cc0, Cc1, Cc2, Cf0, Cf1, Cf2⟩ := cCol_of HC5.out.blk
        obtain ⟨Rc0, Rc1, Rc2, Rf0, Rf1, Rf2⟩ := cCol_of HR5.out.blk
        go_wp2_with fail
        refine bodyPost_ret (ret_cellCol rfl _ w.heap.size rfl _ _ _ _ (blkPutCol HR5.out.blk _ _ _)) rfl ?_
        rw [HM.out]
        exact ⟨⟨_, rfl, rfl⟩, (HD5.out.pr.keep (frPutCol (Fr.refl [some w.heap.size] _) (.inl (by simp)) _ _ _) (by simp; omega) (by simp; omega)), (frPutCol HD5.out.fr (.inr HR5.out.ge) _ _ _)⟩
      · have HI := Lib.hid hi
        clear hi
        go_wp2_with fail
        refine (skips_yes P g s2 [114, 101, 102] _ HD4.out.pr HI.out).mono ?_
        rintro e w5 ⟨rfl, h5, hf5⟩
        have hi5 := HI.out
        obtain ⟨s3, hq5⟩ : ∃ x, PM.skip s2 = x := ⟨_, rfl⟩
        rw [hq5] at h5
        have HQ5 := Lib.hid hq5
        have HI5 := Lib.hid hi5
        clear hq5 hi5
        have HD5 : Hid (Bd w P g w5 s3) := Lib.hid (HD4.out.call h5 hf5)
        have HR5 : Hid (Ow w w5 w.heap.size 71 [.string ⟨#[]⟩, .int .i64 0, .string ⟨#[]⟩]) := Lib.hid (HR4.out.call HPL.out hf5)
        have HC5 : Hid (Ow w w5 w1.heap.size 71 [.string ⟨n.toArray⟩, .int .i64 0, .string ⟨#[]⟩]) := Lib.hid (HC4.out.call HPL.out hf5)
        have hs5 := hf5.size
        try simp only [World.size_alloc, World.size_setCell, World.size_drew] at hs5
        have hlR5 := HR5.out.lt
        have hlC5 := HC5.out.lt
        have hp5 := HD5.out.pr.lt
        clear h5 hf5
        go_wp2_with fail
        refine (name_any P g s3 _ HD5.out.pr).mono ?_
        rintro e w6 ⟨rfl, h6, hf6⟩
        obtain ⟨r, s4, hq6⟩ : ∃ a b, PM.name s3 = (a, b) := ⟨_, _, rfl⟩
        rw [hq6] at h6 ⊢
        have HQ6 := Lib.hid hq6
        clear hq6
        have HD6 : Hid (Bd w P g w6 s4) := Lib.hid (HD5.out.call h6 hf6)
        have HR6 : Hid (Ow w w6 w.heap.size 71 [.string ⟨#[]⟩, .int .i64 0, .string ⟨#[]⟩]) := Lib.hid (HR5.out.call HPL.out hf6)
        have HC6 : Hid (Ow w w6 w1.heap.size 71 [.string ⟨n.toArray⟩, .int .i64 0, .string ⟨#[]⟩]) := Lib.hid (HC5.out.call HPL.out hf6)
        have hs6 := hf6.size
        try simp only [World.size_alloc, World.size_setCell, World.size_drew] at hs6
        have hlR6 := HR6.out.lt
        have hlC6 := HC6.out.lt
        have hp6 := HD6.out.pr.lt
        clear h6 hf6
        have hnRC : ¬ w.heap.size = w1.heap.size := by omega
        have hnCR : ¬ w1.heap.size = w.heap.size := by omega
        obtain ⟨Cc0, Cc1, Cc2, Cf0, Cf1, Cf2⟩ := cCol_of HC6.out.blk
        have HM : Hid (PM.col s = (⟨n, 0, r⟩, s4)) := Lib.hid (by simp only [PM.col, HQ1.out, HI2.out, HI3.out, HQ4.out, HI5.out, HQ5.out, HQ6.out, if_true, if_false, Bool.false_eq_true, eq_self])
        obtain ⟨Rc0, Rc1, Rc2, Rf0, Rf1, Rf2⟩ := cCol_of HR6.out.blk
        go_wp2_with fail
        refine bodyPost_ret (ret_cellCol rfl _ w.heap.size rfl _ _ _ _ (blkPutCol (HR6.out.other (by omega)).blk _ _ _)) rfl ?_
        rw [HM.out]
        exact ⟨⟨_, rfl, rfl⟩, ((HD6.out.set (by omega)).pr.keep (frPutCol (Fr.refl [some w.heap.size] _) (.inl (by simp)) _ _ _) (by simp; omega) (by simp; omega)), (frPutCol (HD6.out.set (by omega)).fr (.inr HR6.out.ge) _ _ _)⟩
    · have HI := Lib.hid hi
      clear hi
      go_wp2_with fail
      refine (skips_yes P g s1 [116, 101, 120, 116] _ HD2.out.pr HI.out).mono ?_
      rintro e w3 ⟨rfl, h3, hf3⟩
      have hi3 := HI.out
      obtain ⟨s2, hq3⟩ : ∃ x, PM.skip s1 = x := ⟨_, rfl⟩
      rw [hq3] at h3
      have HQ3 := Lib.hid hq3
      have HI3 := Lib.hid hi3
      clear hq3 hi3
      have HD3 : Hid (Bd w P g w3 s2) := Lib.hid (HD2.out.call h3 hf3)
      have HR3 : Hid (Ow w w3 w.heap.size 71 [.string ⟨#[]⟩, .int .i64 0, .string ⟨#[]⟩]) := Lib.hid (HR2.out.call HPL.out hf3)
      have HC3 : Hid (Ow w w3 w1.heap.size 71 [.string ⟨n.toArray⟩, .int .i64 0, .string ⟨#[]⟩]) := Lib.hid (HC2.out.call HPL.out hf3)
      have hs3 := hf3.size
      try simp only [World.size_alloc, World.size_setCell, World.size_drew] at hs3
      have hlR3 := HR3.out.lt
      have hlC3 := HC3.out.lt
      have hp3 := HD3.out.pr.lt
      clear h3 hf3
      obtain ⟨Cc0, Cc1, Cc2, Cf0, Cf1, Cf2⟩ := cCol_of HC3.out.blk
      -- set
      cases hi : PM.is [114, 101, 102] s2
      · have HI := Lib.hid hi
        clear hi
        go_wp2_with fail
        refine (skips_no P g s2 [114, 101, 102] _ (HD3.out.set (by omega)).pr HI.out).mono ?_
        rintro e w4 ⟨rfl, h4, hf4⟩
        have HI4 := Lib.hid HI.out
        have HD4 : Hid (Bd w P g w4 s2) := Lib.hid ((HD3.out.set (by omega)).call h4 hf4)
        have HR4 : Hid (Ow w w4 w.heap.size 71 [.string ⟨#[]⟩, .int .i64 0, .string ⟨#[]⟩]) := Lib.hid ((HR3.out.other (by omega)).call HPL.out hf4)
        have HC4 : Hid (Ow w w4 w1.heap.size 71 [.string ⟨n.toArray⟩, (.int .i64 2), .string ⟨#[]⟩]) := Lib.hid ((HC3.out.set 1 (.int .i64 2)).call HPL.out hf4)
        have hs4 := hf4.size
        try simp only [World.size_setCell] at hs4
        have hlR4 := HR4.out.lt
        have hlC4 := HC4.out.lt
        have hp4 := HD4.out.pr.lt
        clear h4 hf4
        have HM : Hid (PM.col s = (⟨n, 2, []⟩, s2)) := Lib.hid (by simp only [PM.col, HQ1.out, HI2.out, HI3.out, HQ3.out, HI4.out, if_true, if_false, Bool.false_eq_true, eq_self])
        have hnRC : ¬ w.heap.size = w1.heap.size := by omega
        have hnCR : ¬ w1.heap.size = w.heap.size := by omega
        obtain ⟨Cc0, Cc1, Cc2, Cf0, Cf1, Cf2⟩ := cCol_of HC4.out.blk
        obtain ⟨Rc0, Rc1, Rc2, Rf0, Rf1, Rf2⟩ := cCol_of HR4.out.blk
        go_wp2_with fail
        refine bodyPost_ret (ret_cellCol rfl _ w.heap.size rfl _ _ _ _ (blkPutCol HR4.out.blk _ _ _)) rfl ?_
        rw [HM.out]
        exact ⟨⟨_, rfl, rfl⟩, (HD4.out.pr.keep (frPutCol (Fr.refl [some w.heap.size] _) (.inl (by simp)) _ _ _) (by simp; omega) (by simp; omega)), (frPutCol HD4.out.fr (.inr HR4.out.ge) _ _ _)⟩
      · have HI := Lib.hid hi
        clear hi
        go_wp2_with fail
        refine (skips_yes P g s2 [114, 101, 102] _ (HD3.out.set (by omega)).pr HI.out).mono ?_
        rintro e w4 ⟨rfl, h4, hf4⟩
        have hi4 := HI.out
        obtain ⟨s3, hq4⟩ : ∃ x, PM.skip s2 = x := ⟨_, rfl⟩
        rw [hq4] at h4
        have HQ4 := Lib.hid hq4
        have HI4 := Lib.hid hi4
        clear hq4 hi4
        have HD4 : Hid (Bd w P g w4 s3) := Lib.hid ((HD3.out.set (by omega)).call h4 hf4)
        have HR4 : Hid (Ow w w4 w.heap.size 71 [.string ⟨#[]⟩, .int .i64 0, .string ⟨#[]⟩]) := Lib.hid ((HR3.out.other (by omega)).call HPL.out hf4)
        have HC4 : Hid (Ow w w4 w1.heap.size 71 [.string ⟨n.toArray⟩, (.int .i64 2), .string ⟨#[]⟩]) := Lib.hid ((HC3.out.set 1 (.int .i64 2)).call HPL.out hf4)
        have hs4 := hf4.size
        try simp only [World.size_setCell] at hs4
        have hlR4 := HR4.out.lt
        have hlC4 := HC4.out.lt
        have hp4 := HD4.out.pr.lt
        clear h4 hf4
        go_wp2_with fail
        refine (name_any P g s3 _ HD4.out.pr).mono ?_
        rintro e w5 ⟨rfl, h5, hf5⟩
        obtain ⟨r, s4, hq5⟩ : ∃ a b, PM.name s3 = (a, b) := ⟨_, _, rfl⟩
        rw [hq5] at h5 ⊢
        have HQ5 := Lib.hid hq5
        clear hq5
        have HD5 : Hid (Bd w P g w5 s4) := Lib.hid (HD4.out.call h5 hf5)
        have HR5 : Hid (Ow w w5 w.heap.size 71 [.string ⟨#[]⟩, .int .i64 0, .string ⟨#[]⟩]) := Lib.hid (HR4.out.call HPL.out hf5)
        have HC5 : Hid (Ow w w5 w1.heap.size 71 [.string ⟨n.toArray⟩, (.int .i64 2), .string ⟨#[]⟩]) := Lib.hid (HC4.out.call HPL.out hf5)
        have hs5 := hf5.size
        try simp only [World.size_alloc, World.size_setCell, World.size_drew] at hs5
        have hlR5 := HR5.out.lt
        have hlC5 := HC5.out.lt
        have hp5 := HD5.out.pr.lt
        clear h5 hf5
        have hnRC : ¬ w.heap.size = w1.heap.size := by omega
        have hnCR : ¬ w1.heap.size = w.heap.size := by omega
        obtain ⟨Cc0, Cc1, Cc2, Cf0, Cf1, Cf2⟩ := cCol_of HC5.out.blk
        have HM : Hid (PM.col s = (⟨n, 2, r⟩, s4)) := Lib.hid (by simp only [PM.col, HQ1.out, HI2.out, HI3.out, HQ3.out, HI4.out, HQ4.out, HQ5.out, if_true, if_false, Bool.false_eq_true, eq_self])
        obtain ⟨Rc0, Rc1, Rc2, Rf0, Rf1, Rf2⟩ := cCol_of HR5.out.blk
        go_wp2_with fail
        refine bodyPost_ret (ret_cellCol rfl _ w.heap.size rfl _ _ _ _ (blkPutCol (HR5.out.other (by omega)).blk _ _ _)) rfl ?_
        rw [HM.out]
        exact ⟨⟨_, rfl, rfl⟩, ((HD5.out.set (by omega)).pr.keep (frPutCol (Fr.refl [some w.heap.size] _) (.inl (by simp)) _ _ _) (by simp; omega) (by simp; omega)), (frPutCol (HD5.out.set (by omega)).fr (.inr HR5.out.ge) _ _ _)⟩
  · have HI := Lib.hid hi
    clear hi
    go_wp2_with fail
    refine (skips_yes P g s1 [105, 110, 116] _ (HD1.out.alloc _).pr HI.out).mono ?_
    rintro e w2 ⟨rfl, h2, hf2⟩
    have hi2 := HI.out
    obtain ⟨s2, hq2⟩ : ∃ x, PM.skip s1 = x := ⟨_, rfl⟩
    rw [hq2] at h2
    have HQ2 := Lib.hid hq2
    have HI2 := Lib.hid hi2
    clear hq2 hi2
    have HD2 : Hid (Bd w P g w2 s2) := Lib.hid ((HD1.out.alloc _).call h2 hf2)
    have HR2 : Hid (Ow w w2 w.heap.size 71 [.string ⟨#[]⟩, .int .i64 0, .string ⟨#[]⟩]) := Lib.hid ((HR1.out.alloc _).call HPL.out hf2)
    have HC2 : Hid (Ow w w2 w1.heap.size 71 [.string ⟨n.toArray⟩, .int .i64 0, .string ⟨#[]⟩]) := Lib.hid ((Ow.new (by omega) 71 [.string ⟨n.toArray⟩, .int .i64 0, .string ⟨#[]⟩]).call HPL.out hf2)
    have hs2 := hf2.size
    try simp only [World.size_alloc] at hs2
    have hlR2 := HR2.out.lt
    have hlC2 := HC2.out.lt
    have hp2 := HD2.out.pr.lt
    clear h2 hf2
    obtain ⟨Cc0, Cc1, Cc2, Cf0, Cf1, Cf2⟩ := cCol_of HC2.out.blk
    cases hi : PM.is [114, 101, 102] s2
    · have HI := Lib.hid hi
      clear hi
      go_wp2_with fail
      refine (skips_no P g s2 [114, 101, 102] _ (HD2.out.set (by omega)).pr HI.out).mono ?_
      rintro e w3 ⟨rfl, h3, hf3⟩
      have HI3 := Lib.hid HI.out
      have HD3 : Hid (Bd w P g w3 s2) := Lib.hid ((HD2.out.set (by omega)).call h3 hf3)
      have HR3 : Hid (Ow w w3 w.heap.size 71 [.string ⟨#[]⟩, .int .i64 0, .string ⟨#[]⟩]) := Lib.hid ((HR2.out.other (by omega)).call HPL.out hf3)
      have HC3 : Hid (Ow w w3 w1.heap.size 71 [.string ⟨n.toArray⟩, (.int .i64 1), .string ⟨#[]⟩]) := Lib.hid ((HC2.out.set 1 (.int .i64 1)).call HPL.out hf3)
      have hs3 := hf3.size
      try simp only [World.size_setCell] at hs3
      have hlR3 := HR3.out.lt
      have hlC3 := HC3.out.lt
      have hp3 := HD3.out.pr.lt
      clear h3 hf3
      have HM : Hid (PM.col s = (⟨n, 1, []⟩, s2)) := Lib.hid (by simp only [PM.col, HQ1.out, HI2.out, HQ2.out, HI3.out, if_true, if_false, Bool.false_eq_true, eq_self])
      have hnRC : ¬ w.heap.size = w1.heap.size := by omega
      have hnCR : ¬ w1.heap.size = w.heap.size := by omega
      obtain ⟨Cc0, Cc1, Cc2, Cf0, Cf1, Cf2⟩ := cCol_of HC3.out.blk
      obtain ⟨Rc0, Rc1, Rc2, Rf0, Rf1, Rf2⟩ := cCol_of HR3.out.blk
      go_wp2_with fail
      refine bodyPost_ret (ret_cellCol rfl _ w.heap.size rfl _ _ _ _ (blkPutCol HR3.out.blk _ _ _)) rfl ?_
      rw [HM.out]
      exact ⟨⟨_, rfl, rfl⟩, (HD3.out.pr.keep (frPutCol (Fr.refl [some w.heap.size] _) (.inl (by simp)) _ _ _) (by simp; omega) (by simp; omega)), (frPutCol HD3.out.fr (.inr HR3.out.ge) _ _ _)⟩
    · have HI := Lib.hid hi
      clear hi
      go_wp2_with fail
      refine (skips_yes P g s2 [114, 101, 102] _ (HD2.out.set (by omega)).pr HI.out).mono ?_
      rintro e w3 ⟨rfl, h3, hf3⟩
      have hi3 := HI.out
      obtain ⟨s3, hq3⟩ : ∃ x, PM.skip s2 = x := ⟨_, rfl⟩
      rw [hq3] at h3
      have HQ3 := Lib.hid hq3
      have HI3 := Lib.hid hi3
      clear hq3 hi3
      have HD3 : Hid (Bd w P g w3 s3) := Lib.hid ((HD2.out.set (by omega)).call h3 hf3)
      have HR3 : Hid (Ow w w3 w.heap.size 71 [.string ⟨#[]⟩, .int .i64 0, .string ⟨#[]⟩]) := Lib.hid ((HR2.out.other (by omega)).call HPL.out hf3)
      have HC3 : Hid (Ow w w3 w1.heap.size 71 [.string ⟨n.toArray⟩, (.int .i64 1), .string ⟨#[]⟩]) := Lib.hid ((HC2.out.set 1 (.int .i64 1)).call HPL.out hf3)
      have hs3 := hf3.size
      try simp only [World.size_setCell] at hs3
      have hlR3 := HR3.out.lt
      have hlC3 := HC3.out.lt
      have hp3 := HD3.out.pr.lt
      clear h3 hf3
      go_wp2_with fail
      refine (name_any P g s3 _ HD3.out.pr).mono ?_
      rintro e w4 ⟨rfl, h4, hf4⟩
      obtain ⟨r, s4, hq4⟩ : ∃ a b, PM.name s3 = (a, b) := ⟨_, _, rfl⟩
      rw [hq4] at h4 ⊢
      have HQ4 := Lib.hid hq4
      clear hq4
      have HD4 : Hid (Bd w P g w4 s4) := Lib.hid (HD3.out.call h4 hf4)
      have HR4 : Hid (Ow w w4 w.heap.size 71 [.string ⟨#[]⟩, .int .i64 0, .string ⟨#[]⟩]) := Lib.hid (HR3.out.call HPL.out hf4)
      have HC4 : Hid (Ow w w4 w1.heap.size 71 [.string ⟨n.toArray⟩, (.int .i64 1), .string ⟨#[]⟩]) := Lib.hid (HC3.out.call HPL.out hf4)
      have hs4 := hf4.size
      try simp only [World.size_alloc, World.size_setCell, World.size_drew] at hs4
      have hlR4 := HR4.out.lt
      have hlC4 := HC4.out.lt
      have hp4 := HD4.out.pr.lt
      clear h4 hf4
      have hnRC : ¬ w.heap.size = w1.heap.size := by omega
      have hnCR : ¬ w1.heap.size = w.heap.size := by omega
      obtain ⟨Cc0, Cc1, Cc2, Cf0, Cf1, Cf2⟩ := cCol_of HC4.out.blk
      have HM : Hid (PM.col s = (⟨n, 1, r⟩, s4)) := Lib.hid (by simp only [PM.col, HQ1.out, HI2.out, HQ2.out, HI3.out, HQ3.out, HQ4.out, if_true, eq_self])
      obtain ⟨Rc0, Rc1, Rc2, Rf0, Rf1, Rf2⟩ := cCol_of HR4.out.blk
      go_wp2_with fail
      refine bodyPost_ret (ret_cellCol rfl _ w.heap.size rfl _ _ _ _ (blkPutCol (HR4.out.other (by omega)).blk _ _ _)) rfl ?_
      rw [HM.out]
      exact ⟨⟨_, rfl, rfl⟩, ((HD4.out.set (by omega)).pr.keep (frPutCol (Fr.refl [some w.heap.size] _) (.inl (by simp)) _ _ _) (by simp; omega) (by simp; omega)), (frPutCol (HD4.out.set (by omega)).fr (.inr HR4.out.ge) _ _ _)⟩

theorem Bd.skip {w0 w : World} {P g off cap : Nat} {s : PS} (h : Bd w0 P g w s) (hc : w.cell? ⟨P, 0, none⟩ = some (.slice (some ⟨g, off, none⟩) s.l.length cap)) (hk : s.now.kind ≠ 6) : Bd w0 P g (w.setCell ⟨P, 0, none⟩ (.slice (some ⟨g, off + 4, none⟩) (s.l.length - 1) (cap - 1))) (PM.skip s) := ⟨h.pr.setSkip hc hk, h.fr.trans (frSet _), h.lt⟩
theorem col_cells {b : Nat} {w : World} {e : Ending} {x : Ex} (h : ExR b w e x) : ∃ (op kind int : Int) (t tb n : B) (l : List Ex) (a : Option Addr) (len cap : Nat), x = .mk op kind int t tb n l ∧ e = .returned (.agg #[.int .i64 op, .int .i64 kind, .int .i64 int, .string ⟨t.toArray⟩, .string ⟨tb.toArray⟩, .string ⟨n.toArray⟩, .slice a len cap]) ∧
    Rep.E 40 (fun g => b ≤ g) w x [.int .i64 op, .int .i64 kind, .int .i64 int, .string ⟨t.toArray⟩, .string ⟨tb.toArray⟩, .string ⟨n.toArray⟩, .slice a len cap] := by
  obtain ⟨cs, rfl, hr⟩ := h
  have hr' := hr
  cases hr with
  | mk op kind int t tb n args v hv =>
    obtain ⟨a, len, cap, rfl⟩ := hv.form
    exact ⟨op, kind, int, t, tb, n, args, a, len, cap, rfl, rfl, hr'⟩
def aggs : List (B × Int) := [([115, 117, 109], 2), ([109, 105, 110], 3), ([109, 97, 120], 4)]
theorem find_agg (wd : B) : (if wd = [115, 117, 109] then (2 : Int) else if wd = [109, 105, 110] then 3 else if wd = [109, 97, 120] then 4 else 0) = (find aggs wd).getD 0 := by
  simp only [aggs, find]
  by_cases h1 : wd = [115, 117, 109]
  · rw [if_pos h1, if_pos h1]; rfl
  · rw [if_neg h1, if_neg h1]
    by_cases h2 : wd = [109, 105, 110]
    · rw [if_pos h2, if_pos h2]; rfl
    · rw [if_neg h2, if_neg h2]
      by_cases h3 : wd = [109, 97, 120]
      · rw [if_pos h3, if_pos h3]; rfl
      · rw [if_neg h3, if_neg h3]; rfl
theorem sign_kind {s : PS} (h : PM.sign s ≠ []) : s.now.kind ≠ 6 := by
  intro h6
  apply h
  rw [PM.sign, PM.wordy, h6]
  simp

set_option maxRecDepth 100000 in
set_option maxHeartbeats 4000000 in
theorem item_any (P g : Nat) (s : PS) (w : World) (h : PR w P g s) :
    Calls Tryd.prog 58 #[.pointer (some ⟨P, 0, none⟩)] w fun e w' => (∃ cs, e = .returned (agg cs) ∧ kIt.E (fun b => w.heap.size ≤ b) w' (PM.item s).1 cs) ∧ PR w' P g (PM.item s).2 ∧ Fr [some P] w w' := by
  have hPl := h.lt
  have hgP := h.ne
  have HPL := Lib.hid hPl
  have HD : Hid (Bd w P g w s) := Lib.hid (Bd.start h)
  clear h
  go_enter Tryd.func58, Tryd.ntmps58
  cases hi : PM.is [99, 111, 117, 110, 116] s
  · have HI := Lib.hid hi
    clear hi
    go_wp2_with fail
    refine (skips_no P g s [99, 111, 117, 110, 116] _ (HD.out.alloc _).pr HI.out).mono ?_
    rintro e w1 ⟨rfl, h1, hf1⟩
    have HI1 := Lib.hid HI.out
    have HD1 : Hid (Bd w P g w1 s) := Lib.hid ((HD.out.alloc _).call h1 hf1)
    have HR1 : Hid (Ow w w1 w.heap.size 73 [.int .i64 0, .string ⟨#[]⟩, .string ⟨#[]⟩]) := Lib.hid ((Ow.new (by omega) 73 [.int .i64 0, .string ⟨#[]⟩, .string ⟨#[]⟩]).call HPL.out hf1)
    have hs1 := hf1.size
    try simp only [World.size_alloc] at hs1
    have hlR1 := HR1.out.lt
    have hp1 := HD1.out.pr.lt
    clear h1 hf1
    have hmk := fun w => run_make w
    have hp50 := run_put w1 [] [115, 117, 109] 2 (by simp)
    simp only [List.nil_append] at hp50
    have hp51 := run_put w1 [([115, 117, 109], 2)] [109, 105, 110] 3 (by simp)
    simp only [List.cons_append, List.nil_append] at hp51
    have hp52 := run_put w1 [([115, 117, 109], 2), ([109, 105, 110], 3)] [109, 97, 120] 4 (by simp)
    simp only [List.cons_append, List.nil_append] at hp52
    go_wp2_with fail
    refine (sign_any P g s _ (HD1.out.alloc _).pr).mono ?_
    rintro e w2 ⟨rfl, h2, hf2⟩
    have hlk := (run_look w2 w1.heap.size aggs (PM.sign s) ((hf2.blk (by simp) (by simp)).trans (heap_alloc_new w1 (mapObj aggs)))).2
    obtain ⟨sg, hsg⟩ : ∃ sg, PM.sign s = sg := ⟨_, rfl⟩
    rw [hsg] at hlk ⊢
    have HSG := Lib.hid hsg
    obtain ⟨ag, hag⟩ : ∃ ag, (find aggs sg).getD 0 = ag := ⟨_, rfl⟩
    rw [hag] at hlk
    have HAG := Lib.hid hag
    clear hsg hag hmk hp50 hp51 hp52
    have HD2 : Hid (Bd w P g w2 s) := Lib.hid ((HD1.out.alloc _).call0 h2 hf2)
    have HR2 : Hid (Ow w w2 w.heap.size 73 [.int .i64 0, .string ⟨#[]⟩, .string ⟨#[]⟩]) := Lib.hid ((HR1.out.alloc _).call0 hf2)
    have hs2 := hf2.size
    try simp only [World.size_alloc] at hs2
    have hlR2 := HR2.out.lt
    have hp2 := HD2.out.pr.lt
    clear h2 hf2
    by_cases ha : ag = 0
    · have HA := Lib.hid ha
      subst ha
      go_wp2_with fail
      refine (column_any P g w2.heap.size s _ HD2.out.pr).mono ?_
      rintro e w3 ⟨hx, h3, hf3⟩
      obtain ⟨cx, s1, hq3⟩ : ∃ a b, PM.column s = (a, b) := ⟨_, _, rfl⟩
      rw [hq3] at h3 hx
      have HQ3 := Lib.hid hq3
      obtain ⟨co, ck, ci, cz, ct, cn, cl, ca, ce, cc, rfl, rfl, hrep⟩ := col_cells hx
      have Hcp := Lib.hid hrep
      clear hq3 hx hrep
      have HD3 : Hid (Bd w P g w3 s1) := Lib.hid (HD2.out.call h3 hf3)
      have HR3 : Hid (Ow w w3 w.heap.size 73 [.int .i64 0, .string ⟨#[]⟩, .string ⟨#[]⟩]) := Lib.hid (HR2.out.call HPL.out hf3)
      have hs3 := hf3.size
      try simp only [World.size_alloc, World.size_setCell, World.size_drew] at hs3
      have hlR3 := HR3.out.lt
      have hp3 := HD3.out.pr.lt
      clear h3 hf3
      have HM : Hid (PM.item s = (⟨0, ct, cn⟩, s1)) := Lib.hid (by simp only [PM.item, find_agg, HI1.out, HSG.out, HAG.out, HQ3.out, if_true, if_false, Bool.false_eq_true, eq_self])
      obtain ⟨Rc0, Rc1, Rc2, Rf0, Rf1, Rf2⟩ := cIt_of HR3.out.blk
      go_wp2_with fail
      refine bodyPost_ret (ret_cellIt rfl _ w.heap.size rfl _ _ _ _ (Blk.alloc (blkPutIt HR3.out.blk _ _ _) _)) rfl ?_
      rw [HM.out]
      exact ⟨⟨_, rfl, rfl⟩, ((HD3.out.pr.keep (frPutIt (Fr.refl [some w.heap.size] _) (.inl (by simp)) _ _ _) (by simp; omega) (by simp; omega)).alloc _), ((frPutIt HD3.out.fr (.inr HR3.out.ge) _ _ _).alloc _)⟩
    · have hab : (ag == 0) = false := by simp [ha]
      have HA := Lib.hid ha
      have hk6 : s.now.kind ≠ 6 := sign_kind (by intro h; rw [HSG.out] at h; rw [h] at HAG; exact ha HAG.out.symm)
      have HK6 := Lib.hid hk6
      have h2l := WF.two HD2.out.pr.wf hk6
      obtain ⟨off, cp, hat⟩ := HD2.out.pr.at
      obtain ⟨c0, c1, c2, c3, f0, f1, f2, f3, t0, t1, t2, t3, hcap, hpos, hlim⟩ := hat
      have HC0 := Lib.hid c0
      have hpi : (1 : Int) < (s.l.length : Int) := by omega
      have hci : (s.l.length : Int) ≤ (cp : Int) := by omega
      have hc1 : ¬ cp = 1 := by omega
      clear ha hk6 c1 c2 c3 f1 f2 f3 t0 t1 t2 t3
      obtain ⟨s1, hqs⟩ : ∃ x, PM.skip s = x := ⟨_, rfl⟩
      have HQS := Lib.hid hqs
      clear hqs
      have HDS := Lib.hid (HD2.out.skip HC0.out HK6.out)
      rw [HQS.out] at HDS
      go_wp2_with fail
      refine (needs_new (n := w2.heap.size) HDS.out.pr [[40]] (by decide) (by simp)).mono ?_
      rintro e w3 ⟨rfl, h3, hf3⟩
      obtain ⟨s2, hq3⟩ : ∃ x, PM.needs [[40]] s1 = x := ⟨_, rfl⟩
      rw [hq3] at h3
      have HQ3 := Lib.hid hq3
      clear hq3 c0 f0 hlk
      have HD3 : Hid (Bd w P g w3 s2) := Lib.hid ((HDS.out.alloc _).call h3 hf3)
      have HR3 : Hid (Ow w w3 w.heap.size 73 [.int .i64 0, .string ⟨#[]⟩, .string ⟨#[]⟩]) := Lib.hid (((HR2.out.other (by omega)).alloc _).call HPL.out hf3)
      have hs3 := hf3.size
      try simp only [World.size_alloc, World.size_setCell] at hs3
      have hlR3 := HR3.out.lt
      have hp3 := HD3.out.pr.lt
      clear h3 hf3
      go_wp2_with fail
      refine (column_any P g w3.heap.size s2 _ HD3.out.pr).mono ?_
      rintro e w4 ⟨hx, h4, hf4⟩
      obtain ⟨cx, s3, hq4⟩ : ∃ a b, PM.column s2 = (a, b) := ⟨_, _, rfl⟩
      rw [hq4] at h4 hx
      have HQ4 := Lib.hid hq4
      obtain ⟨co, ck, ci, cz, ct, cn, cl, ca, ce, cc, rfl, rfl, hrep⟩ := col_cells hx
      have Hcp := Lib.hid hrep
      clear hq4 hx hrep
      have HD4 : Hid (Bd w P g w4 s3) := Lib.hid (HD3.out.call h4 hf4)
      have HR4 : Hid (Ow w w4 w.heap.size 73 [.int .i64 0, .string ⟨#[]⟩, .string ⟨#[]⟩]) := Lib.hid (HR3.out.call HPL.out hf4)
      have hs4 := hf4.size
      try simp only [World.size_alloc, World.size_setCell, World.size_drew] at hs4
      have hlR4 := HR4.out.lt
      have hp4 := HD4.out.pr.lt
      clear h4 hf4
      go_wp2_with fail
      refine (needs_new (n := w4.heap.size + 1) (HD4.out.alloc _).pr [[41]] (by decide) (by simp)).mono ?_
      rintro e w5 ⟨rfl, h5, hf5⟩
      obtain ⟨s4, hq5⟩ : ∃ x, PM.needs [[41]] s3 = x := ⟨_, rfl⟩
      rw [hq5] at h5
      have HQ5 := Lib.hid hq5
      clear hq5
      have HD5 : Hid (Bd w P g w5 s4) := Lib.hid (((HD4.out.alloc _).alloc _).call h5 hf5)
      have HR5 : Hid (Ow w w5 w.heap.size 73 [.int .i64 0, .string ⟨#[]⟩, .string ⟨#[]⟩]) := Lib.hid (((HR4.out.alloc _).alloc _).call HPL.out hf5)
      have HC5 : Hid (Ow w w5 w4.heap.size 40 [.int .i64 co, .int .i64 ck, .int .i64 ci, .string ⟨cz.toArray⟩, .string ⟨ct.toArray⟩, .string ⟨cn.toArray⟩, .slice ca ce cc]) := Lib.hid (((Ow.new (by omega) 40 [.int .i64 co, .int .i64 ck, .int .i64 ci, .string ⟨cz.toArray⟩, .string ⟨ct.toArray⟩, .string ⟨cn.toArray⟩, .slice ca ce cc]).alloc _).call HPL.out hf5)
      have hs5 := hf5.size
      try simp only [World.size_alloc] at hs5
      have hlR5 := HR5.out.lt
      have hlC5 := HC5.out.lt
      have hp5 := HD5.out.pr.lt
      clear h5 hf5
      obtain ⟨Cc0, Cc1, Cc2, Cc3, Cc4, Cc5, Cc6, Cf0, Cf1, Cf2, Cf3, Cf4, Cf5, Cf6⟩ := c7_of HC5.out.blk
      have hnRC : ¬ w.heap.size = w4.heap.size := by omega
      have hnCR : ¬ w4.heap.size = w.heap.size := by omega
      have HM : Hid (PM.item s = (⟨ag, ct, cn⟩, s4)) := Lib.hid (by simp only [PM.item, find_agg, HI1.out, HSG.out, HAG.out, HA.out, HQS.out, HQ3.out, HQ4.out, HQ5.out, if_false, Bool.false_eq_true, eq_self])
      obtain ⟨Rc0, Rc1, Rc2, Rf0, Rf1, Rf2⟩ := cIt_of HR5.out.blk
      go_wp2_with fail
      refine bodyPost_ret (ret_cellIt rfl _ w.heap.size rfl _ _ _ _ (blkPutIt HR5.out.blk _ _ _)) rfl ?_
      rw [HM.out]
      exact ⟨⟨_, rfl, rfl⟩, (HD5.out.pr.keep (frPutIt (Fr.refl [some w.heap.size] _) (.inl (by simp)) _ _ _) (by simp; omega) (by simp; omega)), (frPutIt HD5.out.fr (.inr HR5.out.ge) _ _ _)⟩
  · have HI := Lib.hid hi
    clear hi
    go_wp2_with fail
    refine (skips_yes P g s [99, 111, 117, 110, 116] _ (HD.out.alloc _).pr HI.out).mono ?_
    rintro e w1 ⟨rfl, h1, hf1⟩
    have hi1 := HI.out
    obtain ⟨s1, hq1⟩ : ∃ x, PM.skip s = x := ⟨_, rfl⟩
    rw [hq1] at h1
    have HQ1 := Lib.hid hq1
    have HI1 := Lib.hid hi1
    clear hq1 hi1
    have HD1 : Hid (Bd w P g w1 s1) := Lib.hid ((HD.out.alloc _).call h1 hf1)
    have HR1 : Hid (Ow w w1 w.heap.size 73 [.int .i64 0, .string ⟨#[]⟩, .string ⟨#[]⟩]) := Lib.hid ((Ow.new (by omega) 73 [.int .i64 0, .string ⟨#[]⟩, .string ⟨#[]⟩]).call HPL.out hf1)
    have hs1 := hf1.size
    try simp only [World.size_alloc] at hs1
    have hlR1 := HR1.out.lt
    have hp1 := HD1.out.pr.lt
    clear h1 hf1
    go_wp2_with fail
    refine (needs_new (n := w1.heap.size) HD1.out.pr [[40], [42], [41]] (by decide) (by simp)).mono ?_
    rintro e w2 ⟨rfl, h2, hf2⟩
    obtain ⟨s2, hq2⟩ : ∃ x, PM.needs [[40], [42], [41]] s1 = x := ⟨_, rfl⟩
    rw [hq2] at h2
    have HQ2 := Lib.hid hq2
    clear hq2
    have HD2 : Hid (Bd w P g w2 s2) := Lib.hid ((HD1.out.alloc _).call h2 hf2)
    have HR2 : Hid (Ow w w2 w.heap.size 73 [.int .i64 0, .string ⟨#[]⟩, .string ⟨#[]⟩]) := Lib.hid ((HR1.out.alloc _).call HPL.out hf2)
    have hs2 := hf2.size
    try simp only [World.size_alloc] at hs2
    have hlR2 := HR2.out.lt
    have hp2 := HD2.out.pr.lt
    clear h2 hf2
    have HM : Hid (PM.item s = (⟨1, [], []⟩, s2)) := Lib.hid (by simp only [PM.item, find_agg, HI1.out, HQ1.out, HQ2.out, if_true, eq_self])
    obtain ⟨Rc0, Rc1, Rc2, Rf0, Rf1, Rf2⟩ := cIt_of HR2.out.blk
    go_wp2_with fail
    refine bodyPost_ret (ret_cellIt rfl _ w.heap.size rfl _ _ _ _ (blkPutIt HR2.out.blk _ _ _)) rfl ?_
    rw [HM.out]
    exact ⟨⟨_, rfl, rfl⟩, (HD2.out.pr.keep (frPutIt (Fr.refl [some w.heap.size] _) (.inl (by simp)) _ _ _) (by simp; omega) (by simp; omega)), (frPutIt HD2.out.fr (.inr HR2.out.ge) _ _ _)⟩
end Px
end Go.Proofs.YtpmgecnkcllneaaDoor
