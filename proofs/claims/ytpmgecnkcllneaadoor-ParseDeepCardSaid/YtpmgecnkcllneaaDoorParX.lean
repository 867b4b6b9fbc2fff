/- parse: stmt. -/
import Derived.Test.YtpmgecnkcllneaaDoorParW
namespace Go.Proofs.YtpmgecnkcllneaaDoor
open Go.RowKit
namespace Px
open PM (PS B Ex)

theorem data_none {n : Nat} {s : PS} (k2 : PM.is [105, 110, 115, 101, 114, 116] s = false) (k3 : PM.is [115, 101, 108, 101, 99, 116] s = false) (k4 : PM.is [117, 112, 100, 97, 116, 101] s = false) (k5 : PM.is [100, 101, 108, 101, 116, 101] s = false) : PM.data n s = none := by
  rw [PM.data, if_neg (by rw [k2]; decide), if_neg (by rw [k3]; decide), if_neg (by rw [k4]; decide), if_neg (by rw [k5]; decide)]
theorem stmt_7 {n : Nat} {s : PS} (k1 : PM.is [99, 114, 101, 97, 116, 101] s = false) (k2 : PM.is [105, 110, 115, 101, 114, 116] s = false) (k3 : PM.is [115, 101, 108, 101, 99, 116] s = false) (k4 : PM.is [117, 112, 100, 97, 116, 101] s = false) (k5 : PM.is [100, 101, 108, 101, 116, 101] s = false) (k6 : PM.is [114, 97, 105, 115, 101] s = false) (k7 : PM.is [99, 97, 108, 108] s = false) : PM.stmt n s = if PM.is [98, 101, 103, 105, 110] s then (.ofKind 9, PM.skip s) else if PM.is [99, 111, 109, 109, 105, 116] s then (.ofKind 10, PM.skip s) else if PM.is [114, 111, 108, 108, 98, 97, 99, 107] s then (.ofKind 11, PM.skip s) else (.zero, PM.fails 5 s) := by
  rw [PM.stmt, if_neg (by rw [k1]; decide), data_none k2 k3 k4 k5]
  simp only []
  rw [if_neg (by rw [k6]; decide), if_neg (by rw [k7]; decide)]
theorem stmt_kind {n : Nat} {s : PS} (k1 : PM.is [99, 114, 101, 97, 116, 101] s = false) (k2 : PM.is [105, 110, 115, 101, 114, 116] s = false) (k3 : PM.is [115, 101, 108, 101, 99, 116] s = false) (k4 : PM.is [117, 112, 100, 97, 116, 101] s = false) (k5 : PM.is [100, 101, 108, 101, 116, 101] s = false) (k6 : PM.is [114, 97, 105, 115, 101] s = false) (k7 : PM.is [99, 97, 108, 108] s = false) {j : Nat} {hj : j < kinds.length} (h : PM.is kinds[j].1 s = true) : PM.stmt n s = (.ofKind kinds[j].2, PM.skip s) := by
  rw [stmt_7 k1 k2 k3 k4 k5 k6 k7]
  have hj3 : j < 3 := hj
  rcases (by omega : j = 0 ∨ j = 1 ∨ j = 2) with rfl | rfl | rfl
  · exact if_pos h
  · have h' : PM.is [99, 111, 109, 109, 105, 116] s = true := h
    rw [if_neg (by rw [is_ne h' (by decide)]; decide)]
    exact if_pos h
  · have h' : PM.is [114, 111, 108, 108, 98, 97, 99, 107] s = true := h
    rw [if_neg (by rw [is_ne h' (by decide)]; decide), if_neg (by rw [is_ne h' (by decide)]; decide)]
    exact if_pos h
theorem stmt_none {n : Nat} {s : PS} (k1 : PM.is [99, 114, 101, 97, 116, 101] s = false) (k2 : PM.is [105, 110, 115, 101, 114, 116] s = false) (k3 : PM.is [115, 101, 108, 101, 99, 116] s = false) (k4 : PM.is [117, 112, 100, 97, 116, 101] s = false) (k5 : PM.is [100, 101, 108, 101, 116, 101] s = false) (k6 : PM.is [114, 97, 105, 115, 101] s = false) (k7 : PM.is [99, 97, 108, 108] s = false) (h : ∀ j (hj : j < kinds.length), PM.is kinds[j].1 s = false) : PM.stmt n s = (.zero, PM.fails 5 s) := by
  rw [stmt_7 k1 k2 k3 k4 k5 k6 k7]
  have h0 := h 0 (by decide)
  have h1 := h 1 (by decide)
  have h2 := h 2 (by decide)
  rw [if_neg (by rw [show PM.is [98, 101, 103, 105, 110] s = false from h0]; decide), if_neg (by rw [show PM.is [99, 111, 109, 109, 105, 116] s = false from h1]; decide), if_neg (by rw [show PM.is [114, 111, 108, 108, 98, 97, 99, 107] s = false from h2]; decide)]

set_option maxRecDepth 100000 in
set_option maxHeartbeats 10000000 in
theorem stmt_create (P g n : Nat) (s : PS) (w : World) (h : PR w P g s) (h0 : 0 ≤ s.deep) (h64 : s.deep ≤ 64) (hn : s.l.length ≤ n) (hb : s.l.length ≤ 1000) (hi : PM.is [99, 114, 101, 97, 116, 101] s = true) :
    Calls Tryd.prog 17 #[.pointer (some ⟨P, 0, none⟩)] w fun e w' => StR w.heap.size w' e (PM.stmt n s).1 ∧ PR w' P g (PM.stmt n s).2 ∧ Fr [some P] w w' := by
  have hPl := h.lt
  have hgP := h.ne
  have HPL := Lib.hid hPl
  have HD : Hid (Bd w P g w s) := Lib.hid (Bd.start h)
  have HX := Lib.hid hi
  clear hi
  have HN := Lib.hid (And.intro h0 (And.intro h64 (And.intro hn hb)))
  have HG0 := Lib.hid (PM.Le.refl s)
  clear h h0 h64 hn hb
  go_enter Tryd.func17, Tryd.ntmps17
  have HI := HX
  go_wp2_with fail
  refine (skips_yes P g s [99, 114, 101, 97, 116, 101] _ (HD.out.alloc _).pr HI.out).mono ?_
  rintro e w1 ⟨rfl, h1, hf1⟩
  have hi1 := HI.out
  obtain ⟨s1, hq1⟩ : ∃ x, PM.skip s = x := ⟨_, rfl⟩
  rw [hq1] at h1
  have HQ1 := Lib.hid hq1
  have HI1 := Lib.hid hi1
  clear hq1 hi1
  have HD1 : Hid (Bd w P g w1 s1) := Lib.hid ((HD.out.alloc _).call h1 hf1)
  have HR1 : Hid (Ow w w1 w.heap.size 30 [.int .i64 0, .string ⟨#[]⟩, .string ⟨#[]⟩, .slice none 0 0, .slice none 0 0, .slice none 0 0, .slice none 0 0, .string ⟨#[]⟩, .slice none 0 0, .slice none 0 0, .slice none 0 0, .bool false, .slice none 0 0]) := Lib.hid ((Ow.new (by omega) 30 [.int .i64 0, .string ⟨#[]⟩, .string ⟨#[]⟩, .slice none 0 0, .slice none 0 0, .slice none 0 0, .slice none 0 0, .string ⟨#[]⟩, .slice none 0 0, .slice none 0 0, .slice none 0 0, .bool false, .slice none 0 0]).call HPL.out hf1)
  have hs1 := hf1.size
  simp only [World.size_alloc] at hs1
  have hlR1 := HR1.out.lt
  have hp1 := HD1.out.pr.lt
  clear h1 hf1
  have HG1 : Hid (PM.Le s1 s) := Lib.hid (HG0.out.calm PM.calm_skip HQ1.out)
  obtain ⟨sx, s2, hqd⟩ : ∃ a b, PM.create n s1 = (a, b) := ⟨_, _, rfl⟩
  have HQD := Lib.hid hqd
  clear hqd
  go_wp2_with fail
  refine (create_any P g n s1 _ HD1.out.pr (by have := HG1.out.1; have := HN.out; omega) (by have := HG1.out.1; have := HN.out; omega) (by have := HG1.out.2; have := HN.out; omega) (by have := HG1.out.2; have := HN.out; omega) HQD.out).mono ?_
  rintro e w2 ⟨hx, h2, hf2⟩
  obtain ⟨kind, table, name, join, a3, a4, a5, a6, a8, a9, a10, a12, l3, l4, l5, l6, l8, l9, l10, l12, c3, c4, c5, c6, c8, c9, c10, c12, desc, rfl, hrep⟩ := st_cells hx
  have HREP := Lib.hid hrep
  clear hx hrep
  have HD2 : Hid (Bd w P g w2 s2) := Lib.hid (HD1.out.call h2 hf2)
  have HR2 : Hid (Ow w w2 w.heap.size 30 [.int .i64 0, .string ⟨#[]⟩, .string ⟨#[]⟩, .slice none 0 0, .slice none 0 0, .slice none 0 0, .slice none 0 0, .string ⟨#[]⟩, .slice none 0 0, .slice none 0 0, .slice none 0 0, .bool false, .slice none 0 0]) := Lib.hid (HR1.out.call HPL.out hf2)
  have hs2 := hf2.size
  have hlR2 := HR2.out.lt
  have hp2 := HD2.out.pr.lt
  clear h2 hf2
  have HM : Hid (PM.stmt n s = (sx, s2)) := Lib.hid (by simp only [PM.stmt, HI1.out, HQ1.out, HQD.out, if_true, eq_self])
  obtain ⟨Rc0, Rc1, Rc2, Rc3, Rc4, Rc5, Rc6, Rc7, Rc8, Rc9, Rc10, Rc11, Rc12, Rf0, Rf1, Rf2, Rf3, Rf4, Rf5, Rf6, Rf7, Rf8, Rf9, Rf10, Rf11, Rf12⟩ := c13_of HR2.out.blk
  go_wp2_with fail
  refine bodyPost_ret (ret_cell13 rfl _ w.heap.size rfl _ _ _ _ _ _ _ _ _ _ _ _ _ _ (blkPut13 HR2.out.blk _ _ _ _ _ _ _ _ _ _ _ _ _)) rfl ?_
  rw [HM.out]
  exact st_end HD2.out (frPut13 (Fr.refl [some w.heap.size] _) (.inl (by simp)) _ _ _ _ _ _ _ _ _ _ _ _ _) (Nat.le_refl _) (SR.mono (fun b hb => by first | omega | (simp at hb; omega)) HREP.out)
set_option maxRecDepth 100000 in
set_option maxHeartbeats 10000000 in
theorem stmt_raise (P g n : Nat) (s : PS) (w : World) (h : PR w P g s) (h0 : 0 ≤ s.deep) (h64 : s.deep ≤ 64) (hn : s.l.length ≤ n) (hb : s.l.length ≤ 1000) (hi : PM.is [114, 97, 105, 115, 101] s = true) :
    Calls Tryd.prog 17 #[.pointer (some ⟨P, 0, none⟩)] w fun e w' => StR w.heap.size w' e (PM.stmt n s).1 ∧ PR w' P g (PM.stmt n s).2 ∧ Fr [some P] w w' := by
  have hPl := h.lt
  have hgP := h.ne
  have HPL := Lib.hid hPl
  have HD : Hid (Bd w P g w s) := Lib.hid (Bd.start h)
  have HX := Lib.hid hi
  clear hi
  have HN := Lib.hid (And.intro h0 (And.intro h64 (And.intro hn hb)))
  have HG0 := Lib.hid (PM.Le.refl s)
  clear h h0 h64 hn hb
  go_enter Tryd.func17, Tryd.ntmps17
  have HI := Lib.hid (is_ne (b := [99, 114, 101, 97, 116, 101]) HX.out (by decide))
  go_wp2_with fail
  refine (skips_no P g s [99, 114, 101, 97, 116, 101] _ (HD.out.alloc _).pr HI.out).mono ?_
  rintro e w1 ⟨rfl, h1, hf1⟩
  have HI1 := Lib.hid HI.out
  have HD1 : Hid (Bd w P g w1 s) := Lib.hid ((HD.out.alloc _).call h1 hf1)
  have HR1 : Hid (Ow w w1 w.heap.size 30 [.int .i64 0, .string ⟨#[]⟩, .string ⟨#[]⟩, .slice none 0 0, .slice none 0 0, .slice none 0 0, .slice none 0 0, .string ⟨#[]⟩, .slice none 0 0, .slice none 0 0, .slice none 0 0, .bool false, .slice none 0 0]) := Lib.hid ((Ow.new (by omega) 30 [.int .i64 0, .string ⟨#[]⟩, .string ⟨#[]⟩, .slice none 0 0, .slice none 0 0, .slice none 0 0, .slice none 0 0, .string ⟨#[]⟩, .slice none 0 0, .slice none 0 0, .slice none 0 0, .bool false, .slice none 0 0]).call HPL.out hf1)
  have hs1 := hf1.size
  simp only [World.size_alloc] at hs1
  have hlR1 := HR1.out.lt
  have hp1 := HD1.out.pr.lt
  clear h1 hf1
  have HI := Lib.hid (is_ne (b := [105, 110, 115, 101, 114, 116]) HX.out (by decide))
  go_wp2_with fail
  refine (skips_no P g s [105, 110, 115, 101, 114, 116] _ HD1.out.pr HI.out).mono ?_
  rintro e w2 ⟨rfl, h2, hf2⟩
  have HI2 := Lib.hid HI.out
  have HD2 : Hid (Bd w P g w2 s) := Lib.hid (HD1.out.call h2 hf2)
  have HR2 : Hid (Ow w w2 w.heap.size 30 [.int .i64 0, .string ⟨#[]⟩, .string ⟨#[]⟩, .slice none 0 0, .slice none 0 0, .slice none 0 0, .slice none 0 0, .string ⟨#[]⟩, .slice none 0 0, .slice none 0 0, .slice none 0 0, .bool false, .slice none 0 0]) := Lib.hid (HR1.out.call HPL.out hf2)
  have hs2 := hf2.size
  have hlR2 := HR2.out.lt
  have hp2 := HD2.out.pr.lt
  clear h2 hf2
  have HI := Lib.hid (is_ne (b := [115, 101, 108, 101, 99, 116]) HX.out (by decide))
  go_wp2_with fail
  refine (skips_no P g s [115, 101, 108, 101, 99, 116] _ HD2.out.pr HI.out).mono ?_
  rintro e w3 ⟨rfl, h3, hf3⟩
  have HI3 := Lib.hid HI.out
  have HD3 : Hid (Bd w P g w3 s) := Lib.hid (HD2.out.call h3 hf3)
  have HR3 : Hid (Ow w w3 w.heap.size 30 [.int .i64 0, .string ⟨#[]⟩, .string ⟨#[]⟩, .slice none 0 0, .slice none 0 0, .slice none 0 0, .slice none 0 0, .string ⟨#[]⟩, .slice none 0 0, .slice none 0 0, .slice none 0 0, .bool false, .slice none 0 0]) := Lib.hid (HR2.out.call HPL.out hf3)
  have hs3 := hf3.size
  have hlR3 := HR3.out.lt
  have hp3 := HD3.out.pr.lt
  clear h3 hf3
  have HI := Lib.hid (is_ne (b := [117, 112, 100, 97, 116, 101]) HX.out (by decide))
  go_wp2_with fail
  refine (skips_no P g s [117, 112, 100, 97, 116, 101] _ HD3.out.pr HI.out).mono ?_
  rintro e w4 ⟨rfl, h4, hf4⟩
  have HI4 := Lib.hid HI.out
  have HD4 : Hid (Bd w P g w4 s) := Lib.hid (HD3.out.call h4 hf4)
  have HR4 : Hid (Ow w w4 w.heap.size 30 [.int .i64 0, .string ⟨#[]⟩, .string ⟨#[]⟩, .slice none 0 0, .slice none 0 0, .slice none 0 0, .slice none 0 0, .string ⟨#[]⟩, .slice none 0 0, .slice none 0 0, .slice none 0 0, .bool false, .slice none 0 0]) := Lib.hid (HR3.out.call HPL.out hf4)
  have hs4 := hf4.size
  have hlR4 := HR4.out.lt
  have hp4 := HD4.out.pr.lt
  clear h4 hf4
  have HI := Lib.hid (is_ne (b := [100, 101, 108, 101, 116, 101]) HX.out (by decide))
  go_wp2_with fail
  refine (skips_no P g s [100, 101, 108, 101, 116, 101] _ HD4.out.pr HI.out).mono ?_
  rintro e w5 ⟨rfl, h5, hf5⟩
  have HI5 := Lib.hid HI.out
  have HD5 : Hid (Bd w P g w5 s) := Lib.hid (HD4.out.call h5 hf5)
  have HR5 : Hid (Ow w w5 w.heap.size 30 [.int .i64 0, .string ⟨#[]⟩, .string ⟨#[]⟩, .slice none 0 0, .slice none 0 0, .slice none 0 0, .slice none 0 0, .string ⟨#[]⟩, .slice none 0 0, .slice none 0 0, .slice none 0 0, .bool false, .slice none 0 0]) := Lib.hid (HR4.out.call HPL.out hf5)
  have hs5 := hf5.size
  have hlR5 := HR5.out.lt
  have hp5 := HD5.out.pr.lt
  clear h5 hf5
  have HI := HX
  go_wp2_with fail
  refine (skips_yes P g s [114, 97, 105, 115, 101] _ HD5.out.pr HI.out).mono ?_
  rintro e w6 ⟨rfl, h6, hf6⟩
  have hi6 := HI.out
  obtain ⟨s1, hq6⟩ : ∃ x, PM.skip s = x := ⟨_, rfl⟩
  rw [hq6] at h6
  have HQ6 := Lib.hid hq6
  have HI6 := Lib.hid hi6
  clear hq6 hi6
  have HD6 : Hid (Bd w P g w6 s1) := Lib.hid (HD5.out.call h6 hf6)
  have HR6 : Hid (Ow w w6 w.heap.size 30 [.int .i64 0, .string ⟨#[]⟩, .string ⟨#[]⟩, .slice none 0 0, .slice none 0 0, .slice none 0 0, .slice none 0 0, .string ⟨#[]⟩, .slice none 0 0, .slice none 0 0, .slice none 0 0, .bool false, .slice none 0 0]) := Lib.hid (HR5.out.call HPL.out hf6)
  have hs6 := hf6.size
  have hlR6 := HR6.out.lt
  have hp6 := HD6.out.pr.lt
  clear h6 hf6
  have HG6 : Hid (PM.Le s1 s) := Lib.hid (HG0.out.calm PM.calm_skip HQ6.out)
  obtain ⟨tg, s2, hq7⟩ : ∃ a b, PM.list PM.tag s1 = (a, b) := ⟨_, _, rfl⟩
  have HQ7 := Lib.hid hq7
  clear hq7
  go_wp2_with fail
  refine (list_tag' n HD6.out.pr (by have := HG6.out.1; have := HN.out; omega) (by have := HG6.out.1; have := HN.out; omega) (by have := HG6.out.2; have := HN.out; omega) (by have := HG6.out.2; have := HN.out; omega) HQ7.out).mono ?_
  rintro e w7 ⟨⟨tga, tgl, tgc, rfl, hv⟩, h7, hf7⟩
  have HD7 : Hid (Bd w P g w7 s2) := Lib.hid (HD6.out.call h7 hf7)
  have HR7 : Hid (Ow w w7 w.heap.size 30 [.int .i64 0, .string ⟨#[]⟩, .string ⟨#[]⟩, .slice none 0 0, .slice none 0 0, .slice none 0 0, .slice none 0 0, .string ⟨#[]⟩, .slice none 0 0, .slice none 0 0, .slice none 0 0, .bool false, .slice none 0 0]) := Lib.hid (HR6.out.call HPL.out hf7)
  have hs7 := hf7.size
  have hlR7 := HR7.out.lt
  have hp7 := HD7.out.pr.lt
  clear h7 hf7
  have HG7 : Hid (PM.Le s2 s) := Lib.hid (HG6.out.good (PM.good_list PM.good_tag) HQ7.out)
  have HTg7 := Lib.hid (FlatS.mono (A' := fun b => w.heap.size < b) (fun b hb => by first | omega | (simp at hb; omega)) hv)
  clear hv
  have HM : Hid (PM.stmt n s = (.mk 12 [] [] [] tg [] [] [] [] [] [] false [], s2)) := Lib.hid (by simp only [PM.stmt, PM.data, HI1.out, HI2.out, HI3.out, HI4.out, HI5.out, HI6.out, HQ6.out, HQ7.out, if_true, if_false, Bool.false_eq_true, eq_self])
  obtain ⟨Rc0, Rc1, Rc2, Rc3, Rc4, Rc5, Rc6, Rc7, Rc8, Rc9, Rc10, Rc11, Rc12, Rf0, Rf1, Rf2, Rf3, Rf4, Rf5, Rf6, Rf7, Rf8, Rf9, Rf10, Rf11, Rf12⟩ := c13_of HR7.out.blk
  go_wp2_with fail
  refine bodyPost_ret (ret_cell13 rfl _ w.heap.size rfl _ _ _ _ _ _ _ _ _ _ _ _ _ _ (blkPut13 HR7.out.blk _ _ _ _ _ _ _ _ _ _ _ _ _)) rfl ?_
  rw [HM.out]
  exact ⟨⟨_, rfl, .mk _ _ _ _ _ _ _ _ _ _ _ _ _ _ _ _ _ _ _ _ _ .nil (FlatS.mono (A' := fun b => w.heap.size ≤ b) (fun b hb => by omega) (FlatS.keep (frPut13 (Fr.refl [some w.heap.size] w7) (.inl (by simp)) _ _ _ _ _ _ _ _ _ _ _ _ _) (fun b hb => by simp; omega) HTg7.out)) Rep.Es.nil .nil Rep.Es.nil Rep.Es.nil Rep.Es.nil SS.nil⟩, (HD7.out.pr.keep (frPut13 (Fr.refl [some w.heap.size] _) (.inl (by simp)) _ _ _ _ _ _ _ _ _ _ _ _ _) (by simp; omega) (by simp; omega)), (frPut13 HD7.out.fr (.inr HR7.out.ge) _ _ _ _ _ _ _ _ _ _ _ _ _)⟩
set_option maxRecDepth 100000 in
set_option maxHeartbeats 10000000 in
theorem stmt_call (P g n : Nat) (s : PS) (w : World) (h : PR w P g s) (h0 : 0 ≤ s.deep) (h64 : s.deep ≤ 64) (hn : s.l.length ≤ n) (hb : s.l.length ≤ 1000) (hi : PM.is [99, 97, 108, 108] s = true) :
    Calls Tryd.prog 17 #[.pointer (some ⟨P, 0, none⟩)] w fun e w' => StR w.heap.size w' e (PM.stmt n s).1 ∧ PR w' P g (PM.stmt n s).2 ∧ Fr [some P] w w' := by
  have hPl := h.lt
  have hgP := h.ne
  have HPL := Lib.hid hPl
  have HD : Hid (Bd w P g w s) := Lib.hid (Bd.start h)
  have HX := Lib.hid hi
  clear hi
  have HN := Lib.hid (And.intro h0 (And.intro h64 (And.intro hn hb)))
  have HG0 := Lib.hid (PM.Le.refl s)
  clear h h0 h64 hn hb
  go_enter Tryd.func17, Tryd.ntmps17
  have HI := Lib.hid (is_ne (b := [99, 114, 101, 97, 116, 101]) HX.out (by decide))
  go_wp2_with fail
  refine (skips_no P g s [99, 114, 101, 97, 116, 101] _ (HD.out.alloc _).pr HI.out).mono ?_
  rintro e w1 ⟨rfl, h1, hf1⟩
  have HI1 := Lib.hid HI.out
  have HD1 : Hid (Bd w P g w1 s) := Lib.hid ((HD.out.alloc _).call h1 hf1)
  have HR1 : Hid (Ow w w1 w.heap.size 30 [.int .i64 0, .string ⟨#[]⟩, .string ⟨#[]⟩, .slice none 0 0, .slice none 0 0, .slice none 0 0, .slice none 0 0, .string ⟨#[]⟩, .slice none 0 0, .slice none 0 0, .slice none 0 0, .bool false, .slice none 0 0]) := Lib.hid ((Ow.new (by omega) 30 [.int .i64 0, .string ⟨#[]⟩, .string ⟨#[]⟩, .slice none 0 0, .slice none 0 0, .slice none 0 0, .slice none 0 0, .string ⟨#[]⟩, .slice none 0 0, .slice none 0 0, .slice none 0 0, .bool false, .slice none 0 0]).call HPL.out hf1)
  have hs1 := hf1.size
  simp only [World.size_alloc] at hs1
  have hlR1 := HR1.out.lt
  have hp1 := HD1.out.pr.lt
  clear h1 hf1
  have HI := Lib.hid (is_ne (b := [105, 110, 115, 101, 114, 116]) HX.out (by decide))
  go_wp2_with fail
  refine (skips_no P g s [105, 110, 115, 101, 114, 116] _ HD1.out.pr HI.out).mono ?_
  rintro e w2 ⟨rfl, h2, hf2⟩
  have HI2 := Lib.hid HI.out
  have HD2 : Hid (Bd w P g w2 s) := Lib.hid (HD1.out.call h2 hf2)
  have HR2 : Hid (Ow w w2 w.heap.size 30 [.int .i64 0, .string ⟨#[]⟩, .string ⟨#[]⟩, .slice none 0 0, .slice none 0 0, .slice none 0 0, .slice none 0 0, .string ⟨#[]⟩, .slice none 0 0, .slice none 0 0, .slice none 0 0, .bool false, .slice none 0 0]) := Lib.hid (HR1.out.call HPL.out hf2)
  have hs2 := hf2.size
  have hlR2 := HR2.out.lt
  have hp2 := HD2.out.pr.lt
  clear h2 hf2
  have HI := Lib.hid (is_ne (b := [115, 101, 108, 101, 99, 116]) HX.out (by decide))
  go_wp2_with fail
  refine (skips_no P g s [115, 101, 108, 101, 99, 116] _ HD2.out.pr HI.out).mono ?_
  rintro e w3 ⟨rfl, h3, hf3⟩
  have HI3 := Lib.hid HI.out
  have HD3 : Hid (Bd w P g w3 s) := Lib.hid (HD2.out.call h3 hf3)
  have HR3 : Hid (Ow w w3 w.heap.size 30 [.int .i64 0, .string ⟨#[]⟩, .string ⟨#[]⟩, .slice none 0 0, .slice none 0 0, .slice none 0 0, .slice none 0 0, .string ⟨#[]⟩, .slice none 0 0, .slice none 0 0, .slice none 0 0, .bool false, .slice none 0 0]) := Lib.hid (HR2.out.call HPL.out hf3)
  have hs3 := hf3.size
  have hlR3 := HR3.out.lt
  have hp3 := HD3.out.pr.lt
  clear h3 hf3
  have HI := Lib.hid (is_ne (b := [117, 112, 100, 97, 116, 101]) HX.out (by decide))
  go_wp2_with fail
  refine (skips_no P g s [117, 112, 100, 97, 116, 101] _ HD3.out.pr HI.out).mono ?_
  rintro e w4 ⟨rfl, h4, hf4⟩
  have HI4 := Lib.hid HI.out
  have HD4 : Hid (Bd w P g w4 s) := Lib.hid (HD3.out.call h4 hf4)
  have HR4 : Hid (Ow w w4 w.heap.size 30 [.int .i64 0, .string ⟨#[]⟩, .string ⟨#[]⟩, .slice none 0 0, .slice none 0 0, .slice none 0 0, .slice none 0 0, .string ⟨#[]⟩, .slice none 0 0, .slice none 0 0, .slice none 0 0, .bool false, .slice none 0 0]) := Lib.hid (HR3.out.call HPL.out hf4)
  have hs4 := hf4.size
  have hlR4 := HR4.out.lt
  have hp4 := HD4.out.pr.lt
  clear h4 hf4
  have HI := Lib.hid (is_ne (b := [100, 101, 108, 101, 116, 101]) HX.out (by decide))
  go_wp2_with fail
  refine (skips_no P g s [100, 101, 108, 101, 116, 101] _ HD4.out.pr HI.out).mono ?_
  rintro e w5 ⟨rfl, h5, hf5⟩
  have HI5 := Lib.hid HI.out
  have HD5 : Hid (Bd w P g w5 s) := Lib.hid (HD4.out.call h5 hf5)
  have HR5 : Hid (Ow w w5 w.heap.size 30 [.int .i64 0, .string ⟨#[]⟩, .string ⟨#[]⟩, .slice none 0 0, .slice none 0 0, .slice none 0 0, .slice none 0 0, .string ⟨#[]⟩, .slice none 0 0, .slice none 0 0, .slice none 0 0, .bool false, .slice none 0 0]) := Lib.hid (HR4.out.call HPL.out hf5)
  have hs5 := hf5.size
  have hlR5 := HR5.out.lt
  have hp5 := HD5.out.pr.lt
  clear h5 hf5
  have HI := Lib.hid (is_ne (b := [114, 97, 105, 115, 101]) HX.out (by decide))
  go_wp2_with fail
  refine (skips_no P g s [114, 97, 105, 115, 101] _ HD5.out.pr HI.out).mono ?_
  rintro e w6 ⟨rfl, h6, hf6⟩
  have HI6 := Lib.hid HI.out
  have HD6 : Hid (Bd w P g w6 s) := Lib.hid (HD5.out.call h6 hf6)
  have HR6 : Hid (Ow w w6 w.heap.size 30 [.int .i64 0, .string ⟨#[]⟩, .string ⟨#[]⟩, .slice none 0 0, .slice none 0 0, .slice none 0 0, .slice none 0 0, .string ⟨#[]⟩, .slice none 0 0, .slice none 0 0, .slice none 0 0, .bool false, .slice none 0 0]) := Lib.hid (HR5.out.call HPL.out hf6)
  have hs6 := hf6.size
  have hlR6 := HR6.out.lt
  have hp6 := HD6.out.pr.lt
  clear h6 hf6
  have HI := HX
  go_wp2_with fail
  refine (skips_yes P g s [99, 97, 108, 108] _ HD6.out.pr HI.out).mono ?_
  rintro e w7 ⟨rfl, h7, hf7⟩
  have hi7 := HI.out
  obtain ⟨s1, hq7⟩ : ∃ x, PM.skip s = x := ⟨_, rfl⟩
  rw [hq7] at h7
  have HQ7 := Lib.hid hq7
  have HI7 := Lib.hid hi7
  clear hq7 hi7
  have HD7 : Hid (Bd w P g w7 s1) := Lib.hid (HD6.out.call h7 hf7)
  have HR7 : Hid (Ow w w7 w.heap.size 30 [.int .i64 0, .string ⟨#[]⟩, .string ⟨#[]⟩, .slice none 0 0, .slice none 0 0, .slice none 0 0, .slice none 0 0, .string ⟨#[]⟩, .slice none 0 0, .slice none 0 0, .slice none 0 0, .bool false, .slice none 0 0]) := Lib.hid (HR6.out.call HPL.out hf7)
  have hs7 := hf7.size
  have hlR7 := HR7.out.lt
  have hp7 := HD7.out.pr.lt
  clear h7 hf7
  have HG7 : Hid (PM.Le s1 s) := Lib.hid (HG0.out.calm PM.calm_skip HQ7.out)
  go_wp2_with fail
  refine (name_any P g s1 _ HD7.out.pr).mono ?_
  rintro e w8 ⟨rfl, h8, hf8⟩
  obtain ⟨m, s2, hq8⟩ : ∃ a b, PM.name s1 = (a, b) := ⟨_, _, rfl⟩
  rw [hq8] at h8 ⊢
  have HQ8 := Lib.hid hq8
  clear hq8
  have HD8 : Hid (Bd w P g w8 s2) := Lib.hid (HD7.out.call h8 hf8)
  have HR8 : Hid (Ow w w8 w.heap.size 30 [.int .i64 0, .string ⟨#[]⟩, .string ⟨#[]⟩, .slice none 0 0, .slice none 0 0, .slice none 0 0, .slice none 0 0, .string ⟨#[]⟩, .slice none 0 0, .slice none 0 0, .slice none 0 0, .bool false, .slice none 0 0]) := Lib.hid (HR7.out.call HPL.out hf8)
  have hs8 := hf8.size
  have hlR8 := HR8.out.lt
  have hp8 := HD8.out.pr.lt
  clear h8 hf8
  have HG8 : Hid (PM.Le s2 s) := Lib.hid (HG7.out.good PM.good_name HQ8.out)
  have HM : Hid (PM.stmt n s = (.mk 13 [] m [] [] [] [] [] [] [] [] false [], s2)) := Lib.hid (by simp only [PM.stmt, PM.data, HI1.out, HI2.out, HI3.out, HI4.out, HI5.out, HI6.out, HI7.out, HQ7.out, HQ8.out, if_true, if_false, Bool.false_eq_true, eq_self])
  obtain ⟨Rc0, Rc1, Rc2, Rc3, Rc4, Rc5, Rc6, Rc7, Rc8, Rc9, Rc10, Rc11, Rc12, Rf0, Rf1, Rf2, Rf3, Rf4, Rf5, Rf6, Rf7, Rf8, Rf9, Rf10, Rf11, Rf12⟩ := c13_of HR8.out.blk
  go_wp2_with fail
  refine bodyPost_ret (ret_cell13 rfl _ w.heap.size rfl _ _ _ _ _ _ _ _ _ _ _ _ _ _ (blkPut13 HR8.out.blk _ _ _ _ _ _ _ _ _ _ _ _ _)) rfl ?_
  rw [HM.out]
  exact ⟨⟨_, rfl, .mk _ _ _ _ _ _ _ _ _ _ _ _ _ _ _ _ _ _ _ _ _ .nil .nil Rep.Es.nil .nil Rep.Es.nil Rep.Es.nil Rep.Es.nil SS.nil⟩, (HD8.out.pr.keep (frPut13 (Fr.refl [some w.heap.size] _) (.inl (by simp)) _ _ _ _ _ _ _ _ _ _ _ _ _) (by simp; omega) (by simp; omega)), (frPut13 HD8.out.fr (.inr HR8.out.ge) _ _ _ _ _ _ _ _ _ _ _ _ _)⟩
set_option maxRecDepth 100000 in
set_option maxHeartbeats 10000000 in
theorem stmt_rest (P g n : Nat) (s : PS) (w : World) (h : PR w P g s) (h0 : 0 ≤ s.deep) (h64 : s.deep ≤ 64) (hn : s.l.length ≤ n) (hb : s.l.length ≤ 1000) (k1 : PM.is [99, 114, 101, 97, 116, 101] s = false) (k2 : PM.is [105, 110, 115, 101, 114, 116] s = false) (k3 : PM.is [115, 101, 108, 101, 99, 116] s = false) (k4 : PM.is [117, 112, 100, 97, 116, 101] s = false) (k5 : PM.is [100, 101, 108, 101, 116, 101] s = false) (k6 : PM.is [114, 97, 105, 115, 101] s = false) (k7 : PM.is [99, 97, 108, 108] s = false) :
    Calls Tryd.prog 17 #[.pointer (some ⟨P, 0, none⟩)] w fun e w' => StR w.heap.size w' e (PM.stmt n s).1 ∧ PR w' P g (PM.stmt n s).2 ∧ Fr [some P] w w' := by
  have hPl := h.lt
  have hgP := h.ne
  have HPL := Lib.hid hPl
  have HD : Hid (Bd w P g w s) := Lib.hid (Bd.start h)
  have HN := Lib.hid (And.intro h0 (And.intro h64 (And.intro hn hb)))
  have HG0 := Lib.hid (PM.Le.refl s)
  clear h h0 h64 hn hb
  have HK1 := Lib.hid k1
  have HK2 := Lib.hid k2
  have HK3 := Lib.hid k3
  have HK4 := Lib.hid k4
  have HK5 := Lib.hid k5
  have HK6 := Lib.hid k6
  have HK7 := Lib.hid k7
  clear k1 k2 k3 k4 k5 k6 k7
  go_enter Tryd.func17, Tryd.ntmps17
  have HI := HK1
  go_wp2_with fail
  refine (skips_no P g s [99, 114, 101, 97, 116, 101] _ (HD.out.alloc _).pr HI.out).mono ?_
  rintro e w1 ⟨rfl, h1, hf1⟩
  have HI1 := Lib.hid HI.out
  have HD1 : Hid (Bd w P g w1 s) := Lib.hid ((HD.out.alloc _).call h1 hf1)
  have HR1 : Hid (Ow w w1 w.heap.size 30 [.int .i64 0, .string ⟨#[]⟩, .string ⟨#[]⟩, .slice none 0 0, .slice none 0 0, .slice none 0 0, .slice none 0 0, .string ⟨#[]⟩, .slice none 0 0, .slice none 0 0, .slice none 0 0, .bool false, .slice none 0 0]) := Lib.hid ((Ow.new (by omega) 30 [.int .i64 0, .string ⟨#[]⟩, .string ⟨#[]⟩, .slice none 0 0, .slice none 0 0, .slice none 0 0, .slice none 0 0, .string ⟨#[]⟩, .slice none 0 0, .slice none 0 0, .slice none 0 0, .bool false, .slice none 0 0]).call HPL.out hf1)
  have hs1 := hf1.size
  simp only [World.size_alloc] at hs1
  have hlR1 := HR1.out.lt
  have hp1 := HD1.out.pr.lt
  clear h1 hf1
  have HI := HK2
  go_wp2_with fail
  refine (skips_no P g s [105, 110, 115, 101, 114, 116] _ HD1.out.pr HI.out).mono ?_
  rintro e w2 ⟨rfl, h2, hf2⟩
  have HI2 := Lib.hid HI.out
  have HD2 : Hid (Bd w P g w2 s) := Lib.hid (HD1.out.call h2 hf2)
  have HR2 : Hid (Ow w w2 w.heap.size 30 [.int .i64 0, .string ⟨#[]⟩, .string ⟨#[]⟩, .slice none 0 0, .slice none 0 0, .slice none 0 0, .slice none 0 0, .string ⟨#[]⟩, .slice none 0 0, .slice none 0 0, .slice none 0 0, .bool false, .slice none 0 0]) := Lib.hid (HR1.out.call HPL.out hf2)
  have hs2 := hf2.size
  have hlR2 := HR2.out.lt
  have hp2 := HD2.out.pr.lt
  clear h2 hf2
  have HI := HK3
  go_wp2_with fail
  refine (skips_no P g s [115, 101, 108, 101, 99, 116] _ HD2.out.pr HI.out).mono ?_
  rintro e w3 ⟨rfl, h3, hf3⟩
  have HI3 := Lib.hid HI.out
  have HD3 : Hid (Bd w P g w3 s) := Lib.hid (HD2.out.call h3 hf3)
  have HR3 : Hid (Ow w w3 w.heap.size 30 [.int .i64 0, .string ⟨#[]⟩, .string ⟨#[]⟩, .slice none 0 0, .slice none 0 0, .slice none 0 0, .slice none 0 0, .string ⟨#[]⟩, .slice none 0 0, .slice none 0 0, .slice none 0 0, .bool false, .slice none 0 0]) := Lib.hid (HR2.out.call HPL.out hf3)
  have hs3 := hf3.size
  have hlR3 := HR3.out.lt
  have hp3 := HD3.out.pr.lt
  clear h3 hf3
  have HI := HK4
  go_wp2_with fail
  refine (skips_no P g s [117, 112, 100, 97, 116, 101] _ HD3.out.pr HI.out).mono ?_
  rintro e w4 ⟨rfl, h4, hf4⟩
  have HI4 := Lib.hid HI.out
  have HD4 : Hid (Bd w P g w4 s) := Lib.hid (HD3.out.call h4 hf4)
  have HR4 : Hid (Ow w w4 w.heap.size 30 [.int .i64 0, .string ⟨#[]⟩, .string ⟨#[]⟩, .slice none 0 0, .slice none 0 0, .slice none 0 0, .slice none 0 0, .string ⟨#[]⟩, .slice none 0 0, .slice none 0 0, .slice none 0 0, .bool false, .slice none 0 0]) := Lib.hid (HR3.out.call HPL.out hf4)
  have hs4 := hf4.size
  have hlR4 := HR4.out.lt
  have hp4 := HD4.out.pr.lt
  clear h4 hf4
  have HI := HK5
  go_wp2_with fail
  refine (skips_no P g s [100, 101, 108, 101, 116, 101] _ HD4.out.pr HI.out).mono ?_
  rintro e w5 ⟨rfl, h5, hf5⟩
  have HI5 := Lib.hid HI.out
  have HD5 : Hid (Bd w P g w5 s) := Lib.hid (HD4.out.call h5 hf5)
  have HR5 : Hid (Ow w w5 w.heap.size 30 [.int .i64 0, .string ⟨#[]⟩, .string ⟨#[]⟩, .slice none 0 0, .slice none 0 0, .slice none 0 0, .slice none 0 0, .string ⟨#[]⟩, .slice none 0 0, .slice none 0 0, .slice none 0 0, .bool false, .slice none 0 0]) := Lib.hid (HR4.out.call HPL.out hf5)
  have hs5 := hf5.size
  have hlR5 := HR5.out.lt
  have hp5 := HD5.out.pr.lt
  clear h5 hf5
  have HI := HK6
  go_wp2_with fail
  refine (skips_no P g s [114, 97, 105, 115, 101] _ HD5.out.pr HI.out).mono ?_
  rintro e w6 ⟨rfl, h6, hf6⟩
  have HI6 := Lib.hid HI.out
  have HD6 : Hid (Bd w P g w6 s) := Lib.hid (HD5.out.call h6 hf6)
  have HR6 : Hid (Ow w w6 w.heap.size 30 [.int .i64 0, .string ⟨#[]⟩, .string ⟨#[]⟩, .slice none 0 0, .slice none 0 0, .slice none 0 0, .slice none 0 0, .string ⟨#[]⟩, .slice none 0 0, .slice none 0 0, .slice none 0 0, .bool false, .slice none 0 0]) := Lib.hid (HR5.out.call HPL.out hf6)
  have hs6 := hf6.size
  have hlR6 := HR6.out.lt
  have hp6 := HD6.out.pr.lt
  clear h6 hf6
  have HI := HK7
  go_wp2_with fail
  refine (skips_no P g s [99, 97, 108, 108] _ HD6.out.pr HI.out).mono ?_
  rintro e w7 ⟨rfl, h7, hf7⟩
  have HI7 := Lib.hid HI.out
  have HD7 : Hid (Bd w P g w7 s) := Lib.hid (HD6.out.call h7 hf7)
  have HR7 : Hid (Ow w w7 w.heap.size 30 [.int .i64 0, .string ⟨#[]⟩, .string ⟨#[]⟩, .slice none 0 0, .slice none 0 0, .slice none 0 0, .slice none 0 0, .string ⟨#[]⟩, .slice none 0 0, .slice none 0 0, .slice none 0 0, .bool false, .slice none 0 0]) := Lib.hid (HR6.out.call HPL.out hf7)
  have hs7 := hf7.size
  have hlR7 := HR7.out.lt
  have hp7 := HD7.out.pr.lt
  clear h7 hf7
  have hmk := fun w => run_make w
  have hp50 := run_put w7 [] [98, 101, 103, 105, 110] 9 (by simp)
  simp only [List.nil_append] at hp50
  have hp51 := run_put w7 [([98, 101, 103, 105, 110], 9)] [99, 111, 109, 109, 105, 116] 10 (by simp)
  simp only [List.cons_append, List.nil_append] at hp51
  have hp52 := run_put w7 [([98, 101, 103, 105, 110], 9), ([99, 111, 109, 109, 105, 116], 10)] [114, 111, 108, 108, 98, 97, 99, 107] 11 (by simp)
  simp only [List.cons_append, List.nil_append] at hp52
  have hrg : (Instr.range 99 (.map (some w7.heap.size))).run Tryd.prog (w7.alloc (mapObj [([98, 101, 103, 105, 110], 9), ([99, 111, 109, 109, 105, 116], 10), ([114, 111, 108, 108, 98, 97, 99, 107], 11)])) = .ok (.pointer (some ⟨w7.heap.size + 1, 0, none⟩)) ((w7.alloc (mapObj [([98, 101, 103, 105, 110], 9), ([99, 111, 109, 109, 105, 116], 10), ([114, 111, 108, 108, 98, 97, 99, 107], 11)])).alloc (.mapIter (some w7.heap.size) 3 #[] 3)) := by
    have := run_range_map (P := Tryd.prog) (w7.alloc (mapObj [([98, 101, 103, 105, 110], 9), ([99, 111, 109, 109, 105, 116], 10), ([114, 111, 108, 108, 98, 97, 99, 107], 11)])) 99 9 3 w7.heap.size (ents [([98, 101, 103, 105, 110], 9), ([99, 111, 109, 109, 105, 116], 10), ([114, 111, 108, 108, 98, 97, 99, 107], 11)] 0).toArray 3 map_und (heap_alloc_new w7 _)
    rwa [World.size_alloc] at this
  go_wp2_with fail
  clear hmk hp50 hp51 hp52 hrg
  go_loopw [] (fun wr => ∃ (seen : Array Nat) (c0 : Nat), Hid (Rg wr w7.heap.size (w7.heap.size + 1) s seen c0) ∧ Hid (Bd w P g wr s) ∧ Hid (Ow w wr w.heap.size 30 [.int .i64 0, .string ⟨#[]⟩, .string ⟨#[]⟩, .slice none 0 0, .slice none 0 0, .slice none 0 0, .slice none 0 0, .string ⟨#[]⟩, .slice none 0 0, .slice none 0 0, .slice none 0 0, .bool false, .slice none 0 0])) (fun wr => kmea (w7.heap.size + 1) wr)
  case atStart => exact ⟨#[], 3, Lib.hid ⟨(Below.heap_alloc _ _ _ (by simp)).trans (heap_alloc_new w7 _), by have := heap_alloc_new (w7.alloc (mapObj [([98, 101, 103, 105, 110], 9), ([99, 111, 109, 109, 105, 116], 10), ([114, 111, 108, 108, 98, 97, 99, 107], 11)])) (.mapIter (some w7.heap.size) 3 #[] 3); rwa [World.size_alloc] at this, Nat.le_refl _, fun j _ h => by simp at h⟩, Lib.hid ((HD7.out.alloc _).alloc _), Lib.hid ((HR7.out.alloc _).alloc _)⟩
  case round =>
    obtain ⟨seen, c0, HRG, HDr, HRr⟩ := hrel
    have hlRr := HRr.out.lt
    have hpr := HDr.out.pr.lt
    have hszr := HDr.out.size
    rcases HRG.out.next (by omega) 0 with ⟨hno, hnx⟩ | ⟨j, hj, w', hnx, hen, hfw, hzw, hstep, hless⟩
    · have HNO := Lib.hid hno
      clear hno
      go_wp2_with fail
      refine (fails_any P g s 5 _ HDr.out.pr).mono ?_
      rintro e w8 ⟨rfl, h8, hf8⟩
      obtain ⟨s1, hq8⟩ : ∃ x, PM.fails 5 s = x := ⟨_, rfl⟩
      rw [hq8] at h8
      have HQ8 := Lib.hid hq8
      clear hq8
      have HD8 : Hid (Bd w P g w8 s1) := Lib.hid (HDr.out.call h8 hf8)
      have HR8 : Hid (Ow w w8 w.heap.size 30 [.int .i64 0, .string ⟨#[]⟩, .string ⟨#[]⟩, .slice none 0 0, .slice none 0 0, .slice none 0 0, .slice none 0 0, .string ⟨#[]⟩, .slice none 0 0, .slice none 0 0, .slice none 0 0, .bool false, .slice none 0 0]) := Lib.hid (HRr.out.call HPL.out hf8)
      have hs8 := hf8.size
      have hlR8 := HR8.out.lt
      have hp8 := HD8.out.pr.lt
      clear h8 hf8
      have HG8 : Hid (PM.Le s1 s) := Lib.hid (HG0.out.calm (PM.calm_fails 5) HQ8.out)
      have HM : Hid (PM.stmt n s = (.zero, s1)) := Lib.hid (by rw [stmt_none HK1.out HK2.out HK3.out HK4.out HK5.out HK6.out HK7.out HNO.out, HQ8.out])
      obtain ⟨Rc0, Rc1, Rc2, Rc3, Rc4, Rc5, Rc6, Rc7, Rc8, Rc9, Rc10, Rc11, Rc12, Rf0, Rf1, Rf2, Rf3, Rf4, Rf5, Rf6, Rf7, Rf8, Rf9, Rf10, Rf11, Rf12⟩ := c13_of HR8.out.blk
      clear hnx
      go_wp2_with fail
      refine bodyPost_ret (ret_cell13 rfl _ w.heap.size rfl _ _ _ _ _ _ _ _ _ _ _ _ _ _ (blkPut13 HR8.out.blk _ _ _ _ _ _ _ _ _ _ _ _ _)) rfl ?_
      rw [HM.out]
      exact st_end HD8.out (frPut13 (Fr.refl [some w.heap.size] _) (.inl (by simp)) _ _ _ _ _ _ _ _ _ _ _ _ _) (Nat.le_refl _) (zero_st _ _)
    · have HST : Hid (PM.is kinds[j].1 s = true → PM.stmt n s = (.ofKind kinds[j].2, PM.skip s)) := Lib.hid (stmt_kind HK1.out HK2.out HK3.out HK4.out HK5.out HK6.out HK7.out)
      have HSTEP := Lib.hid hstep
      have HLESS := Lib.hid hless
      clear hstep hless
      obtain ⟨kw, hkw⟩ : ∃ kw, kinds[j].1 = kw := ⟨_, rfl⟩
      obtain ⟨kv, hkv⟩ : ∃ kv, kinds[j].2 = kv := ⟨_, rfl⟩
      rw [hkw] at HST HSTEP
      rw [hkv] at HST
      rw [hkw, hkv] at hnx hen
      clear hkw hkv
      have HDw : Hid (Bd w P g w' s) := Lib.hid ⟨HDr.out.pr.keep hfw (by simp; omega) (by have := HDr.out.pr.ne; simp; omega), HDr.out.fr.trans' hfw (fun i hi => .inr (by simp at hi; omega)), HDr.out.lt⟩
      have HRw : Hid (Ow w w' w.heap.size 30 [.int .i64 0, .string ⟨#[]⟩, .string ⟨#[]⟩, .slice none 0 0, .slice none 0 0, .slice none 0 0, .slice none 0 0, .string ⟨#[]⟩, .slice none 0 0, .slice none 0 0, .slice none 0 0, .bool false, .slice none 0 0]) := Lib.hid ⟨HRr.out.blk.keep hfw (by simp; omega), HRr.out.ge⟩
      have HFW := Lib.hid hfw
      clear hfw
      have hlRw := HRw.out.lt
      have hpw := HDw.out.pr.lt
      have HZW := Lib.hid hzw
      clear hzw
      cases hi : PM.is kw s
      · have HI := Lib.hid hi
        clear hi
        have HRG2 := Lib.hid (HSTEP.out HI.out)
        go_wp2_with fail
        have HMEA := Lib.hid HRG.out.mea
        refine (skips_no P g s kw _ HDw.out.pr HI.out).mono ?_
        rintro e wz ⟨rfl, hz, hfz⟩
        have HDz : Hid (Bd w P g wz s) := Lib.hid (HDw.out.call hz hfz)
        have HRz := Lib.hid (HRw.out.call HPL.out hfz)
        have HRGz := Lib.hid (HRG2.out.keep hfz (by simp; omega) (by simp; omega))
        have HME : Hid (kmea (w7.heap.size + 1) wz < kmea (w7.heap.size + 1) wr) := Lib.hid (by rw [HMEA.out, HRGz.out.mea]; exact HLESS.out)
        clear hz hfz hnx hen
        go_wp2_with fail
        go_roundw
        case rel => exact ⟨_, _, HRGz, HDz, HRz⟩
        case measure => exact HME.out
      · have HI := Lib.hid hi
        clear hi
        go_wp2_with fail
        refine (skips_yes P g s kw _ HDw.out.pr HI.out).mono ?_
        rintro e wz ⟨rfl, hz, hfz⟩
        have HDz : Hid (Bd w P g wz (PM.skip s)) := Lib.hid (HDw.out.call hz hfz)
        have HRz : Hid (Ow w wz w.heap.size 30 [.int .i64 0, .string ⟨#[]⟩, .string ⟨#[]⟩, .slice none 0 0, .slice none 0 0, .slice none 0 0, .slice none 0 0, .string ⟨#[]⟩, .slice none 0 0, .slice none 0 0, .slice none 0 0, .bool false, .slice none 0 0]) := Lib.hid (HRw.out.call HPL.out hfz)
        clear hz hfz hnx hen
        obtain ⟨Rc0, Rc1, Rc2, Rc3, Rc4, Rc5, Rc6, Rc7, Rc8, Rc9, Rc10, Rc11, Rc12, Rf0, Rf1, Rf2, Rf3, Rf4, Rf5, Rf6, Rf7, Rf8, Rf9, Rf10, Rf11, Rf12⟩ := c13_of HRz.out.blk
        go_wp2_with fail
        refine bodyPost_ret (ret_cell13 rfl _ w.heap.size rfl _ _ _ _ _ _ _ _ _ _ _ _ _ _ (blkPut13 HRz.out.blk _ _ _ _ _ _ _ _ _ _ _ _ _)) rfl ?_
        rw [HST.out HI.out]
        exact ⟨⟨_, rfl, .mk _ _ _ _ _ _ _ _ _ _ _ _ _ _ _ _ _ _ _ _ _ .nil .nil Rep.Es.nil .nil Rep.Es.nil Rep.Es.nil Rep.Es.nil SS.nil⟩, (HDz.out.pr.keep (frPut13 (Fr.refl [some w.heap.size] _) (.inl (by simp)) _ _ _ _ _ _ _ _ _ _ _ _ _) (by simp; omega) (by simp; omega)), (frPut13 HDz.out.fr (.inr HRz.out.ge) _ _ _ _ _ _ _ _ _ _ _ _ _)⟩
theorem stmt_any (P g n : Nat) (s : PS) (w : World) (h : PR w P g s) (h0 : 0 ≤ s.deep) (h64 : s.deep ≤ 64) (hn : s.l.length ≤ n) (hb : s.l.length ≤ 1000) :
    Calls Tryd.prog 17 #[.pointer (some ⟨P, 0, none⟩)] w fun e w' => StR w.heap.size w' e (PM.stmt n s).1 ∧ PR w' P g (PM.stmt n s).2 ∧ Fr [some P] w w' := by
  cases k1 : PM.is [99, 114, 101, 97, 116, 101] s
  · cases hd : PM.data n s with
    | some r =>
      have hm : PM.stmt n s = r := by rw [PM.stmt, if_neg (by rw [k1]; decide), hd]
      rw [hm]
      exact data_any P g n s w h h0 h64 hn hb hd
    | none =>
      have no : ∀ x ∈ [[105, 110, 115, 101, 114, 116], [115, 101, 108, 101, 99, 116], [117, 112, 100, 97, 116, 101], [100, 101, 108, 101, 116, 101]], PM.is x s = false := by
        intro x hx
        rw [Bool.eq_false_iff]
        intro hi
        obtain ⟨r, hr⟩ := data_some (n := n) hx hi
        rw [hd] at hr
        cases hr
      cases k6 : PM.is [114, 97, 105, 115, 101] s
      · cases k7 : PM.is [99, 97, 108, 108] s
        · exact stmt_rest P g n s w h h0 h64 hn hb k1 (no _ (by simp)) (no _ (by simp)) (no _ (by simp)) (no _ (by simp)) k6 k7
        · exact stmt_call P g n s w h h0 h64 hn hb k7
      · exact stmt_raise P g n s w h h0 h64 hn hb k6
  · exact stmt_create P g n s w h h0 h64 hn hb k1
end Px
end Go.Proofs.YtpmgecnkcllneaaDoor
