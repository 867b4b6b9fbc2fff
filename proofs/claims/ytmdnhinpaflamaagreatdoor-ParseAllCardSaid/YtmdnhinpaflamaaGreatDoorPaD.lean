/- parse: stmt's ways to an insert, a select, an update, a delete. -/
import Derived.Test.YtmdnhinpaflamaaGreatDoorPaS
namespace Go.Proofs.YtmdnhinpaflamaaGreatDoor
open Go.RowKit
namespace Px
open PM (PS B Ex)

theorem is_ne {a b : B} {s : PS} (h : PM.is a s = true) (hab : a ≠ b) : PM.is b s = false := by
  simp only [PM.is, Bool.and_eq_true, beq_iff_eq] at h ⊢
  rw [Bool.eq_false_iff]
  intro h2
  simp only [Bool.and_eq_true, beq_iff_eq] at h2
  exact hab (h.2.symm.trans h2.2)
theorem selects_any (P g n : Nat) (s : PS) (w : World) (h : PR w P g s) (h0 : 0 ≤ s.deep) (h64 : s.deep ≤ 64) (hn : s.l.length ≤ n) (hb : s.l.length ≤ 1000) {st : PM.St} {s' : PS} (hq : PM.selects n s = (st, s')) :
    Calls Tryz.prog 56 #[.pointer (some ⟨P, 0, none⟩)] w fun e w' => StR w.heap.size w' e st ∧ PR w' P g s' ∧ Fr [some P] w w' := by
  have e1 : st = (PM.selects n s).1 := by rw [hq]
  have e2 : s' = (PM.selects n s).2 := by rw [hq]
  subst e1 e2
  cases hi : PM.is [42] s
  · exact selects_items P g n s w h h0 h64 hn hb hi
  · exact selects_star P g n s w h h0 h64 hn hb hi
/-- a statement that a callee brought is handed on -/
theorem st_end {w w1 w2 : World} {P g R : Nat} {s : PS} {x : PM.St} {cs : List Value} (hd : Bd w P g w1 s) (hf2 : Fr [some R] w1 w2) (hR : w.heap.size ≤ R) (hx : SR (fun b => R < b) w1 x cs) :
    StR w.heap.size w2 (.returned (.agg cs.toArray)) x ∧ PR w2 P g s ∧ Fr [some P] w w2 := by
  have h1 := hd.lt
  have h2 := hd.pr.ne
  exact ⟨⟨cs, rfl, SR.mono (fun b hb => by omega) (SR.keep hf2 (fun b hb => by simp; omega) hx)⟩, hd.pr.keep hf2 (by simp; omega) (by simp; omega), hd.fr.trans' hf2 (fun i hi => .inr (by simp at hi; omega))⟩

set_option maxRecDepth 100000 in
set_option maxHeartbeats 10000000 in
theorem stmt_insert (P g n : Nat) (s : PS) (w : World) (h : PR w P g s) (h0 : 0 ≤ s.deep) (h64 : s.deep ≤ 64) (hn : s.l.length ≤ n) (hb : s.l.length ≤ 1000) (hi : PM.is [105, 110, 115, 101, 114, 116] s = true) :
    Calls Tryz.prog 19 #[.pointer (some ⟨P, 0, none⟩)] w fun e w' => ∃ st s', PM.data n s = some (st, s') ∧ StR w.heap.size w' e st ∧ PR w' P g s' ∧ Fr [some P] w w' := by
  have hPl := h.lt
  have hgP := h.ne
  have HPL := Lib.hid hPl
  have HD : Hid (Bd w P g w s) := Lib.hid (Bd.start h)
  have HX := Lib.hid hi
  clear hi
  have HN := Lib.hid (And.intro h0 (And.intro h64 (And.intro hn hb)))
  have HG0 := Lib.hid (PM.Le.refl s)
  clear h h0 h64 hn hb
  go_enter Tryz.func19, Tryz.ntmps19
  have HI := Lib.hid (is_ne (b := [99, 114, 101, 97, 116, 101]) HX.out (by decide))
  go_wp2_with fail
  refine (skips_no P g s [99, 114, 101, 97, 116, 101] _ (HD.out.alloc _).pr HI.out).mono ?_
  rintro e w1 ⟨rfl, h1, hf1⟩
  have HI1 := Lib.hid HI.out
  have HD1 : Hid (Bd w P g w1 s) := Lib.hid ((HD.out.alloc _).call h1 hf1)
  have HR1 : Hid (Ow w w1 w.heap.size 29 [.int .i64 0, .string ⟨#[]⟩, .string ⟨#[]⟩, .slice none 0 0, .slice none 0 0, .slice none 0 0, .slice none 0 0, .string ⟨#[]⟩, .slice none 0 0, .slice none 0 0, .slice none 0 0, .bool false, .slice none 0 0]) := Lib.hid ((Ow.new (by omega) 29 [.int .i64 0, .string ⟨#[]⟩, .string ⟨#[]⟩, .slice none 0 0, .slice none 0 0, .slice none 0 0, .slice none 0 0, .string ⟨#[]⟩, .slice none 0 0, .slice none 0 0, .slice none 0 0, .bool false, .slice none 0 0]).call HPL.out hf1)
  have hs1 := hf1.size
  simp only [World.size_alloc] at hs1
  have hlR1 := HR1.out.lt
  have hp1 := HD1.out.pr.lt
  clear h1 hf1
  have HI := HX
  go_wp2_with fail
  refine (skips_yes P g s [105, 110, 115, 101, 114, 116] _ HD1.out.pr HI.out).mono ?_
  rintro e w2 ⟨rfl, h2, hf2⟩
  have hi2 := HI.out
  obtain ⟨s1, hq2⟩ : ∃ x, PM.skip s = x := ⟨_, rfl⟩
  rw [hq2] at h2
  have HQ2 := Lib.hid hq2
  have HI2 := Lib.hid hi2
  clear hq2 hi2
  have HD2 : Hid (Bd w P g w2 s1) := Lib.hid (HD1.out.call h2 hf2)
  have HR2 : Hid (Ow w w2 w.heap.size 29 [.int .i64 0, .string ⟨#[]⟩, .string ⟨#[]⟩, .slice none 0 0, .slice none 0 0, .slice none 0 0, .slice none 0 0, .string ⟨#[]⟩, .slice none 0 0, .slice none 0 0, .slice none 0 0, .bool false, .slice none 0 0]) := Lib.hid (HR1.out.call HPL.out hf2)
  have hs2 := hf2.size
  have hlR2 := HR2.out.lt
  have hp2 := HD2.out.pr.lt
  clear h2 hf2
  have HG2 : Hid (PM.Le s1 s) := Lib.hid (HG0.out.calm PM.calm_skip HQ2.out)
  go_wp2_with fail
  refine (needs_new (n := w2.heap.size) HD2.out.pr [[105, 110, 116, 111]] (by decide) (by simp)).mono ?_
  rintro e w3 ⟨rfl, h3, hf3⟩
  obtain ⟨s2, hq3⟩ : ∃ x, PM.needs [[105, 110, 116, 111]] s1 = x := ⟨_, rfl⟩
  rw [hq3] at h3
  have HQ3 := Lib.hid hq3
  clear hq3
  have HD3 : Hid (Bd w P g w3 s2) := Lib.hid ((HD2.out.alloc _).call h3 hf3)
  have HR3 : Hid (Ow w w3 w.heap.size 29 [.int .i64 0, .string ⟨#[]⟩, .string ⟨#[]⟩, .slice none 0 0, .slice none 0 0, .slice none 0 0, .slice none 0 0, .string ⟨#[]⟩, .slice none 0 0, .slice none 0 0, .slice none 0 0, .bool false, .slice none 0 0]) := Lib.hid ((HR2.out.alloc _).call HPL.out hf3)
  have hs3 := hf3.size
  simp only [World.size_alloc] at hs3
  have hlR3 := HR3.out.lt
  have hp3 := HD3.out.pr.lt
  clear h3 hf3
  have HG3 : Hid (PM.Le s2 s) := Lib.hid (HG2.out.calm (PM.calm_needs [[105, 110, 116, 111]]) HQ3.out)
  go_wp2_with fail
  refine (name_any P g s2 _ HD3.out.pr).mono ?_
  rintro e w4 ⟨rfl, h4, hf4⟩
  obtain ⟨tn, s3, hq4⟩ : ∃ a b, PM.name s2 = (a, b) := ⟨_, _, rfl⟩
  rw [hq4] at h4 ⊢
  have HQ4 := Lib.hid hq4
  clear hq4
  have HD4 : Hid (Bd w P g w4 s3) := Lib.hid (HD3.out.call h4 hf4)
  have HR4 : Hid (Ow w w4 w.heap.size 29 [.int .i64 0, .string ⟨#[]⟩, .string ⟨#[]⟩, .slice none 0 0, .slice none 0 0, .slice none 0 0, .slice none 0 0, .string ⟨#[]⟩, .slice none 0 0, .slice none 0 0, .slice none 0 0, .bool false, .slice none 0 0]) := Lib.hid (HR3.out.call HPL.out hf4)
  have hs4 := hf4.size
  have hlR4 := HR4.out.lt
  have hp4 := HD4.out.pr.lt
  clear h4 hf4
  have HG4 : Hid (PM.Le s3 s) := Lib.hid (HG3.out.good PM.good_name HQ4.out)
  go_wp2_with fail
  refine (needs_new (n := w4.heap.size + 1) (HD4.out.alloc _).pr [[118, 97, 108, 117, 101, 115], [40]] (by decide) (by simp)).mono ?_
  rintro e w5 ⟨rfl, h5, hf5⟩
  obtain ⟨s4, hq5⟩ : ∃ x, PM.needs [[118, 97, 108, 117, 101, 115], [40]] s3 = x := ⟨_, rfl⟩
  rw [hq5] at h5
  have HQ5 := Lib.hid hq5
  clear hq5
  have HD5 : Hid (Bd w P g w5 s4) := Lib.hid (((HD4.out.alloc _).alloc _).call h5 hf5)
  have HR5 : Hid (Ow w w5 w.heap.size 29 [.int .i64 0, .string ⟨#[]⟩, .string ⟨#[]⟩, .slice none 0 0, .slice none 0 0, .slice none 0 0, .slice none 0 0, .string ⟨#[]⟩, .slice none 0 0, .slice none 0 0, .slice none 0 0, .bool false, .slice none 0 0]) := Lib.hid (((HR4.out.alloc _).alloc _).call HPL.out hf5)
  have HSt5 : Hid (Ow w w5 w4.heap.size 29 [.int .i64 5, .string ⟨tn.toArray⟩, .string ⟨#[]⟩, .slice none 0 0, .slice none 0 0, .slice none 0 0, .slice none 0 0, .string ⟨#[]⟩, .slice none 0 0, .slice none 0 0, .slice none 0 0, .bool false, .slice none 0 0]) := Lib.hid (((Ow.new (by omega) 29 [.int .i64 5, .string ⟨tn.toArray⟩, .string ⟨#[]⟩, .slice none 0 0, .slice none 0 0, .slice none 0 0, .slice none 0 0, .string ⟨#[]⟩, .slice none 0 0, .slice none 0 0, .slice none 0 0, .bool false, .slice none 0 0]).alloc _).call HPL.out hf5)
  have hs5 := hf5.size
  simp only [World.size_alloc] at hs5
  have hlR5 := HR5.out.lt
  have hlSt5 := HSt5.out.lt
  have hp5 := HD5.out.pr.lt
  clear h5 hf5
  have HG5 : Hid (PM.Le s4 s) := Lib.hid (HG4.out.calm (PM.calm_needs [[118, 97, 108, 117, 101, 115], [40]]) HQ5.out)
  obtain ⟨vs, s5, hq6⟩ : ∃ a b, PM.list (PM.expr n) s4 = (a, b) := ⟨_, _, rfl⟩
  have HQ6 := Lib.hid hq6
  clear hq6
  go_wp2_with fail
  refine (list_expr' n HD5.out.pr (by have := HG5.out.1; have := HN.out; omega) (by have := HG5.out.1; have := HN.out; omega) (by have := HG5.out.2; have := HN.out; omega) (by have := HG5.out.2; have := HN.out; omega) HQ6.out).mono ?_
  rintro e w6 ⟨⟨vsa, vsl, vsc, rfl, hv⟩, h6, hf6⟩
  have HD6 : Hid (Bd w P g w6 s5) := Lib.hid (HD5.out.call h6 hf6)
  have HR6 : Hid (Ow w w6 w.heap.size 29 [.int .i64 0, .string ⟨#[]⟩, .string ⟨#[]⟩, .slice none 0 0, .slice none 0 0, .slice none 0 0, .slice none 0 0, .string ⟨#[]⟩, .slice none 0 0, .slice none 0 0, .slice none 0 0, .bool false, .slice none 0 0]) := Lib.hid (HR5.out.call HPL.out hf6)
  have HSt6 : Hid (Ow w w6 w4.heap.size 29 [.int .i64 5, .string ⟨tn.toArray⟩, .string ⟨#[]⟩, .slice none 0 0, .slice none 0 0, .slice none 0 0, .slice none 0 0, .string ⟨#[]⟩, .slice none 0 0, .slice none 0 0, .slice none 0 0, .bool false, .slice none 0 0]) := Lib.hid (HSt5.out.call HPL.out hf6)
  have hs6 := hf6.size
  have hlR6 := HR6.out.lt
  have hlSt6 := HSt6.out.lt
  have hp6 := HD6.out.pr.lt
  clear h6 hf6
  have HG6 : Hid (PM.Le s5 s) := Lib.hid (HG5.out.good (PM.good_list (PM.good_exprN n)) HQ6.out)
  have HV6 := Lib.hid (Rep.Es.mono (A' := fun b => w4.heap.size < b) (fun b hb => by first | omega | (simp at hb; omega)) hv)
  clear hv
  obtain ⟨Stc0, Stc1, Stc2, Stc3, Stc4, Stc5, Stc6, Stc7, Stc8, Stc9, Stc10, Stc11, Stc12, Stf0, Stf1, Stf2, Stf3, Stf4, Stf5, Stf6, Stf7, Stf8, Stf9, Stf10, Stf11, Stf12⟩ := c13_of HSt6.out.blk
  go_wp2_with fail
  clear Stc0 Stc1 Stc2 Stc3 Stc4 Stc5 Stc6 Stc7 Stc8 Stc9 Stc10 Stc11 Stc12 Stf0 Stf1 Stf2 Stf3 Stf4 Stf5 Stf6 Stf7 Stf8 Stf9 Stf10 Stf11 Stf12
  go_wp2_with fail
  refine (needs_new (n := w6.heap.size) (HD6.out.set (by omega)).pr [[41]] (by decide) (by simp)).mono ?_
  rintro e w7 ⟨rfl, h7, hf7⟩
  obtain ⟨s6, hq7⟩ : ∃ x, PM.needs [[41]] s5 = x := ⟨_, rfl⟩
  rw [hq7] at h7
  have HQ7 := Lib.hid hq7
  clear hq7
  have HD7 : Hid (Bd w P g w7 s6) := Lib.hid (((HD6.out.set (by omega)).alloc _).call h7 hf7)
  have HR7 : Hid (Ow w w7 w.heap.size 29 [.int .i64 0, .string ⟨#[]⟩, .string ⟨#[]⟩, .slice none 0 0, .slice none 0 0, .slice none 0 0, .slice none 0 0, .string ⟨#[]⟩, .slice none 0 0, .slice none 0 0, .slice none 0 0, .bool false, .slice none 0 0]) := Lib.hid (((HR6.out.other (by omega)).alloc _).call HPL.out hf7)
  have HSt7 : Hid (Ow w w7 w4.heap.size 29 [.int .i64 5, .string ⟨tn.toArray⟩, .string ⟨#[]⟩, .slice none 0 0, .slice none 0 0, (.slice vsa vsl vsc), .slice none 0 0, .string ⟨#[]⟩, .slice none 0 0, .slice none 0 0, .slice none 0 0, .bool false, .slice none 0 0]) := Lib.hid (((HSt6.out.set 5 (.slice vsa vsl vsc)).alloc _).call HPL.out hf7)
  have HV7 := Lib.hid (Rep.Es.keep hf7 (fun b hb => by simp <;> omega) (Rep.Es.keep (((Fr.refl [some w4.heap.size] w6).setCell (p := ⟨w4.heap.size, 5, none⟩) (.inl (by simp)) (.slice vsa vsl vsc)).alloc _) (fun b hb => by simp <;> omega) HV6.out))
  have hs7 := hf7.size
  simp only [World.size_alloc, World.size_setCell] at hs7
  have hlR7 := HR7.out.lt
  have hlSt7 := HSt7.out.lt
  have hp7 := HD7.out.pr.lt
  clear h7 hf7
  have HG7 : Hid (PM.Le s6 s) := Lib.hid (HG6.out.calm (PM.calm_needs [[41]]) HQ7.out)
  have HM : Hid (PM.data n s = some (.mk 5 tn [] [] [] vs [] [] [] [] [] false [], s6)) := Lib.hid (by simp only [PM.data, HI2.out, HQ2.out, HQ3.out, HQ4.out, HQ5.out, HQ6.out, HQ7.out, if_true, eq_self])
  have hnRSt : ¬ w.heap.size = w4.heap.size := by omega
  have hnStR : ¬ w4.heap.size = w.heap.size := by omega
  obtain ⟨Stc0, Stc1, Stc2, Stc3, Stc4, Stc5, Stc6, Stc7, Stc8, Stc9, Stc10, Stc11, Stc12, Stf0, Stf1, Stf2, Stf3, Stf4, Stf5, Stf6, Stf7, Stf8, Stf9, Stf10, Stf11, Stf12⟩ := c13_of HSt7.out.blk
  obtain ⟨Rc0, Rc1, Rc2, Rc3, Rc4, Rc5, Rc6, Rc7, Rc8, Rc9, Rc10, Rc11, Rc12, Rf0, Rf1, Rf2, Rf3, Rf4, Rf5, Rf6, Rf7, Rf8, Rf9, Rf10, Rf11, Rf12⟩ := c13_of HR7.out.blk
  go_wp2_with fail
  refine bodyPost_ret (ret_cell13 rfl _ w.heap.size rfl _ _ _ _ _ _ _ _ _ _ _ _ _ _ (blkPut13 HR7.out.blk _ _ _ _ _ _ _ _ _ _ _ _ _)) rfl ?_
  exact ⟨_, _, HM.out, ⟨_, rfl, .mk _ _ _ _ _ _ _ _ _ _ _ _ _ _ _ _ _ _ _ _ _ .nil .nil (Rep.Es.mono (A' := fun b => w.heap.size ≤ b) (fun b hb => by omega) (Rep.Es.keep (frPut13 (Fr.refl [some w.heap.size] w7) (.inl (by simp)) _ _ _ _ _ _ _ _ _ _ _ _ _) (fun b hb => by simp; omega) HV7.out)) .nil Rep.Es.nil Rep.Es.nil Rep.Es.nil SS.nil⟩, (HD7.out.pr.keep (frPut13 (Fr.refl [some w.heap.size] _) (.inl (by simp)) _ _ _ _ _ _ _ _ _ _ _ _ _) (by simp; omega) (by simp; omega)), (frPut13 HD7.out.fr (.inr HR7.out.ge) _ _ _ _ _ _ _ _ _ _ _ _ _)⟩
set_option maxRecDepth 100000 in
set_option maxHeartbeats 10000000 in
theorem stmt_delete (P g n : Nat) (s : PS) (w : World) (h : PR w P g s) (h0 : 0 ≤ s.deep) (h64 : s.deep ≤ 64) (hn : s.l.length ≤ n) (hb : s.l.length ≤ 1000) (hi : PM.is [100, 101, 108, 101, 116, 101] s = true) :
    Calls Tryz.prog 19 #[.pointer (some ⟨P, 0, none⟩)] w fun e w' => ∃ st s', PM.data n s = some (st, s') ∧ StR w.heap.size w' e st ∧ PR w' P g s' ∧ Fr [some P] w w' := by
  have hPl := h.lt
  have hgP := h.ne
  have HPL := Lib.hid hPl
  have HD : Hid (Bd w P g w s) := Lib.hid (Bd.start h)
  have HX := Lib.hid hi
  clear hi
  have HN := Lib.hid (And.intro h0 (And.intro h64 (And.intro hn hb)))
  have HG0 := Lib.hid (PM.Le.refl s)
  clear h h0 h64 hn hb
  go_enter Tryz.func19, Tryz.ntmps19
  have HI := Lib.hid (is_ne (b := [99, 114, 101, 97, 116, 101]) HX.out (by decide))
  go_wp2_with fail
  refine (skips_no P g s [99, 114, 101, 97, 116, 101] _ (HD.out.alloc _).pr HI.out).mono ?_
  rintro e w1 ⟨rfl, h1, hf1⟩
  have HI1 := Lib.hid HI.out
  have HD1 : Hid (Bd w P g w1 s) := Lib.hid ((HD.out.alloc _).call h1 hf1)
  have HR1 : Hid (Ow w w1 w.heap.size 29 [.int .i64 0, .string ⟨#[]⟩, .string ⟨#[]⟩, .slice none 0 0, .slice none 0 0, .slice none 0 0, .slice none 0 0, .string ⟨#[]⟩, .slice none 0 0, .slice none 0 0, .slice none 0 0, .bool false, .slice none 0 0]) := Lib.hid ((Ow.new (by omega) 29 [.int .i64 0, .string ⟨#[]⟩, .string ⟨#[]⟩, .slice none 0 0, .slice none 0 0, .slice none 0 0, .slice none 0 0, .string ⟨#[]⟩, .slice none 0 0, .slice none 0 0, .slice none 0 0, .bool false, .slice none 0 0]).call HPL.out hf1)
  have hs1 := hf1.size
  simp only [World.size_alloc] at hs1
  have hlR1 := HR1.out.lt
  have hp1 := HD1.out.pr.lt
  clear h1 hf1
  have HI := Lib.hid (is_ne (b := [105, 110, 115, 101, 114, 116]) HX.out (by decide))
  go_wp2_with fail
  refine (skips_no P g s [105, 110, 115, 101, 114, 116] _ HD1.out.pr HI.out).mono ?_
  rintro e w2 ⟨rfl, h2, hf2⟩
  have HI2 := Lib.hid HI.out
  have HD2 : Hid (Bd w P g w2 s) := Lib.hid (HD1.out.call h2 hf2)
  have HR2 : Hid (Ow w w2 w.heap.size 29 [.int .i64 0, .string ⟨#[]⟩, .string ⟨#[]⟩, .slice none 0 0, .slice none 0 0, .slice none 0 0, .slice none 0 0, .string ⟨#[]⟩, .slice none 0 0, .slice none 0 0, .slice none 0 0, .bool false, .slice none 0 0]) := Lib.hid (HR1.out.call HPL.out hf2)
  have hs2 := hf2.size
  have hlR2 := HR2.out.lt
  have hp2 := HD2.out.pr.lt
  clear h2 hf2
  have HI := Lib.hid (is_ne (b := [115, 101, 108, 101, 99, 116]) HX.out (by decide))
  go_wp2_with fail
  refine (skips_no P g s [115, 101, 108, 101, 99, 116] _ HD2.out.pr HI.out).mono ?_
  rintro e w3 ⟨rfl, h3, hf3⟩
  have HI3 := Lib.hid HI.out
  have HD3 : Hid (Bd w P g w3 s) := Lib.hid (HD2.out.call h3 hf3)
  have HR3 : Hid (Ow w w3 w.heap.size 29 [.int .i64 0, .string ⟨#[]⟩, .string ⟨#[]⟩, .slice none 0 0, .slice none 0 0, .slice none 0 0, .slice none 0 0, .string ⟨#[]⟩, .slice none 0 0, .slice none 0 0, .slice none 0 0, .bool false, .slice none 0 0]) := Lib.hid (HR2.out.call HPL.out hf3)
  have hs3 := hf3.size
  have hlR3 := HR3.out.lt
  have hp3 := HD3.out.pr.lt
  clear h3 hf3
  have HI := Lib.hid (is_ne (b := [117, 112, 100, 97, 116, 101]) HX.out (by decide))
  go_wp2_with fail
  refine (skips_no P g s [117, 112, 100, 97, 116, 101] _ HD3.out.pr HI.out).mono ?_
  rintro e w4 ⟨rfl, h4, hf4⟩
  have HI4 := Lib.hid HI.out
  have HD4 : Hid (Bd w P g w4 s) := Lib.hid (HD3.out.call h4 hf4)
  have HR4 : Hid (Ow w w4 w.heap.size 29 [.int .i64 0, .string ⟨#[]⟩, .string ⟨#[]⟩, .slice none 0 0, .slice none 0 0, .slice none 0 0, .slice none 0 0, .string ⟨#[]⟩, .slice none 0 0, .slice none 0 0, .slice none 0 0, .bool false, .slice none 0 0]) := Lib.hid (HR3.out.call HPL.out hf4)
  have hs4 := hf4.size
  have hlR4 := HR4.out.lt
  have hp4 := HD4.out.pr.lt
  clear h4 hf4
  have HI := HX
  go_wp2_with fail
  refine (skips_yes P g s [100, 101, 108, 101, 116, 101] _ HD4.out.pr HI.out).mono ?_
  rintro e w5 ⟨rfl, h5, hf5⟩
  have hi5 := HI.out
  obtain ⟨s1, hq5⟩ : ∃ x, PM.skip s = x := ⟨_, rfl⟩
  rw [hq5] at h5
  have HQ5 := Lib.hid hq5
  have HI5 := Lib.hid hi5
  clear hq5 hi5
  have HD5 : Hid (Bd w P g w5 s1) := Lib.hid (HD4.out.call h5 hf5)
  have HR5 : Hid (Ow w w5 w.heap.size 29 [.int .i64 0, .string ⟨#[]⟩, .string ⟨#[]⟩, .slice none 0 0, .slice none 0 0, .slice none 0 0, .slice none 0 0, .string ⟨#[]⟩, .slice none 0 0, .slice none 0 0, .slice none 0 0, .bool false, .slice none 0 0]) := Lib.hid (HR4.out.call HPL.out hf5)
  have hs5 := hf5.size
  have hlR5 := HR5.out.lt
  have hp5 := HD5.out.pr.lt
  clear h5 hf5
  have HG5 : Hid (PM.Le s1 s) := Lib.hid (HG0.out.calm PM.calm_skip HQ5.out)
  go_wp2_with fail
  refine (needs_new (n := w5.heap.size) HD5.out.pr [[102, 114, 111, 109]] (by decide) (by simp)).mono ?_
  rintro e w6 ⟨rfl, h6, hf6⟩
  obtain ⟨s2, hq6⟩ : ∃ x, PM.needs [[102, 114, 111, 109]] s1 = x := ⟨_, rfl⟩
  rw [hq6] at h6
  have HQ6 := Lib.hid hq6
  clear hq6
  have HD6 : Hid (Bd w P g w6 s2) := Lib.hid ((HD5.out.alloc _).call h6 hf6)
  have HR6 : Hid (Ow w w6 w.heap.size 29 [.int .i64 0, .string ⟨#[]⟩, .string ⟨#[]⟩, .slice none 0 0, .slice none 0 0, .slice none 0 0, .slice none 0 0, .string ⟨#[]⟩, .slice none 0 0, .slice none 0 0, .slice none 0 0, .bool false, .slice none 0 0]) := Lib.hid ((HR5.out.alloc _).call HPL.out hf6)
  have hs6 := hf6.size
  simp only [World.size_alloc] at hs6
  have hlR6 := HR6.out.lt
  have hp6 := HD6.out.pr.lt
  clear h6 hf6
  have HG6 : Hid (PM.Le s2 s) := Lib.hid (HG5.out.calm (PM.calm_needs [[102, 114, 111, 109]]) HQ6.out)
  go_wp2_with fail
  refine (name_any P g s2 _ HD6.out.pr).mono ?_
  rintro e w7 ⟨rfl, h7, hf7⟩
  obtain ⟨tn, s3, hq7⟩ : ∃ a b, PM.name s2 = (a, b) := ⟨_, _, rfl⟩
  rw [hq7] at h7 ⊢
  have HQ7 := Lib.hid hq7
  clear hq7
  have HD7 : Hid (Bd w P g w7 s3) := Lib.hid (HD6.out.call h7 hf7)
  have HR7 : Hid (Ow w w7 w.heap.size 29 [.int .i64 0, .string ⟨#[]⟩, .string ⟨#[]⟩, .slice none 0 0, .slice none 0 0, .slice none 0 0, .slice none 0 0, .string ⟨#[]⟩, .slice none 0 0, .slice none 0 0, .slice none 0 0, .bool false, .slice none 0 0]) := Lib.hid (HR6.out.call HPL.out hf7)
  have hs7 := hf7.size
  have hlR7 := HR7.out.lt
  have hp7 := HD7.out.pr.lt
  clear h7 hf7
  have HG7 : Hid (PM.Le s3 s) := Lib.hid (HG6.out.good PM.good_name HQ7.out)
  obtain ⟨wh, s4, hq8⟩ : ∃ a b, PM.wheres n s3 = (a, b) := ⟨_, _, rfl⟩
  have HQ8 := Lib.hid hq8
  clear hq8
  go_wp2_with fail
  refine (where' n (HD7.out.alloc _).pr (by have := HG7.out.1; have := HN.out; omega) (by have := HG7.out.1; have := HN.out; omega) (by have := HG7.out.2; have := HN.out; omega) HQ8.out).mono ?_
  rintro e w8 ⟨⟨wha, whl, whc, rfl, hv⟩, h8, hf8⟩
  have HD8 : Hid (Bd w P g w8 s4) := Lib.hid ((HD7.out.alloc _).call h8 hf8)
  have HR8 : Hid (Ow w w8 w.heap.size 29 [.int .i64 0, .string ⟨#[]⟩, .string ⟨#[]⟩, .slice none 0 0, .slice none 0 0, .slice none 0 0, .slice none 0 0, .string ⟨#[]⟩, .slice none 0 0, .slice none 0 0, .slice none 0 0, .bool false, .slice none 0 0]) := Lib.hid ((HR7.out.alloc _).call HPL.out hf8)
  have HSt8 : Hid (Ow w w8 w7.heap.size 29 [.int .i64 8, .string ⟨tn.toArray⟩, .string ⟨#[]⟩, .slice none 0 0, .slice none 0 0, .slice none 0 0, .slice none 0 0, .string ⟨#[]⟩, .slice none 0 0, .slice none 0 0, .slice none 0 0, .bool false, .slice none 0 0]) := Lib.hid ((Ow.new (by omega) 29 [.int .i64 8, .string ⟨tn.toArray⟩, .string ⟨#[]⟩, .slice none 0 0, .slice none 0 0, .slice none 0 0, .slice none 0 0, .string ⟨#[]⟩, .slice none 0 0, .slice none 0 0, .slice none 0 0, .bool false, .slice none 0 0]).call HPL.out hf8)
  have hs8 := hf8.size
  simp only [World.size_alloc] at hs8
  have hlR8 := HR8.out.lt
  have hlSt8 := HSt8.out.lt
  have hp8 := HD8.out.pr.lt
  clear h8 hf8
  have HG8 : Hid (PM.Le s4 s) := Lib.hid (HG7.out.good (PM.good_wheres n) HQ8.out)
  have HH8 := Lib.hid (Rep.Es.mono (A' := fun b => w7.heap.size < b) (fun b hb => by first | omega | (simp at hb; omega)) hv)
  clear hv
  obtain ⟨Stc0, Stc1, Stc2, Stc3, Stc4, Stc5, Stc6, Stc7, Stc8, Stc9, Stc10, Stc11, Stc12, Stf0, Stf1, Stf2, Stf3, Stf4, Stf5, Stf6, Stf7, Stf8, Stf9, Stf10, Stf11, Stf12⟩ := c13_of HSt8.out.blk
  have HM : Hid (PM.data n s = some (.mk 8 tn [] [] [] [] [] [] [] wh [] false [], s4)) := Lib.hid (by simp only [PM.data, HI2.out, HI3.out, HI4.out, HI5.out, HQ5.out, HQ6.out, HQ7.out, HQ8.out, if_true, if_false, Bool.false_eq_true, eq_self])
  have hnRSt : ¬ w.heap.size = w7.heap.size := by omega
  have hnStR : ¬ w7.heap.size = w.heap.size := by omega
  obtain ⟨Rc0, Rc1, Rc2, Rc3, Rc4, Rc5, Rc6, Rc7, Rc8, Rc9, Rc10, Rc11, Rc12, Rf0, Rf1, Rf2, Rf3, Rf4, Rf5, Rf6, Rf7, Rf8, Rf9, Rf10, Rf11, Rf12⟩ := c13_of HR8.out.blk
  go_wp2_with fail
  refine bodyPost_ret (ret_cell13 rfl _ w.heap.size rfl _ _ _ _ _ _ _ _ _ _ _ _ _ _ (blkPut13 (HR8.out.other (by omega)).blk _ _ _ _ _ _ _ _ _ _ _ _ _)) rfl ?_
  exact ⟨_, _, HM.out, ⟨_, rfl, .mk _ _ _ _ _ _ _ _ _ _ _ _ _ _ _ _ _ _ _ _ _ .nil .nil Rep.Es.nil .nil Rep.Es.nil (Rep.Es.mono (A' := fun b => w.heap.size ≤ b) (fun b hb => by omega) (Rep.Es.keep (frPut13 ((Fr.refl [some w.heap.size, some w7.heap.size] w8).setCell (p := ⟨w7.heap.size, 9, none⟩) (.inl (by simp)) (.slice wha whl whc)) (.inl (by simp)) _ _ _ _ _ _ _ _ _ _ _ _ _) (fun b hb => by simp; omega) HH8.out)) Rep.Es.nil SS.nil⟩, ((HD8.out.set (by omega)).pr.keep (frPut13 (Fr.refl [some w.heap.size] _) (.inl (by simp)) _ _ _ _ _ _ _ _ _ _ _ _ _) (by simp; omega) (by simp; omega)), (frPut13 (HD8.out.set (by omega)).fr (.inr HR8.out.ge) _ _ _ _ _ _ _ _ _ _ _ _ _)⟩
set_option maxRecDepth 100000 in
set_option maxHeartbeats 10000000 in
theorem stmt_update (P g n : Nat) (s : PS) (w : World) (h : PR w P g s) (h0 : 0 ≤ s.deep) (h64 : s.deep ≤ 64) (hn : s.l.length ≤ n) (hb : s.l.length ≤ 1000) (hi : PM.is [117, 112, 100, 97, 116, 101] s = true) :
    Calls Tryz.prog 19 #[.pointer (some ⟨P, 0, none⟩)] w fun e w' => ∃ st s', PM.data n s = some (st, s') ∧ StR w.heap.size w' e st ∧ PR w' P g s' ∧ Fr [some P] w w' := by
  have hPl := h.lt
  have hgP := h.ne
  have HPL := Lib.hid hPl
  have HD : Hid (Bd w P g w s) := Lib.hid (Bd.start h)
  have HX := Lib.hid hi
  clear hi
  have HN := Lib.hid (And.intro h0 (And.intro h64 (And.intro hn hb)))
  have HG0 := Lib.hid (PM.Le.refl s)
  clear h h0 h64 hn hb
  go_enter Tryz.func19, Tryz.ntmps19
  have HI := Lib.hid (is_ne (b := [99, 114, 101, 97, 116, 101]) HX.out (by decide))
  go_wp2_with fail
  refine (skips_no P g s [99, 114, 101, 97, 116, 101] _ (HD.out.alloc _).pr HI.out).mono ?_
  rintro e w1 ⟨rfl, h1, hf1⟩
  have HI1 := Lib.hid HI.out
  have HD1 : Hid (Bd w P g w1 s) := Lib.hid ((HD.out.alloc _).call h1 hf1)
  have HR1 : Hid (Ow w w1 w.heap.size 29 [.int .i64 0, .string ⟨#[]⟩, .string ⟨#[]⟩, .slice none 0 0, .slice none 0 0, .slice none 0 0, .slice none 0 0, .string ⟨#[]⟩, .slice none 0 0, .slice none 0 0, .slice none 0 0, .bool false, .slice none 0 0]) := Lib.hid ((Ow.new (by omega) 29 [.int .i64 0, .string ⟨#[]⟩, .string ⟨#[]⟩, .slice none 0 0, .slice none 0 0, .slice none 0 0, .slice none 0 0, .string ⟨#[]⟩, .slice none 0 0, .slice none 0 0, .slice none 0 0, .bool false, .slice none 0 0]).call HPL.out hf1)
  have hs1 := hf1.size
  simp only [World.size_alloc] at hs1
  have hlR1 := HR1.out.lt
  have hp1 := HD1.out.pr.lt
  clear h1 hf1
  have HI := Lib.hid (is_ne (b := [105, 110, 115, 101, 114, 116]) HX.out (by decide))
  go_wp2_with fail
  refine (skips_no P g s [105, 110, 115, 101, 114, 116] _ HD1.out.pr HI.out).mono ?_
  rintro e w2 ⟨rfl, h2, hf2⟩
  have HI2 := Lib.hid HI.out
  have HD2 : Hid (Bd w P g w2 s) := Lib.hid (HD1.out.call h2 hf2)
  have HR2 : Hid (Ow w w2 w.heap.size 29 [.int .i64 0, .string ⟨#[]⟩, .string ⟨#[]⟩, .slice none 0 0, .slice none 0 0, .slice none 0 0, .slice none 0 0, .string ⟨#[]⟩, .slice none 0 0, .slice none 0 0, .slice none 0 0, .bool false, .slice none 0 0]) := Lib.hid (HR1.out.call HPL.out hf2)
  have hs2 := hf2.size
  have hlR2 := HR2.out.lt
  have hp2 := HD2.out.pr.lt
  clear h2 hf2
  have HI := Lib.hid (is_ne (b := [115, 101, 108, 101, 99, 116]) HX.out (by decide))
  go_wp2_with fail
  refine (skips_no P g s [115, 101, 108, 101, 99, 116] _ HD2.out.pr HI.out).mono ?_
  rintro e w3 ⟨rfl, h3, hf3⟩
  have HI3 := Lib.hid HI.out
  have HD3 : Hid (Bd w P g w3 s) := Lib.hid (HD2.out.call h3 hf3)
  have HR3 : Hid (Ow w w3 w.heap.size 29 [.int .i64 0, .string ⟨#[]⟩, .string ⟨#[]⟩, .slice none 0 0, .slice none 0 0, .slice none 0 0, .slice none 0 0, .string ⟨#[]⟩, .slice none 0 0, .slice none 0 0, .slice none 0 0, .bool false, .slice none 0 0]) := Lib.hid (HR2.out.call HPL.out hf3)
  have hs3 := hf3.size
  have hlR3 := HR3.out.lt
  have hp3 := HD3.out.pr.lt
  clear h3 hf3
  have HI := HX
  go_wp2_with fail
  refine (skips_yes P g s [117, 112, 100, 97, 116, 101] _ HD3.out.pr HI.out).mono ?_
  rintro e w4 ⟨rfl, h4, hf4⟩
  have hi4 := HI.out
  obtain ⟨s1, hq4⟩ : ∃ x, PM.skip s = x := ⟨_, rfl⟩
  rw [hq4] at h4
  have HQ4 := Lib.hid hq4
  have HI4 := Lib.hid hi4
  clear hq4 hi4
  have HD4 : Hid (Bd w P g w4 s1) := Lib.hid (HD3.out.call h4 hf4)
  have HR4 : Hid (Ow w w4 w.heap.size 29 [.int .i64 0, .string ⟨#[]⟩, .string ⟨#[]⟩, .slice none 0 0, .slice none 0 0, .slice none 0 0, .slice none 0 0, .string ⟨#[]⟩, .slice none 0 0, .slice none 0 0, .slice none 0 0, .bool false, .slice none 0 0]) := Lib.hid (HR3.out.call HPL.out hf4)
  have hs4 := hf4.size
  have hlR4 := HR4.out.lt
  have hp4 := HD4.out.pr.lt
  clear h4 hf4
  have HG4 : Hid (PM.Le s1 s) := Lib.hid (HG0.out.calm PM.calm_skip HQ4.out)
  go_wp2_with fail
  refine (name_any P g s1 _ HD4.out.pr).mono ?_
  rintro e w5 ⟨rfl, h5, hf5⟩
  obtain ⟨tn, s2, hq5⟩ : ∃ a b, PM.name s1 = (a, b) := ⟨_, _, rfl⟩
  rw [hq5] at h5 ⊢
  have HQ5 := Lib.hid hq5
  clear hq5
  have HD5 : Hid (Bd w P g w5 s2) := Lib.hid (HD4.out.call h5 hf5)
  have HR5 : Hid (Ow w w5 w.heap.size 29 [.int .i64 0, .string ⟨#[]⟩, .string ⟨#[]⟩, .slice none 0 0, .slice none 0 0, .slice none 0 0, .slice none 0 0, .string ⟨#[]⟩, .slice none 0 0, .slice none 0 0, .slice none 0 0, .bool false, .slice none 0 0]) := Lib.hid (HR4.out.call HPL.out hf5)
  have hs5 := hf5.size
  have hlR5 := HR5.out.lt
  have hp5 := HD5.out.pr.lt
  clear h5 hf5
  have HG5 : Hid (PM.Le s2 s) := Lib.hid (HG4.out.good PM.good_name HQ5.out)
  go_wp2_with fail
  refine (needs_new (n := w5.heap.size + 1) (HD5.out.alloc _).pr [[115, 101, 116]] (by decide) (by simp)).mono ?_
  rintro e w6 ⟨rfl, h6, hf6⟩
  obtain ⟨s3, hq6⟩ : ∃ x, PM.needs [[115, 101, 116]] s2 = x := ⟨_, rfl⟩
  rw [hq6] at h6
  have HQ6 := Lib.hid hq6
  clear hq6
  have HD6 : Hid (Bd w P g w6 s3) := Lib.hid (((HD5.out.alloc _).alloc _).call h6 hf6)
  have HR6 : Hid (Ow w w6 w.heap.size 29 [.int .i64 0, .string ⟨#[]⟩, .string ⟨#[]⟩, .slice none 0 0, .slice none 0 0, .slice none 0 0, .slice none 0 0, .string ⟨#[]⟩, .slice none 0 0, .slice none 0 0, .slice none 0 0, .bool false, .slice none 0 0]) := Lib.hid (((HR5.out.alloc _).alloc _).call HPL.out hf6)
  have HSt6 : Hid (Ow w w6 w5.heap.size 29 [.int .i64 7, .string ⟨tn.toArray⟩, .string ⟨#[]⟩, .slice none 0 0, .slice none 0 0, .slice none 0 0, .slice none 0 0, .string ⟨#[]⟩, .slice none 0 0, .slice none 0 0, .slice none 0 0, .bool false, .slice none 0 0]) := Lib.hid (((Ow.new (by omega) 29 [.int .i64 7, .string ⟨tn.toArray⟩, .string ⟨#[]⟩, .slice none 0 0, .slice none 0 0, .slice none 0 0, .slice none 0 0, .string ⟨#[]⟩, .slice none 0 0, .slice none 0 0, .slice none 0 0, .bool false, .slice none 0 0]).alloc _).call HPL.out hf6)
  have hs6 := hf6.size
  simp only [World.size_alloc] at hs6
  have hlR6 := HR6.out.lt
  have hlSt6 := HSt6.out.lt
  have hp6 := HD6.out.pr.lt
  clear h6 hf6
  have HG6 : Hid (PM.Le s3 s) := Lib.hid (HG5.out.calm (PM.calm_needs [[115, 101, 116]]) HQ6.out)
  go_wp2_with fail
  refine (name_any P g s3 _ HD6.out.pr).mono ?_
  rintro e w7 ⟨rfl, h7, hf7⟩
  obtain ⟨cn, s4, hq7⟩ : ∃ a b, PM.name s3 = (a, b) := ⟨_, _, rfl⟩
  rw [hq7] at h7 ⊢
  have HQ7 := Lib.hid hq7
  clear hq7
  have HD7 : Hid (Bd w P g w7 s4) := Lib.hid (HD6.out.call h7 hf7)
  have HR7 : Hid (Ow w w7 w.heap.size 29 [.int .i64 0, .string ⟨#[]⟩, .string ⟨#[]⟩, .slice none 0 0, .slice none 0 0, .slice none 0 0, .slice none 0 0, .string ⟨#[]⟩, .slice none 0 0, .slice none 0 0, .slice none 0 0, .bool false, .slice none 0 0]) := Lib.hid (HR6.out.call HPL.out hf7)
  have HSt7 : Hid (Ow w w7 w5.heap.size 29 [.int .i64 7, .string ⟨tn.toArray⟩, .string ⟨#[]⟩, .slice none 0 0, .slice none 0 0, .slice none 0 0, .slice none 0 0, .string ⟨#[]⟩, .slice none 0 0, .slice none 0 0, .slice none 0 0, .bool false, .slice none 0 0]) := Lib.hid (HSt6.out.call HPL.out hf7)
  have hs7 := hf7.size
  have hlR7 := HR7.out.lt
  have hlSt7 := HSt7.out.lt
  have hp7 := HD7.out.pr.lt
  clear h7 hf7
  have HG7 : Hid (PM.Le s4 s) := Lib.hid (HG6.out.good PM.good_name HQ7.out)
  obtain ⟨Stc0, Stc1, Stc2, Stc3, Stc4, Stc5, Stc6, Stc7, Stc8, Stc9, Stc10, Stc11, Stc12, Stf0, Stf1, Stf2, Stf3, Stf4, Stf5, Stf6, Stf7, Stf8, Stf9, Stf10, Stf11, Stf12⟩ := c13_of HSt7.out.blk
  go_wp2_with fail
  clear Stc0 Stc1 Stc2 Stc3 Stc4 Stc5 Stc6 Stc7 Stc8 Stc9 Stc10 Stc11 Stc12 Stf0 Stf1 Stf2 Stf3 Stf4 Stf5 Stf6 Stf7 Stf8 Stf9 Stf10 Stf11 Stf12
  go_wp2_with fail
  refine (needs_new (n := w7.heap.size) (HD7.out.set (by omega)).pr [[61]] (by decide) (by simp)).mono ?_
  rintro e w8 ⟨rfl, h8, hf8⟩
  obtain ⟨s5, hq8⟩ : ∃ x, PM.needs [[61]] s4 = x := ⟨_, rfl⟩
  rw [hq8] at h8
  have HQ8 := Lib.hid hq8
  clear hq8
  have HD8 : Hid (Bd w P g w8 s5) := Lib.hid (((HD7.out.set (by omega)).alloc _).call h8 hf8)
  have HR8 : Hid (Ow w w8 w.heap.size 29 [.int .i64 0, .string ⟨#[]⟩, .string ⟨#[]⟩, .slice none 0 0, .slice none 0 0, .slice none 0 0, .slice none 0 0, .string ⟨#[]⟩, .slice none 0 0, .slice none 0 0, .slice none 0 0, .bool false, .slice none 0 0]) := Lib.hid (((HR7.out.other (by omega)).alloc _).call HPL.out hf8)
  have HSt8 : Hid (Ow w w8 w5.heap.size 29 [.int .i64 7, .string ⟨tn.toArray⟩, (.string ⟨cn.toArray⟩), .slice none 0 0, .slice none 0 0, .slice none 0 0, .slice none 0 0, .string ⟨#[]⟩, .slice none 0 0, .slice none 0 0, .slice none 0 0, .bool false, .slice none 0 0]) := Lib.hid (((HSt7.out.set 2 (.string ⟨cn.toArray⟩)).alloc _).call HPL.out hf8)
  have hs8 := hf8.size
  simp only [World.size_alloc, World.size_setCell] at hs8
  have hlR8 := HR8.out.lt
  have hlSt8 := HSt8.out.lt
  have hp8 := HD8.out.pr.lt
  clear h8 hf8
  have HG8 : Hid (PM.Le s5 s) := Lib.hid (HG7.out.calm (PM.calm_needs [[61]]) HQ8.out)
  obtain ⟨xx, s6, hq9⟩ : ∃ a b, PM.expr n s5 = (a, b) := ⟨_, _, rfl⟩
  have HQ9 := Lib.hid hq9
  clear hq9
  go_wp2_with fail
  refine (expr' n HD8.out.pr (by have := HG8.out.1; have := HN.out; omega) (by have := HG8.out.1; have := HN.out; omega) (by have := HG8.out.2; have := HN.out; omega) HQ9.out).mono ?_
  rintro e w9 ⟨hx, h9, hf9⟩
  obtain ⟨xo, xk, xi, xz, xt, xn, xa, xe, xc, rfl, hrep⟩ := ex_cells hx
  clear hx
  have HD9 : Hid (Bd w P g w9 s6) := Lib.hid (HD8.out.call h9 hf9)
  have HR9 : Hid (Ow w w9 w.heap.size 29 [.int .i64 0, .string ⟨#[]⟩, .string ⟨#[]⟩, .slice none 0 0, .slice none 0 0, .slice none 0 0, .slice none 0 0, .string ⟨#[]⟩, .slice none 0 0, .slice none 0 0, .slice none 0 0, .bool false, .slice none 0 0]) := Lib.hid (HR8.out.call HPL.out hf9)
  have HSt9 : Hid (Ow w w9 w5.heap.size 29 [.int .i64 7, .string ⟨tn.toArray⟩, (.string ⟨cn.toArray⟩), .slice none 0 0, .slice none 0 0, .slice none 0 0, .slice none 0 0, .string ⟨#[]⟩, .slice none 0 0, .slice none 0 0, .slice none 0 0, .bool false, .slice none 0 0]) := Lib.hid (HSt8.out.call HPL.out hf9)
  have hs9 := hf9.size
  have hlR9 := HR9.out.lt
  have hlSt9 := HSt9.out.lt
  have hp9 := HD9.out.pr.lt
  clear h9 hf9
  have HG9 : Hid (PM.Le s6 s) := Lib.hid (HG8.out.good (PM.good_exprN n) HQ9.out)
  have Hx9 := Lib.hid (Rep.E.mono (A' := fun b => w5.heap.size < b) (fun b hb => by first | omega | (simp at hb; omega)) hrep)
  clear hrep
  obtain ⟨Stc0, Stc1, Stc2, Stc3, Stc4, Stc5, Stc6, Stc7, Stc8, Stc9, Stc10, Stc11, Stc12, Stf0, Stf1, Stf2, Stf3, Stf4, Stf5, Stf6, Stf7, Stf8, Stf9, Stf10, Stf11, Stf12⟩ := c13_of HSt9.out.blk
  have HVn : Hid (Rep.Es 82 (fun b => w5.heap.size < b) ((w9.setCell ⟨w5.heap.size, 5, none⟩ (.slice (some ⟨w9.heap.size, 0, none⟩) 1 1)).alloc (.cells #[.int .i64 xo, .int .i64 xk, .int .i64 xi, .string ⟨xz.toArray⟩, .string ⟨xt.toArray⟩, .string ⟨xn.toArray⟩, .slice xa xe xc] 82)) [xx] (.slice (some ⟨w9.heap.size, 0, none⟩) 1 1)) := Lib.hid (es_set_new (Rep.L.cons _ _ _ _ Hx9.out .nil) (fun g hg => by omega) (by omega) (by simp [maxLen]))
  go_wp2_with fail
  clear Stc0 Stc1 Stc2 Stc3 Stc4 Stc5 Stc6 Stc7 Stc8 Stc9 Stc10 Stc11 Stc12 Stf0 Stf1 Stf2 Stf3 Stf4 Stf5 Stf6 Stf7 Stf8 Stf9 Stf10 Stf11 Stf12
  obtain ⟨wh, s7, hq10⟩ : ∃ a b, PM.wheres n s6 = (a, b) := ⟨_, _, rfl⟩
  have HQ10 := Lib.hid hq10
  clear hq10
  go_wp2_with fail
  refine (where' n ((HD9.out.set (by omega)).alloc _).pr (by have := HG9.out.1; have := HN.out; omega) (by have := HG9.out.1; have := HN.out; omega) (by have := HG9.out.2; have := HN.out; omega) HQ10.out).mono ?_
  rintro e w10 ⟨⟨wha, whl, whc, rfl, hv⟩, h10, hf10⟩
  have HD10 : Hid (Bd w P g w10 s7) := Lib.hid (((HD9.out.set (by omega)).alloc _).call h10 hf10)
  have HR10 : Hid (Ow w w10 w.heap.size 29 [.int .i64 0, .string ⟨#[]⟩, .string ⟨#[]⟩, .slice none 0 0, .slice none 0 0, .slice none 0 0, .slice none 0 0, .string ⟨#[]⟩, .slice none 0 0, .slice none 0 0, .slice none 0 0, .bool false, .slice none 0 0]) := Lib.hid (((HR9.out.other (by omega)).alloc _).call HPL.out hf10)
  have HSt10 : Hid (Ow w w10 w5.heap.size 29 [.int .i64 7, .string ⟨tn.toArray⟩, (.string ⟨cn.toArray⟩), .slice none 0 0, .slice none 0 0, (.slice (some ⟨w9.heap.size, 0, none⟩) 1 1), .slice none 0 0, .string ⟨#[]⟩, .slice none 0 0, .slice none 0 0, .slice none 0 0, .bool false, .slice none 0 0]) := Lib.hid (((HSt9.out.set 5 (.slice (some ⟨w9.heap.size, 0, none⟩) 1 1)).alloc _).call HPL.out hf10)
  have HV10 := Lib.hid (Rep.Es.keep hf10 (fun b hb => by simp <;> omega) HVn.out)
  have hs10 := hf10.size
  simp only [World.size_alloc, World.size_setCell] at hs10
  have hlR10 := HR10.out.lt
  have hlSt10 := HSt10.out.lt
  have hp10 := HD10.out.pr.lt
  clear h10 hf10
  have HG10 : Hid (PM.Le s7 s) := Lib.hid (HG9.out.good (PM.good_wheres n) HQ10.out)
  have HH10 := Lib.hid (Rep.Es.mono (A' := fun b => w5.heap.size < b) (fun b hb => by first | omega | (simp at hb; omega)) hv)
  clear hv
  obtain ⟨Stc0, Stc1, Stc2, Stc3, Stc4, Stc5, Stc6, Stc7, Stc8, Stc9, Stc10, Stc11, Stc12, Stf0, Stf1, Stf2, Stf3, Stf4, Stf5, Stf6, Stf7, Stf8, Stf9, Stf10, Stf11, Stf12⟩ := c13_of HSt10.out.blk
  have HM : Hid (PM.data n s = some (.mk 7 tn cn [] [] [xx] [] [] [] wh [] false [], s7)) := Lib.hid (by simp only [PM.data, HI2.out, HI3.out, HI4.out, HQ4.out, HQ5.out, HQ6.out, HQ7.out, HQ8.out, HQ9.out, HQ10.out, if_true, if_false, Bool.false_eq_true, eq_self])
  have hnRSt : ¬ w.heap.size = w5.heap.size := by omega
  have hnStR : ¬ w5.heap.size = w.heap.size := by omega
  obtain ⟨Rc0, Rc1, Rc2, Rc3, Rc4, Rc5, Rc6, Rc7, Rc8, Rc9, Rc10, Rc11, Rc12, Rf0, Rf1, Rf2, Rf3, Rf4, Rf5, Rf6, Rf7, Rf8, Rf9, Rf10, Rf11, Rf12⟩ := c13_of HR10.out.blk
  go_wp2_with fail
  refine bodyPost_ret (ret_cell13 rfl _ w.heap.size rfl _ _ _ _ _ _ _ _ _ _ _ _ _ _ (blkPut13 (HR10.out.other (by omega)).blk _ _ _ _ _ _ _ _ _ _ _ _ _)) rfl ?_
  exact ⟨_, _, HM.out, ⟨_, rfl, .mk _ _ _ _ _ _ _ _ _ _ _ _ _ _ _ _ _ _ _ _ _ .nil .nil (Rep.Es.mono (A' := fun b => w.heap.size ≤ b) (fun b hb => by omega) (Rep.Es.keep (frPut13 ((Fr.refl [some w.heap.size, some w5.heap.size] w10).setCell (p := ⟨w5.heap.size, 9, none⟩) (.inl (by simp)) (.slice wha whl whc)) (.inl (by simp)) _ _ _ _ _ _ _ _ _ _ _ _ _) (fun b hb => by simp; omega) HV10.out)) .nil Rep.Es.nil (Rep.Es.mono (A' := fun b => w.heap.size ≤ b) (fun b hb => by omega) (Rep.Es.keep (frPut13 ((Fr.refl [some w.heap.size, some w5.heap.size] w10).setCell (p := ⟨w5.heap.size, 9, none⟩) (.inl (by simp)) (.slice wha whl whc)) (.inl (by simp)) _ _ _ _ _ _ _ _ _ _ _ _ _) (fun b hb => by simp; omega) HH10.out)) Rep.Es.nil SS.nil⟩, ((HD10.out.set (by omega)).pr.keep (frPut13 (Fr.refl [some w.heap.size] _) (.inl (by simp)) _ _ _ _ _ _ _ _ _ _ _ _ _) (by simp; omega) (by simp; omega)), (frPut13 (HD10.out.set (by omega)).fr (.inr HR10.out.ge) _ _ _ _ _ _ _ _ _ _ _ _ _)⟩
set_option maxRecDepth 100000 in
set_option maxHeartbeats 10000000 in
theorem stmt_select (P g n : Nat) (s : PS) (w : World) (h : PR w P g s) (h0 : 0 ≤ s.deep) (h64 : s.deep ≤ 64) (hn : s.l.length ≤ n) (hb : s.l.length ≤ 1000) (hi : PM.is [115, 101, 108, 101, 99, 116] s = true) :
    Calls Tryz.prog 19 #[.pointer (some ⟨P, 0, none⟩)] w fun e w' => ∃ st s', PM.data n s = some (st, s') ∧ StR w.heap.size w' e st ∧ PR w' P g s' ∧ Fr [some P] w w' := by
  have hPl := h.lt
  have hgP := h.ne
  have HPL := Lib.hid hPl
  have HD : Hid (Bd w P g w s) := Lib.hid (Bd.start h)
  have HX := Lib.hid hi
  clear hi
  have HN := Lib.hid (And.intro h0 (And.intro h64 (And.intro hn hb)))
  have HG0 := Lib.hid (PM.Le.refl s)
  clear h h0 h64 hn hb
  go_enter Tryz.func19, Tryz.ntmps19
  have HI := Lib.hid (is_ne (b := [99, 114, 101, 97, 116, 101]) HX.out (by decide))
  go_wp2_with fail
  refine (skips_no P g s [99, 114, 101, 97, 116, 101] _ (HD.out.alloc _).pr HI.out).mono ?_
  rintro e w1 ⟨rfl, h1, hf1⟩
  have HI1 := Lib.hid HI.out
  have HD1 : Hid (Bd w P g w1 s) := Lib.hid ((HD.out.alloc _).call h1 hf1)
  have HR1 : Hid (Ow w w1 w.heap.size 29 [.int .i64 0, .string ⟨#[]⟩, .string ⟨#[]⟩, .slice none 0 0, .slice none 0 0, .slice none 0 0, .slice none 0 0, .string ⟨#[]⟩, .slice none 0 0, .slice none 0 0, .slice none 0 0, .bool false, .slice none 0 0]) := Lib.hid ((Ow.new (by omega) 29 [.int .i64 0, .string ⟨#[]⟩, .string ⟨#[]⟩, .slice none 0 0, .slice none 0 0, .slice none 0 0, .slice none 0 0, .string ⟨#[]⟩, .slice none 0 0, .slice none 0 0, .slice none 0 0, .bool false, .slice none 0 0]).call HPL.out hf1)
  have hs1 := hf1.size
  simp only [World.size_alloc] at hs1
  have hlR1 := HR1.out.lt
  have hp1 := HD1.out.pr.lt
  clear h1 hf1
  have HI := Lib.hid (is_ne (b := [105, 110, 115, 101, 114, 116]) HX.out (by decide))
  go_wp2_with fail
  refine (skips_no P g s [105, 110, 115, 101, 114, 116] _ HD1.out.pr HI.out).mono ?_
  rintro e w2 ⟨rfl, h2, hf2⟩
  have HI2 := Lib.hid HI.out
  have HD2 : Hid (Bd w P g w2 s) := Lib.hid (HD1.out.call h2 hf2)
  have HR2 : Hid (Ow w w2 w.heap.size 29 [.int .i64 0, .string ⟨#[]⟩, .string ⟨#[]⟩, .slice none 0 0, .slice none 0 0, .slice none 0 0, .slice none 0 0, .string ⟨#[]⟩, .slice none 0 0, .slice none 0 0, .slice none 0 0, .bool false, .slice none 0 0]) := Lib.hid (HR1.out.call HPL.out hf2)
  have hs2 := hf2.size
  have hlR2 := HR2.out.lt
  have hp2 := HD2.out.pr.lt
  clear h2 hf2
  have HI := HX
  go_wp2_with fail
  refine (skips_yes P g s [115, 101, 108, 101, 99, 116] _ HD2.out.pr HI.out).mono ?_
  rintro e w3 ⟨rfl, h3, hf3⟩
  have hi3 := HI.out
  obtain ⟨s1, hq3⟩ : ∃ x, PM.skip s = x := ⟨_, rfl⟩
  rw [hq3] at h3
  have HQ3 := Lib.hid hq3
  have HI3 := Lib.hid hi3
  clear hq3 hi3
  have HD3 : Hid (Bd w P g w3 s1) := Lib.hid (HD2.out.call h3 hf3)
  have HR3 : Hid (Ow w w3 w.heap.size 29 [.int .i64 0, .string ⟨#[]⟩, .string ⟨#[]⟩, .slice none 0 0, .slice none 0 0, .slice none 0 0, .slice none 0 0, .string ⟨#[]⟩, .slice none 0 0, .slice none 0 0, .slice none 0 0, .bool false, .slice none 0 0]) := Lib.hid (HR2.out.call HPL.out hf3)
  have hs3 := hf3.size
  have hlR3 := HR3.out.lt
  have hp3 := HD3.out.pr.lt
  clear h3 hf3
  have HG3 : Hid (PM.Le s1 s) := Lib.hid (HG0.out.calm PM.calm_skip HQ3.out)
  obtain ⟨sx, s2, hq4⟩ : ∃ a b, PM.selects n s1 = (a, b) := ⟨_, _, rfl⟩
  have HQ4 := Lib.hid hq4
  clear hq4
  go_wp2_with fail
  refine (selects_any P g n s1 _ HD3.out.pr (by have := HG3.out.1; have := HN.out; omega) (by have := HG3.out.1; have := HN.out; omega) (by have := HG3.out.2; have := HN.out; omega) (by have := HG3.out.2; have := HN.out; omega) HQ4.out).mono ?_
  rintro e w4 ⟨hx, h4, hf4⟩
  obtain ⟨kind, table, name, join, a3, a4, a5, a6, a8, a9, a10, a12, l3, l4, l5, l6, l8, l9, l10, l12, c3, c4, c5, c6, c8, c9, c10, c12, desc, rfl, hrep⟩ := st_cells hx
  have HREP := Lib.hid hrep
  clear hx hrep
  have HD4 : Hid (Bd w P g w4 s2) := Lib.hid (HD3.out.call h4 hf4)
  have HR4 : Hid (Ow w w4 w.heap.size 29 [.int .i64 0, .string ⟨#[]⟩, .string ⟨#[]⟩, .slice none 0 0, .slice none 0 0, .slice none 0 0, .slice none 0 0, .string ⟨#[]⟩, .slice none 0 0, .slice none 0 0, .slice none 0 0, .bool false, .slice none 0 0]) := Lib.hid (HR3.out.call HPL.out hf4)
  have hs4 := hf4.size
  have hlR4 := HR4.out.lt
  have hp4 := HD4.out.pr.lt
  clear h4 hf4
  have HM : Hid (PM.data n s = some (sx, s2)) := Lib.hid (by simp only [PM.data, HI2.out, HI3.out, HQ3.out, HQ4.out, if_true, if_false, Bool.false_eq_true, eq_self])
  obtain ⟨Rc0, Rc1, Rc2, Rc3, Rc4, Rc5, Rc6, Rc7, Rc8, Rc9, Rc10, Rc11, Rc12, Rf0, Rf1, Rf2, Rf3, Rf4, Rf5, Rf6, Rf7, Rf8, Rf9, Rf10, Rf11, Rf12⟩ := c13_of HR4.out.blk
  go_wp2_with fail
  refine bodyPost_ret (ret_cell13 rfl _ w.heap.size rfl _ _ _ _ _ _ _ _ _ _ _ _ _ _ (blkPut13 HR4.out.blk _ _ _ _ _ _ _ _ _ _ _ _ _)) rfl ⟨_, _, HM.out, ?_⟩
  exact st_end HD4.out (frPut13 (Fr.refl [some w.heap.size] _) (.inl (by simp)) _ _ _ _ _ _ _ _ _ _ _ _ _) (Nat.le_refl _) (SR.mono (fun b hb => by omega) HREP.out)
/-- a statement that writes or reads rows -/
theorem data_any (P g n : Nat) (s : PS) (w : World) (h : PR w P g s) (h0 : 0 ≤ s.deep) (h64 : s.deep ≤ 64) (hn : s.l.length ≤ n) (hb : s.l.length ≤ 1000) {st : PM.St} {s' : PS} (hq : PM.data n s = some (st, s')) :
    Calls Tryz.prog 19 #[.pointer (some ⟨P, 0, none⟩)] w fun e w' => StR w.heap.size w' e st ∧ PR w' P g s' ∧ Fr [some P] w w' := by
  have key : Calls Tryz.prog 19 #[.pointer (some ⟨P, 0, none⟩)] w fun e w' => ∃ st s', PM.data n s = some (st, s') ∧ StR w.heap.size w' e st ∧ PR w' P g s' ∧ Fr [some P] w w' := by
    cases h1 : PM.is [105, 110, 115, 101, 114, 116] s
    · cases h2 : PM.is [115, 101, 108, 101, 99, 116] s
      · cases h3 : PM.is [117, 112, 100, 97, 116, 101] s
        · cases h4 : PM.is [100, 101, 108, 101, 116, 101] s
          · rw [PM.data, if_neg (by rw [h1]; decide), if_neg (by rw [h2]; decide), if_neg (by rw [h3]; decide), if_neg (by rw [h4]; decide)] at hq
            cases hq
          · exact stmt_delete P g n s w h h0 h64 hn hb h4
        · exact stmt_update P g n s w h h0 h64 hn hb h3
      · exact stmt_select P g n s w h h0 h64 hn hb h2
    · exact stmt_insert P g n s w h h0 h64 hn hb h1
  refine key.mono ?_
  rintro e w' ⟨st', s'', h1, h2, h3, h4⟩
  rw [hq] at h1
  cases h1
  exact ⟨h2, h3, h4⟩
end Px
end Go.Proofs.YtmdnhinpaflamaaGreatDoor
namespace Go.Proofs.YtmdnhinpaflamaaGreatDoor
open Go.RowKit
namespace Px
open PM (PS B Ex)

/-- some words in a row, in a block of A -/
def StrsA (A : Nat → Prop) (w : World) (gs : Nat) (l : List B) : Prop := Strs w gs 0 l ∧ gs < w.heap.size ∧ A gs
theorem StrsA.keep {A : Nat → Prop} {X : List (Option Nat)} {w w' : World} {gs : Nat} {l : List B} (hf : Fr X w w') (hX : ∀ g, A g → some g ∉ X) (h : StrsA A w gs l) : StrsA A w' gs l :=
  ⟨fun j hj => (hf.cell h.2.1 (hX _ h.2.2)).trans (h.1 j hj), Nat.lt_of_lt_of_le h.2.1 hf.size, h.2.2⟩
theorem strsA_new {w : World} {l : List B} {n : Nat} (hn : w.heap.size = n) : StrsA (fun b => b = n) (w.alloc (.cells (l.map (fun b => Value.string ⟨b.toArray⟩)).toArray 9)) n l := by
  subst hn
  exact ⟨strs_new w l, by simp, rfl⟩
theorem any_false {l : List B} {s : PS} (h : ∀ (j : Nat) (hj : j < l.length), PM.is l[j] s = false) : l.any (fun w => PM.is w s) = false := by
  rw [Bool.eq_false_iff]
  intro h2
  obtain ⟨x, hx, h3⟩ := List.any_eq_true.1 h2
  obtain ⟨j, hj, rfl⟩ := List.mem_iff_getElem.1 hx
  rw [h j hj] at h3
  cases h3
theorem any_true {l : List B} {s : PS} {k : Nat} (hk : k < l.length) (h : PM.is l[k] s = true) : l.any (fun w => PM.is w s) = true := List.any_eq_true.2 ⟨_, List.getElem_mem hk, h⟩
/-- a new list of one statement, laid behind some stores -/
theorem st_new {A : Nat → Prop} {X : List (Option Nat)} {w w' : World} {x : PM.St} {cs : List Value} (hf : Fr X w w') (hX : ∀ g, A g → some g ∉ X) (hs : w'.heap.size = w.heap.size) (hx : SR A w x cs) (hn : A w.heap.size) :
    SS A (w'.alloc (.cells cs.toArray 29)) [x] (.slice (some ⟨w.heap.size, 0, none⟩) 1 1) := by
  have hnew := Blk.new w' 29 cs
  rw [hs] at hnew
  have hlen := hx.length
  have hc : cs ++ [] = cs := List.append_nil _
  have hL : SL A (w'.alloc (.cells cs.toArray 29)) [x] cs := by
    have := SL.cons x [] cs [] (SR.keep (hf.alloc (.cells cs.toArray 29)) hX hx) .nil
    rwa [hc] at this
  refine .mk [x] _ cs hL ⟨hlen, .inr ⟨w.heap.size, 0, 1, cs, rfl, hnew, Nat.le_refl _, by simp [maxLen], by omega, ?_⟩⟩ (fun g hg => ?_)
  · rw [List.drop_zero]
    exact List.take_of_length_le (Nat.le_of_eq hlen)
  · simp only [Value.ownBlock, Option.some.injEq] at hg
    subst hg
    exact hn

set_option maxRecDepth 100000 in
set_option maxHeartbeats 10000000 in
theorem door_tags (P g n : Nat) (s : PS) (w : World) (h : PR w P g s) (h0 : 0 ≤ s.deep) (h64 : s.deep ≤ 64) (hn : s.l.length ≤ n) (hb : s.l.length ≤ 1000) (kd : Int) (l : List B) (gs : Nat) (hW : StrsA (fun b => b = gs) w gs l) (hgs : ¬ gs = P) (hl : l.length ≤ 1000) (hdat : ∀ x ∈ l, ∀ s, PM.is x s = true → ∃ r, PM.data n s = some r) (hk3 :  (PM.needs [[115, 116, 114, 105, 112]] (PM.name s).2).now.kind = 3) :
    Calls Tryz.prog 102 #[.pointer (some ⟨P, 0, none⟩), .int .i64 kd, .slice (some ⟨gs, 0, none⟩) l.length l.length] w fun e w' => StR w.heap.size w' e (PM.door n kd l s).1 ∧ PR w' P g (PM.door n kd l s).2 ∧ Fr [some P] w w' := by
  have hPl := h.lt
  have hgP := h.ne
  have HPL := Lib.hid hPl
  have HD : Hid (Bd w P g w s) := Lib.hid (Bd.start h)
  have HN := Lib.hid (And.intro h0 (And.intro h64 (And.intro hn hb)))
  have HG0 := Lib.hid (PM.Le.refl s)
  clear h h0 h64 hn hb
  have HW := Lib.hid hW
  have hgl := hW.2.1
  have HDAT := Lib.hid hdat
  have HK3 := Lib.hid hk3
  have hli : (l.length : Int) ≤ 1000 := by omega
  clear hW hdat hk3 hl
  go_enter Tryz.func102, Tryz.ntmps102
  go_wp2_with fail
  refine (name_any P g s _ (HD.out.alloc _).pr).mono ?_
  rintro e w1 ⟨rfl, h1, hf1⟩
  obtain ⟨m, s1, hq1⟩ : ∃ a b, PM.name s = (a, b) := ⟨_, _, rfl⟩
  rw [hq1] at h1 ⊢
  have HQ1 := Lib.hid hq1
  clear hq1
  have HD1 : Hid (Bd w P g w1 s1) := Lib.hid ((HD.out.alloc _).call h1 hf1)
  have HR1 : Hid (Ow w w1 w.heap.size 29 [.int .i64 0, .string ⟨#[]⟩, .string ⟨#[]⟩, .slice none 0 0, .slice none 0 0, .slice none 0 0, .slice none 0 0, .string ⟨#[]⟩, .slice none 0 0, .slice none 0 0, .slice none 0 0, .bool false, .slice none 0 0]) := Lib.hid ((Ow.new (by omega) 29 [.int .i64 0, .string ⟨#[]⟩, .string ⟨#[]⟩, .slice none 0 0, .slice none 0 0, .slice none 0 0, .slice none 0 0, .string ⟨#[]⟩, .slice none 0 0, .slice none 0 0, .slice none 0 0, .bool false, .slice none 0 0]).call HPL.out hf1)
  have HW1 := Lib.hid (StrsA.keep hf1 (fun b hb => by simp <;> omega) (StrsA.keep ((Fr.refl [] w).alloc _) (fun b hb => by simp <;> omega) HW.out))
  have hs1 := hf1.size
  simp only [World.size_alloc] at hs1
  have hlR1 := HR1.out.lt
  have hp1 := HD1.out.pr.lt
  clear h1 hf1
  have HG1 : Hid (PM.Le s1 s) := Lib.hid (HG0.out.good PM.good_name HQ1.out)
  go_wp2_with fail
  refine (needs_new (n := w1.heap.size + 1) (HD1.out.alloc _).pr [[115, 116, 114, 105, 112]] (by decide) (by simp)).mono ?_
  rintro e w2 ⟨rfl, h2, hf2⟩
  obtain ⟨s2, hq2⟩ : ∃ x, PM.needs [[115, 116, 114, 105, 112]] s1 = x := ⟨_, rfl⟩
  rw [hq2] at h2
  have HQ2 := Lib.hid hq2
  clear hq2
  have HD2 : Hid (Bd w P g w2 s2) := Lib.hid (((HD1.out.alloc _).alloc _).call h2 hf2)
  have HR2 : Hid (Ow w w2 w.heap.size 29 [.int .i64 0, .string ⟨#[]⟩, .string ⟨#[]⟩, .slice none 0 0, .slice none 0 0, .slice none 0 0, .slice none 0 0, .string ⟨#[]⟩, .slice none 0 0, .slice none 0 0, .slice none 0 0, .bool false, .slice none 0 0]) := Lib.hid (((HR1.out.alloc _).alloc _).call HPL.out hf2)
  have HSt2 : Hid (Ow w w2 w1.heap.size 29 [.int .i64 kd, .string ⟨#[]⟩, .string ⟨m.toArray⟩, .slice none 0 0, .slice none 0 0, .slice none 0 0, .slice none 0 0, .string ⟨#[]⟩, .slice none 0 0, .slice none 0 0, .slice none 0 0, .bool false, .slice none 0 0]) := Lib.hid (((Ow.new (by omega) 29 [.int .i64 kd, .string ⟨#[]⟩, .string ⟨m.toArray⟩, .slice none 0 0, .slice none 0 0, .slice none 0 0, .slice none 0 0, .string ⟨#[]⟩, .slice none 0 0, .slice none 0 0, .slice none 0 0, .bool false, .slice none 0 0]).alloc _).call HPL.out hf2)
  have HW2 := Lib.hid (StrsA.keep hf2 (fun b hb => by simp <;> omega) (StrsA.keep (((Fr.refl [] w1).alloc _).alloc _) (fun b hb => by simp <;> omega) HW1.out))
  have hs2 := hf2.size
  simp only [World.size_alloc] at hs2
  have hlR2 := HR2.out.lt
  have hlSt2 := HSt2.out.lt
  have hp2 := HD2.out.pr.lt
  clear h2 hf2
  have HG2 : Hid (PM.Le s2 s) := Lib.hid (HG1.out.calm (PM.calm_needs [[115, 116, 114, 105, 112]]) HQ2.out)
  have hk :  s2.now.kind = 3 := by have := HK3.out; rwa [HQ1.out, HQ2.out] at this
  have HKK := Lib.hid hk
  obtain ⟨off, cp, hat⟩ := HD2.out.pr.at
  obtain ⟨c0, c1, c2, c3, f0, f1, f2, f3, t0, t1, t2, t3, hcap, hpos, hlim⟩ := hat
  have HC0 := Lib.hid c0
  have hpi : (0 : Int) < (s2.l.length : Int) := by omega
  rw [hk] at t0
  clear hk c1 c2 c3 f0 f1 f2 f3 t1 t2 t3
  obtain ⟨tg, s3, hq3⟩ : ∃ a b, PM.list PM.tag s2 = (a, b) := ⟨_, _, rfl⟩
  have HQ3 := Lib.hid hq3
  clear hq3
  go_wp2_with fail
  refine (list_tag' n HD2.out.pr (by have := HG2.out.1; have := HN.out; omega) (by have := HG2.out.1; have := HN.out; omega) (by have := HG2.out.2; have := HN.out; omega) (by have := HG2.out.2; have := HN.out; omega) HQ3.out).mono ?_
  rintro e w3 ⟨⟨tga, tgl, tgc, rfl, hv⟩, h3, hf3⟩
  have HD3 : Hid (Bd w P g w3 s3) := Lib.hid (HD2.out.call h3 hf3)
  have HR3 : Hid (Ow w w3 w.heap.size 29 [.int .i64 0, .string ⟨#[]⟩, .string ⟨#[]⟩, .slice none 0 0, .slice none 0 0, .slice none 0 0, .slice none 0 0, .string ⟨#[]⟩, .slice none 0 0, .slice none 0 0, .slice none 0 0, .bool false, .slice none 0 0]) := Lib.hid (HR2.out.call HPL.out hf3)
  have HSt3 : Hid (Ow w w3 w1.heap.size 29 [.int .i64 kd, .string ⟨#[]⟩, .string ⟨m.toArray⟩, .slice none 0 0, .slice none 0 0, .slice none 0 0, .slice none 0 0, .string ⟨#[]⟩, .slice none 0 0, .slice none 0 0, .slice none 0 0, .bool false, .slice none 0 0]) := Lib.hid (HSt2.out.call HPL.out hf3)
  have HW3 := Lib.hid (StrsA.keep hf3 (fun b hb => by simp <;> omega) HW2.out)
  have hs3 := hf3.size
  have hlR3 := HR3.out.lt
  have hlSt3 := HSt3.out.lt
  have hp3 := HD3.out.pr.lt
  clear h3 hf3
  have HG3 : Hid (PM.Le s3 s) := Lib.hid (HG2.out.good (PM.good_list PM.good_tag) HQ3.out)
  have HTg3 := Lib.hid (FlatS.mono (A' := fun b => w1.heap.size < b) (fun b hb => by first | omega | (simp at hb; omega)) hv)
  clear hv
  clear c0 t0
  obtain ⟨Stc0, Stc1, Stc2, Stc3, Stc4, Stc5, Stc6, Stc7, Stc8, Stc9, Stc10, Stc11, Stc12, Stf0, Stf1, Stf2, Stf3, Stf4, Stf5, Stf6, Stf7, Stf8, Stf9, Stf10, Stf11, Stf12⟩ := c13_of HSt3.out.blk
  go_wp2_with fail
  clear Stc0 Stc1 Stc2 Stc3 Stc4 Stc5 Stc6 Stc7 Stc8 Stc9 Stc10 Stc11 Stc12 Stf0 Stf1 Stf2 Stf3 Stf4 Stf5 Stf6 Stf7 Stf8 Stf9 Stf10 Stf11 Stf12
  go_wp2_with fail
  refine (needs_new (n := w3.heap.size) (HD3.out.set (by omega)).pr [[97, 115]] (by decide) (by simp)).mono ?_
  rintro e w4 ⟨rfl, h4, hf4⟩
  obtain ⟨s4, hq4⟩ : ∃ x, PM.needs [[97, 115]] s3 = x := ⟨_, rfl⟩
  rw [hq4] at h4
  have HQ4 := Lib.hid hq4
  clear hq4
  have HD4 : Hid (Bd w P g w4 s4) := Lib.hid (((HD3.out.set (by omega)).alloc _).call h4 hf4)
  have HR4 : Hid (Ow w w4 w.heap.size 29 [.int .i64 0, .string ⟨#[]⟩, .string ⟨#[]⟩, .slice none 0 0, .slice none 0 0, .slice none 0 0, .slice none 0 0, .string ⟨#[]⟩, .slice none 0 0, .slice none 0 0, .slice none 0 0, .bool false, .slice none 0 0]) := Lib.hid (((HR3.out.other (by omega)).alloc _).call HPL.out hf4)
  have HSt4 : Hid (Ow w w4 w1.heap.size 29 [.int .i64 kd, .string ⟨#[]⟩, .string ⟨m.toArray⟩, .slice none 0 0, (.slice tga tgl tgc), .slice none 0 0, .slice none 0 0, .string ⟨#[]⟩, .slice none 0 0, .slice none 0 0, .slice none 0 0, .bool false, .slice none 0 0]) := Lib.hid (((HSt3.out.set 4 (.slice tga tgl tgc)).alloc _).call HPL.out hf4)
  have HW4 := Lib.hid (StrsA.keep hf4 (fun b hb => by simp <;> omega) (StrsA.keep (((Fr.refl [some w1.heap.size] w3).setCell (p := ⟨w1.heap.size, 4, none⟩) (.inl (by simp)) (.slice tga tgl tgc)).alloc _) (fun b hb => by simp <;> omega) HW3.out))
  have HTg4 := Lib.hid (FlatS.keep hf4 (fun b hb => by simp <;> omega) (FlatS.keep (((Fr.refl [some w1.heap.size] w3).setCell (p := ⟨w1.heap.size, 4, none⟩) (.inl (by simp)) (.slice tga tgl tgc)).alloc _) (fun b hb => by simp <;> omega) HTg3.out))
  have hs4 := hf4.size
  simp only [World.size_alloc, World.size_setCell] at hs4
  have hlR4 := HR4.out.lt
  have hlSt4 := HSt4.out.lt
  have hp4 := HD4.out.pr.lt
  clear h4 hf4
  have HG4 : Hid (PM.Le s4 s) := Lib.hid (HG3.out.calm (PM.calm_needs [[97, 115]]) HQ4.out)
  go_wp2_with fail
  go_loopw [35] (fun u wr => ∃ k : Nat, u = .int .i64 k ∧ k ≤ l.length ∧ Hid (∀ (j : Nat) (hj : j < l.length), j < k → PM.is l[j] s4 = false) ∧ Hid (Bd w P g wr s4) ∧ Hid (Ow w wr w.heap.size 29 [.int .i64 0, .string ⟨#[]⟩, .string ⟨#[]⟩, .slice none 0 0, .slice none 0 0, .slice none 0 0, .slice none 0 0, .string ⟨#[]⟩, .slice none 0 0, .slice none 0 0, .slice none 0 0, .bool false, .slice none 0 0]) ∧ Hid (Ow w wr w1.heap.size 29 [.int .i64 kd, .string ⟨#[]⟩, .string ⟨m.toArray⟩, .slice none 0 0, (.slice tga tgl tgc), .slice none 0 0, .slice none 0 0, .string ⟨#[]⟩, .slice none 0 0, .slice none 0 0, .slice none 0 0, .bool false, .slice none 0 0]) ∧ Hid (StrsA (fun b => b = gs) wr gs l) ∧ Hid (TagS (fun b => w1.heap.size < b) wr (.slice tga tgl tgc) tg)) (fun u _ => l.length - (intOf u).toNat)
  case atStart => exact ⟨0, rfl, Nat.zero_le _, Lib.hid (fun j _ hj => absurd hj (Nat.not_lt_zero j)), HD4, HR4, HSt4, HW4, HTg4⟩
  case round =>
    obtain ⟨k, rfl, hk, HNO, HDr, HRr, HStr, HWr, HTgr⟩ := hrel
    have hlSr := HStr.out.lt
    have hlRr := HRr.out.lt
    have hpr := HDr.out.pr.lt
    have hszr := HDr.out.size
    by_cases hlt : k < l.length
    · have hki : (k : Int) < (l.length : Int) := by omega
      have hcell : wr.cell? ⟨gs, k, none⟩ = some (.string ⟨l[k].toArray⟩) := by have := HWr.out.1 k hlt; rwa [Nat.zero_add] at this
      obtain ⟨wd, hwd⟩ : ∃ wd, l[k] = wd := ⟨_, rfl⟩
      have HWD := Lib.hid hwd
      rw [hwd] at hcell
      clear hwd
      cases hi : PM.is wd s4
      · have HI := Lib.hid hi
        clear hi
        go_wp2_with fail
        refine (is_any P g s4 wd _ HDr.out.pr).mono ?_
        rintro e w5 ⟨rfl, h5, hf5⟩
        have HD5 : Hid (Bd w P g w5 s4) := Lib.hid (HDr.out.call0 h5 hf5)
        have HR5 : Hid (Ow w w5 w.heap.size 29 [.int .i64 0, .string ⟨#[]⟩, .string ⟨#[]⟩, .slice none 0 0, .slice none 0 0, .slice none 0 0, .slice none 0 0, .string ⟨#[]⟩, .slice none 0 0, .slice none 0 0, .slice none 0 0, .bool false, .slice none 0 0]) := Lib.hid (HRr.out.call0 hf5)
        have HSt5 : Hid (Ow w w5 w1.heap.size 29 [.int .i64 kd, .string ⟨#[]⟩, .string ⟨m.toArray⟩, .slice none 0 0, (.slice tga tgl tgc), .slice none 0 0, .slice none 0 0, .string ⟨#[]⟩, .slice none 0 0, .slice none 0 0, .slice none 0 0, .bool false, .slice none 0 0]) := Lib.hid (HStr.out.call0 hf5)
        have HW5 := Lib.hid (StrsA.keep hf5 (fun b hb => by simp <;> omega) HWr.out)
        have HTg5 := Lib.hid (FlatS.keep hf5 (fun b hb => by simp <;> omega) HTgr.out)
        have hs5 := hf5.size
        have hlR5 := HR5.out.lt
        have hlSt5 := HSt5.out.lt
        have hp5 := HD5.out.pr.lt
        clear h5 hf5
        rw [HI.out]
        have HNO2 : Hid (∀ (j : Nat) (hj : j < l.length), j < k + 1 → PM.is l[j] s4 = false) := Lib.hid (by
          intro j hj hjk
          by_cases e : j < k
          · exact HNO.out j hj e
          · obtain rfl : j = k := by omega
            rw [HWD.out]
            exact HI.out)
        clear hcell
        go_wp2_with fail
        go_roundw
        case rel => exact ⟨k + 1, by go_num, hlt, HNO2, HD5, HR5, HSt5, HW5, HTg5⟩
        case measure => simp [intOf]; omega
      · have HI := Lib.hid hi
        clear hi
        have HANY : Hid (l.any (fun w => PM.is w s4) = true) := Lib.hid (any_true hlt (by rw [HWD.out]; exact HI.out))
        obtain ⟨⟨sx, sd⟩, hdd⟩ := HDAT.out wd (by rw [← HWD.out]; exact List.getElem_mem hlt) s4 HI.out
        have HDD := Lib.hid hdd
        clear hdd
        go_wp2_with fail
        refine (is_any P g s4 wd _ HDr.out.pr).mono ?_
        rintro e w5 ⟨rfl, h5, hf5⟩
        have HD5 : Hid (Bd w P g w5 s4) := Lib.hid (HDr.out.call0 h5 hf5)
        have HR5 : Hid (Ow w w5 w.heap.size 29 [.int .i64 0, .string ⟨#[]⟩, .string ⟨#[]⟩, .slice none 0 0, .slice none 0 0, .slice none 0 0, .slice none 0 0, .string ⟨#[]⟩, .slice none 0 0, .slice none 0 0, .slice none 0 0, .bool false, .slice none 0 0]) := Lib.hid (HRr.out.call0 hf5)
        have HSt5 : Hid (Ow w w5 w1.heap.size 29 [.int .i64 kd, .string ⟨#[]⟩, .string ⟨m.toArray⟩, .slice none 0 0, (.slice tga tgl tgc), .slice none 0 0, .slice none 0 0, .string ⟨#[]⟩, .slice none 0 0, .slice none 0 0, .slice none 0 0, .bool false, .slice none 0 0]) := Lib.hid (HStr.out.call0 hf5)
        have HW5 := Lib.hid (StrsA.keep hf5 (fun b hb => by simp <;> omega) HWr.out)
        have HTg5 := Lib.hid (FlatS.keep hf5 (fun b hb => by simp <;> omega) HTgr.out)
        have hs5 := hf5.size
        have hlR5 := HR5.out.lt
        have hlSt5 := HSt5.out.lt
        have hp5 := HD5.out.pr.lt
        clear h5 hf5
        rw [HI.out]
        clear hcell
        go_wp2_with fail
        refine (data_any P g n s4 _ HD5.out.pr (by have := HG4.out.1; have := HN.out; omega) (by have := HG4.out.1; have := HN.out; omega) (by have := HG4.out.2; have := HN.out; omega) (by have := HG4.out.2; have := HN.out; omega) HDD.out).mono ?_
        rintro e w6 ⟨hx, h6, hf6⟩
        obtain ⟨kind, table, name, join, a3, a4, a5, a6, a8, a9, a10, a12, l3, l4, l5, l6, l8, l9, l10, l12, c3, c4, c5, c6, c8, c9, c10, c12, desc, rfl, hrep⟩ := st_cells hx
        clear hx
        have HD6 : Hid (Bd w P g w6 sd) := Lib.hid (HD5.out.call h6 hf6)
        have HR6 : Hid (Ow w w6 w.heap.size 29 [.int .i64 0, .string ⟨#[]⟩, .string ⟨#[]⟩, .slice none 0 0, .slice none 0 0, .slice none 0 0, .slice none 0 0, .string ⟨#[]⟩, .slice none 0 0, .slice none 0 0, .slice none 0 0, .bool false, .slice none 0 0]) := Lib.hid (HR5.out.call HPL.out hf6)
        have HSt6 : Hid (Ow w w6 w1.heap.size 29 [.int .i64 kd, .string ⟨#[]⟩, .string ⟨m.toArray⟩, .slice none 0 0, (.slice tga tgl tgc), .slice none 0 0, .slice none 0 0, .string ⟨#[]⟩, .slice none 0 0, .slice none 0 0, .slice none 0 0, .bool false, .slice none 0 0]) := Lib.hid (HSt5.out.call HPL.out hf6)
        have HW6 := Lib.hid (StrsA.keep hf6 (fun b hb => by simp <;> omega) HW5.out)
        have HTg6 := Lib.hid (FlatS.keep hf6 (fun b hb => by simp <;> omega) HTg5.out)
        have hs6 := hf6.size
        have hlR6 := HR6.out.lt
        have hlSt6 := HSt6.out.lt
        have hp6 := HD6.out.pr.lt
        clear h6 hf6
        have HX6 := Lib.hid (SR.mono (A' := fun b => w1.heap.size < b) (fun b hb => by first | omega | (simp at hb; omega)) hrep)
        clear hrep
        obtain ⟨Stc0, Stc1, Stc2, Stc3, Stc4, Stc5, Stc6, Stc7, Stc8, Stc9, Stc10, Stc11, Stc12, Stf0, Stf1, Stf2, Stf3, Stf4, Stf5, Stf6, Stf7, Stf8, Stf9, Stf10, Stf11, Stf12⟩ := c13_of HSt6.out.blk
        obtain ⟨Rc0, Rc1, Rc2, Rc3, Rc4, Rc5, Rc6, Rc7, Rc8, Rc9, Rc10, Rc11, Rc12, Rf0, Rf1, Rf2, Rf3, Rf4, Rf5, Rf6, Rf7, Rf8, Rf9, Rf10, Rf11, Rf12⟩ := c13_of HR6.out.blk
        have hnRSt : ¬ w.heap.size = w1.heap.size := by omega
        have hnStR : ¬ w1.heap.size = w.heap.size := by omega
        have HM : Hid (PM.door n kd l s = (.mk kd [] m [] tg [] [] [] [] [] [] false [sx], sd)) := Lib.hid (by simp only [PM.door, HQ1.out, HQ2.out, HKK.out, HQ3.out, HQ4.out, if_true, HANY.out, HDD.out])
        go_wp2_with fail
        refine bodyPost_ret (ret_cell13 rfl _ w.heap.size rfl _ _ _ _ _ _ _ _ _ _ _ _ _ _ (Blk.alloc (blkPut13 (HR6.out.other (by omega)).blk _ _ _ _ _ _ _ _ _ _ _ _ _) _)) rfl ?_
        rw [HM.out]
        exact ⟨⟨_, rfl, .mk _ _ _ _ _ _ _ _ _ _ _ _ _ _ _ _ _ _ _ _ _ .nil (FlatS.mono (A' := fun b => w.heap.size ≤ b) (fun b hb => by omega) (FlatS.keep ((frPut13 ((Fr.refl [some w.heap.size, some w1.heap.size] w6).setCell (p := ⟨w1.heap.size, 12, none⟩) (.inl (by simp)) (.slice (some ⟨w6.heap.size, 0, none⟩) 1 1)) (.inl (by simp)) _ _ _ _ _ _ _ _ _ _ _ _ _).alloc _) (fun b hb => by simp; omega) HTg6.out)) Rep.Es.nil .nil Rep.Es.nil Rep.Es.nil Rep.Es.nil (SS.mono (A' := fun b => w.heap.size ≤ b) (fun b hb => by omega) (st_new (A := fun b => w1.heap.size < b) (frPut13 ((Fr.refl [some w.heap.size, some w1.heap.size] w6).setCell (p := ⟨w1.heap.size, 12, none⟩) (.inl (by simp)) (.slice (some ⟨w6.heap.size, 0, none⟩) 1 1)) (.inl (by simp)) _ _ _ _ _ _ _ _ _ _ _ _ _) (fun b hb => by simp; omega) (by simp [World.size_setCell]) HX6.out (by omega)))⟩, (((HD6.out.set (by omega)).pr.keep (frPut13 (Fr.refl [some w.heap.size] _) (.inl (by simp)) _ _ _ _ _ _ _ _ _ _ _ _ _) (by simp; omega) (by simp; omega)).alloc _), ((frPut13 (HD6.out.set (by omega)).fr (.inr HR6.out.ge) _ _ _ _ _ _ _ _ _ _ _ _ _).alloc _)⟩
    · have hki : (l.length : Int) ≤ (k : Int) := by omega
      have HANY : Hid (l.any (fun w => PM.is w s4) = false) := Lib.hid (any_false (fun j hj => HNO.out j hj (by omega)))
      go_wp2_with fail
      refine (fails_any P g s4 5 _ HDr.out.pr).mono ?_
      rintro e w5 ⟨rfl, h5, hf5⟩
      obtain ⟨s5, hq5⟩ : ∃ x, PM.fails 5 s4 = x := ⟨_, rfl⟩
      rw [hq5] at h5
      have HQ5 := Lib.hid hq5
      clear hq5
      have HD5 : Hid (Bd w P g w5 s5) := Lib.hid (HDr.out.call h5 hf5)
      have HR5 : Hid (Ow w w5 w.heap.size 29 [.int .i64 0, .string ⟨#[]⟩, .string ⟨#[]⟩, .slice none 0 0, .slice none 0 0, .slice none 0 0, .slice none 0 0, .string ⟨#[]⟩, .slice none 0 0, .slice none 0 0, .slice none 0 0, .bool false, .slice none 0 0]) := Lib.hid (HRr.out.call HPL.out hf5)
      have HSt5 : Hid (Ow w w5 w1.heap.size 29 [.int .i64 kd, .string ⟨#[]⟩, .string ⟨m.toArray⟩, .slice none 0 0, (.slice tga tgl tgc), .slice none 0 0, .slice none 0 0, .string ⟨#[]⟩, .slice none 0 0, .slice none 0 0, .slice none 0 0, .bool false, .slice none 0 0]) := Lib.hid (HStr.out.call HPL.out hf5)
      have HW5 := Lib.hid (StrsA.keep hf5 (fun b hb => by simp <;> omega) HWr.out)
      have HTg5 := Lib.hid (FlatS.keep hf5 (fun b hb => by simp <;> omega) HTgr.out)
      have hs5 := hf5.size
      have hlR5 := HR5.out.lt
      have hlSt5 := HSt5.out.lt
      have hp5 := HD5.out.pr.lt
      clear h5 hf5
      have HG5 : Hid (PM.Le s5 s) := Lib.hid (HG4.out.calm (PM.calm_fails 5) HQ5.out)
      have HM : Hid (PM.door n kd l s = (.mk kd [] m [] tg [] [] [] [] [] [] false [], s5)) := Lib.hid (by simp only [PM.door, HQ1.out, HQ2.out, HKK.out, HQ3.out, HQ4.out, HANY.out, HQ5.out, if_true, if_false, Bool.false_eq_true, eq_self])
      have hnRSt : ¬ w.heap.size = w1.heap.size := by omega
      have hnStR : ¬ w1.heap.size = w.heap.size := by omega
      obtain ⟨Stc0, Stc1, Stc2, Stc3, Stc4, Stc5, Stc6, Stc7, Stc8, Stc9, Stc10, Stc11, Stc12, Stf0, Stf1, Stf2, Stf3, Stf4, Stf5, Stf6, Stf7, Stf8, Stf9, Stf10, Stf11, Stf12⟩ := c13_of HSt5.out.blk
      obtain ⟨Rc0, Rc1, Rc2, Rc3, Rc4, Rc5, Rc6, Rc7, Rc8, Rc9, Rc10, Rc11, Rc12, Rf0, Rf1, Rf2, Rf3, Rf4, Rf5, Rf6, Rf7, Rf8, Rf9, Rf10, Rf11, Rf12⟩ := c13_of HR5.out.blk
      go_wp2_with fail
      refine bodyPost_ret (ret_cell13 rfl _ w.heap.size rfl _ _ _ _ _ _ _ _ _ _ _ _ _ _ (blkPut13 HR5.out.blk _ _ _ _ _ _ _ _ _ _ _ _ _)) rfl ?_
      rw [HM.out]
      exact ⟨⟨_, rfl, .mk _ _ _ _ _ _ _ _ _ _ _ _ _ _ _ _ _ _ _ _ _ .nil (FlatS.mono (A' := fun b => w.heap.size ≤ b) (fun b hb => by omega) (FlatS.keep (frPut13 (Fr.refl [some w.heap.size] w5) (.inl (by simp)) _ _ _ _ _ _ _ _ _ _ _ _ _) (fun b hb => by simp; omega) HTg5.out)) Rep.Es.nil .nil Rep.Es.nil Rep.Es.nil Rep.Es.nil SS.nil⟩, (HD5.out.pr.keep (frPut13 (Fr.refl [some w.heap.size] _) (.inl (by simp)) _ _ _ _ _ _ _ _ _ _ _ _ _) (by simp; omega) (by simp; omega)), (frPut13 HD5.out.fr (.inr HR5.out.ge) _ _ _ _ _ _ _ _ _ _ _ _ _)⟩
set_option maxRecDepth 100000 in
set_option maxHeartbeats 10000000 in
theorem door_bare (P g n : Nat) (s : PS) (w : World) (h : PR w P g s) (h0 : 0 ≤ s.deep) (h64 : s.deep ≤ 64) (hn : s.l.length ≤ n) (hb : s.l.length ≤ 1000) (kd : Int) (l : List B) (gs : Nat) (hW : StrsA (fun b => b = gs) w gs l) (hgs : ¬ gs = P) (hl : l.length ≤ 1000) (hdat : ∀ x ∈ l, ∀ s, PM.is x s = true → ∃ r, PM.data n s = some r) (hk3 : ¬ (PM.needs [[115, 116, 114, 105, 112]] (PM.name s).2).now.kind = 3) :
    Calls Tryz.prog 102 #[.pointer (some ⟨P, 0, none⟩), .int .i64 kd, .slice (some ⟨gs, 0, none⟩) l.length l.length] w fun e w' => StR w.heap.size w' e (PM.door n kd l s).1 ∧ PR w' P g (PM.door n kd l s).2 ∧ Fr [some P] w w' := by
  have hPl := h.lt
  have hgP := h.ne
  have HPL := Lib.hid hPl
  have HD : Hid (Bd w P g w s) := Lib.hid (Bd.start h)
  have HN := Lib.hid (And.intro h0 (And.intro h64 (And.intro hn hb)))
  have HG0 := Lib.hid (PM.Le.refl s)
  clear h h0 h64 hn hb
  have HW := Lib.hid hW
  have hgl := hW.2.1
  have HDAT := Lib.hid hdat
  have HK3 := Lib.hid hk3
  have hli : (l.length : Int) ≤ 1000 := by omega
  clear hW hdat hk3 hl
  go_enter Tryz.func102, Tryz.ntmps102
  go_wp2_with fail
  refine (name_any P g s _ (HD.out.alloc _).pr).mono ?_
  rintro e w1 ⟨rfl, h1, hf1⟩
  obtain ⟨m, s1, hq1⟩ : ∃ a b, PM.name s = (a, b) := ⟨_, _, rfl⟩
  rw [hq1] at h1 ⊢
  have HQ1 := Lib.hid hq1
  clear hq1
  have HD1 : Hid (Bd w P g w1 s1) := Lib.hid ((HD.out.alloc _).call h1 hf1)
  have HR1 : Hid (Ow w w1 w.heap.size 29 [.int .i64 0, .string ⟨#[]⟩, .string ⟨#[]⟩, .slice none 0 0, .slice none 0 0, .slice none 0 0, .slice none 0 0, .string ⟨#[]⟩, .slice none 0 0, .slice none 0 0, .slice none 0 0, .bool false, .slice none 0 0]) := Lib.hid ((Ow.new (by omega) 29 [.int .i64 0, .string ⟨#[]⟩, .string ⟨#[]⟩, .slice none 0 0, .slice none 0 0, .slice none 0 0, .slice none 0 0, .string ⟨#[]⟩, .slice none 0 0, .slice none 0 0, .slice none 0 0, .bool false, .slice none 0 0]).call HPL.out hf1)
  have HW1 := Lib.hid (StrsA.keep hf1 (fun b hb => by simp <;> omega) (StrsA.keep ((Fr.refl [] w).alloc _) (fun b hb => by simp <;> omega) HW.out))
  have hs1 := hf1.size
  simp only [World.size_alloc] at hs1
  have hlR1 := HR1.out.lt
  have hp1 := HD1.out.pr.lt
  clear h1 hf1
  have HG1 : Hid (PM.Le s1 s) := Lib.hid (HG0.out.good PM.good_name HQ1.out)
  go_wp2_with fail
  refine (needs_new (n := w1.heap.size + 1) (HD1.out.alloc _).pr [[115, 116, 114, 105, 112]] (by decide) (by simp)).mono ?_
  rintro e w2 ⟨rfl, h2, hf2⟩
  obtain ⟨s2, hq2⟩ : ∃ x, PM.needs [[115, 116, 114, 105, 112]] s1 = x := ⟨_, rfl⟩
  rw [hq2] at h2
  have HQ2 := Lib.hid hq2
  clear hq2
  have HD2 : Hid (Bd w P g w2 s2) := Lib.hid (((HD1.out.alloc _).alloc _).call h2 hf2)
  have HR2 : Hid (Ow w w2 w.heap.size 29 [.int .i64 0, .string ⟨#[]⟩, .string ⟨#[]⟩, .slice none 0 0, .slice none 0 0, .slice none 0 0, .slice none 0 0, .string ⟨#[]⟩, .slice none 0 0, .slice none 0 0, .slice none 0 0, .bool false, .slice none 0 0]) := Lib.hid (((HR1.out.alloc _).alloc _).call HPL.out hf2)
  have HSt2 : Hid (Ow w w2 w1.heap.size 29 [.int .i64 kd, .string ⟨#[]⟩, .string ⟨m.toArray⟩, .slice none 0 0, .slice none 0 0, .slice none 0 0, .slice none 0 0, .string ⟨#[]⟩, .slice none 0 0, .slice none 0 0, .slice none 0 0, .bool false, .slice none 0 0]) := Lib.hid (((Ow.new (by omega) 29 [.int .i64 kd, .string ⟨#[]⟩, .string ⟨m.toArray⟩, .slice none 0 0, .slice none 0 0, .slice none 0 0, .slice none 0 0, .string ⟨#[]⟩, .slice none 0 0, .slice none 0 0, .slice none 0 0, .bool false, .slice none 0 0]).alloc _).call HPL.out hf2)
  have HW2 := Lib.hid (StrsA.keep hf2 (fun b hb => by simp <;> omega) (StrsA.keep (((Fr.refl [] w1).alloc _).alloc _) (fun b hb => by simp <;> omega) HW1.out))
  have hs2 := hf2.size
  simp only [World.size_alloc] at hs2
  have hlR2 := HR2.out.lt
  have hlSt2 := HSt2.out.lt
  have hp2 := HD2.out.pr.lt
  clear h2 hf2
  have HG2 : Hid (PM.Le s2 s) := Lib.hid (HG1.out.calm (PM.calm_needs [[115, 116, 114, 105, 112]]) HQ2.out)
  have hk : ¬ s2.now.kind = 3 := by have := HK3.out; rwa [HQ1.out, HQ2.out] at this
  have HKK := Lib.hid hk
  obtain ⟨off, cp, hat⟩ := HD2.out.pr.at
  obtain ⟨c0, c1, c2, c3, f0, f1, f2, f3, t0, t1, t2, t3, hcap, hpos, hlim⟩ := hat
  have HC0 := Lib.hid c0
  have hpi : (0 : Int) < (s2.l.length : Int) := by omega
  obtain ⟨kk, hkk⟩ : ∃ kk, s2.now.kind = kk := ⟨_, rfl⟩
  rw [hkk] at t0 hk
  have hkb : (kk == 3) = false := by simp [hk]
  clear hk hkk c1 c2 c3 f0 f1 f2 f3 t1 t2 t3
  go_wp2_with fail
  refine (needs_new (n := w2.heap.size) HD2.out.pr [[97, 115]] (by decide) (by simp)).mono ?_
  rintro e w3 ⟨rfl, h3, hf3⟩
  obtain ⟨s3, hq3⟩ : ∃ x, PM.needs [[97, 115]] s2 = x := ⟨_, rfl⟩
  rw [hq3] at h3
  have HQ3 := Lib.hid hq3
  clear hq3
  have HD3 : Hid (Bd w P g w3 s3) := Lib.hid ((HD2.out.alloc _).call h3 hf3)
  have HR3 : Hid (Ow w w3 w.heap.size 29 [.int .i64 0, .string ⟨#[]⟩, .string ⟨#[]⟩, .slice none 0 0, .slice none 0 0, .slice none 0 0, .slice none 0 0, .string ⟨#[]⟩, .slice none 0 0, .slice none 0 0, .slice none 0 0, .bool false, .slice none 0 0]) := Lib.hid ((HR2.out.alloc _).call HPL.out hf3)
  have HSt3 : Hid (Ow w w3 w1.heap.size 29 [.int .i64 kd, .string ⟨#[]⟩, .string ⟨m.toArray⟩, .slice none 0 0, .slice none 0 0, .slice none 0 0, .slice none 0 0, .string ⟨#[]⟩, .slice none 0 0, .slice none 0 0, .slice none 0 0, .bool false, .slice none 0 0]) := Lib.hid ((HSt2.out.alloc _).call HPL.out hf3)
  have HW3 := Lib.hid (StrsA.keep hf3 (fun b hb => by simp <;> omega) (StrsA.keep ((Fr.refl [] w2).alloc _) (fun b hb => by simp <;> omega) HW2.out))
  have hs3 := hf3.size
  simp only [World.size_alloc] at hs3
  have hlR3 := HR3.out.lt
  have hlSt3 := HSt3.out.lt
  have hp3 := HD3.out.pr.lt
  clear h3 hf3
  have HG3 : Hid (PM.Le s3 s) := Lib.hid (HG2.out.calm (PM.calm_needs [[97, 115]]) HQ3.out)
  clear c0 t0 hkb
  go_wp2_with fail
  go_loopw [35] (fun u wr => ∃ k : Nat, u = .int .i64 k ∧ k ≤ l.length ∧ Hid (∀ (j : Nat) (hj : j < l.length), j < k → PM.is l[j] s3 = false) ∧ Hid (Bd w P g wr s3) ∧ Hid (Ow w wr w.heap.size 29 [.int .i64 0, .string ⟨#[]⟩, .string ⟨#[]⟩, .slice none 0 0, .slice none 0 0, .slice none 0 0, .slice none 0 0, .string ⟨#[]⟩, .slice none 0 0, .slice none 0 0, .slice none 0 0, .bool false, .slice none 0 0]) ∧ Hid (Ow w wr w1.heap.size 29 [.int .i64 kd, .string ⟨#[]⟩, .string ⟨m.toArray⟩, .slice none 0 0, .slice none 0 0, .slice none 0 0, .slice none 0 0, .string ⟨#[]⟩, .slice none 0 0, .slice none 0 0, .slice none 0 0, .bool false, .slice none 0 0]) ∧ Hid (StrsA (fun b => b = gs) wr gs l)) (fun u _ => l.length - (intOf u).toNat)
  case atStart => exact ⟨0, rfl, Nat.zero_le _, Lib.hid (fun j _ hj => absurd hj (Nat.not_lt_zero j)), HD3, HR3, HSt3, HW3⟩
  case round =>
    obtain ⟨k, rfl, hk, HNO, HDr, HRr, HStr, HWr⟩ := hrel
    have hlSr := HStr.out.lt
    have hlRr := HRr.out.lt
    have hpr := HDr.out.pr.lt
    have hszr := HDr.out.size
    by_cases hlt : k < l.length
    · have hki : (k : Int) < (l.length : Int) := by omega
      have hcell : wr.cell? ⟨gs, k, none⟩ = some (.string ⟨l[k].toArray⟩) := by have := HWr.out.1 k hlt; rwa [Nat.zero_add] at this
      obtain ⟨wd, hwd⟩ : ∃ wd, l[k] = wd := ⟨_, rfl⟩
      have HWD := Lib.hid hwd
      rw [hwd] at hcell
      clear hwd
      cases hi : PM.is wd s3
      · have HI := Lib.hid hi
        clear hi
        go_wp2_with fail
        refine (is_any P g s3 wd _ HDr.out.pr).mono ?_
        rintro e w4 ⟨rfl, h4, hf4⟩
        have HD4 : Hid (Bd w P g w4 s3) := Lib.hid (HDr.out.call0 h4 hf4)
        have HR4 : Hid (Ow w w4 w.heap.size 29 [.int .i64 0, .string ⟨#[]⟩, .string ⟨#[]⟩, .slice none 0 0, .slice none 0 0, .slice none 0 0, .slice none 0 0, .string ⟨#[]⟩, .slice none 0 0, .slice none 0 0, .slice none 0 0, .bool false, .slice none 0 0]) := Lib.hid (HRr.out.call0 hf4)
        have HSt4 : Hid (Ow w w4 w1.heap.size 29 [.int .i64 kd, .string ⟨#[]⟩, .string ⟨m.toArray⟩, .slice none 0 0, .slice none 0 0, .slice none 0 0, .slice none 0 0, .string ⟨#[]⟩, .slice none 0 0, .slice none 0 0, .slice none 0 0, .bool false, .slice none 0 0]) := Lib.hid (HStr.out.call0 hf4)
        have HW4 := Lib.hid (StrsA.keep hf4 (fun b hb => by simp <;> omega) HWr.out)
        have hs4 := hf4.size
        have hlR4 := HR4.out.lt
        have hlSt4 := HSt4.out.lt
        have hp4 := HD4.out.pr.lt
        clear h4 hf4
        rw [HI.out]
        have HNO2 : Hid (∀ (j : Nat) (hj : j < l.length), j < k + 1 → PM.is l[j] s3 = false) := Lib.hid (by
          intro j hj hjk
          by_cases e : j < k
          · exact HNO.out j hj e
          · obtain rfl : j = k := by omega
            rw [HWD.out]
            exact HI.out)
        clear hcell
        go_wp2_with fail
        go_roundw
        case rel => exact ⟨k + 1, by go_num, hlt, HNO2, HD4, HR4, HSt4, HW4⟩
        case measure => simp [intOf]; omega
      · have HI := Lib.hid hi
        clear hi
        have HANY : Hid (l.any (fun w => PM.is w s3) = true) := Lib.hid (any_true hlt (by rw [HWD.out]; exact HI.out))
        obtain ⟨⟨sx, sd⟩, hdd⟩ := HDAT.out wd (by rw [← HWD.out]; exact List.getElem_mem hlt) s3 HI.out
        have HDD := Lib.hid hdd
        clear hdd
        go_wp2_with fail
        refine (is_any P g s3 wd _ HDr.out.pr).mono ?_
        rintro e w4 ⟨rfl, h4, hf4⟩
        have HD4 : Hid (Bd w P g w4 s3) := Lib.hid (HDr.out.call0 h4 hf4)
        have HR4 : Hid (Ow w w4 w.heap.size 29 [.int .i64 0, .string ⟨#[]⟩, .string ⟨#[]⟩, .slice none 0 0, .slice none 0 0, .slice none 0 0, .slice none 0 0, .string ⟨#[]⟩, .slice none 0 0, .slice none 0 0, .slice none 0 0, .bool false, .slice none 0 0]) := Lib.hid (HRr.out.call0 hf4)
        have HSt4 : Hid (Ow w w4 w1.heap.size 29 [.int .i64 kd, .string ⟨#[]⟩, .string ⟨m.toArray⟩, .slice none 0 0, .slice none 0 0, .slice none 0 0, .slice none 0 0, .string ⟨#[]⟩, .slice none 0 0, .slice none 0 0, .slice none 0 0, .bool false, .slice none 0 0]) := Lib.hid (HStr.out.call0 hf4)
        have HW4 := Lib.hid (StrsA.keep hf4 (fun b hb => by simp <;> omega) HWr.out)
        have hs4 := hf4.size
        have hlR4 := HR4.out.lt
        have hlSt4 := HSt4.out.lt
        have hp4 := HD4.out.pr.lt
        clear h4 hf4
        rw [HI.out]
        clear hcell
        go_wp2_with fail
        refine (data_any P g n s3 _ HD4.out.pr (by have := HG3.out.1; have := HN.out; omega) (by have := HG3.out.1; have := HN.out; omega) (by have := HG3.out.2; have := HN.out; omega) (by have := HG3.out.2; have := HN.out; omega) HDD.out).mono ?_
        rintro e w5 ⟨hx, h5, hf5⟩
        obtain ⟨kind, table, name, join, a3, a4, a5, a6, a8, a9, a10, a12, l3, l4, l5, l6, l8, l9, l10, l12, c3, c4, c5, c6, c8, c9, c10, c12, desc, rfl, hrep⟩ := st_cells hx
        clear hx
        have HD5 : Hid (Bd w P g w5 sd) := Lib.hid (HD4.out.call h5 hf5)
        have HR5 : Hid (Ow w w5 w.heap.size 29 [.int .i64 0, .string ⟨#[]⟩, .string ⟨#[]⟩, .slice none 0 0, .slice none 0 0, .slice none 0 0, .slice none 0 0, .string ⟨#[]⟩, .slice none 0 0, .slice none 0 0, .slice none 0 0, .bool false, .slice none 0 0]) := Lib.hid (HR4.out.call HPL.out hf5)
        have HSt5 : Hid (Ow w w5 w1.heap.size 29 [.int .i64 kd, .string ⟨#[]⟩, .string ⟨m.toArray⟩, .slice none 0 0, .slice none 0 0, .slice none 0 0, .slice none 0 0, .string ⟨#[]⟩, .slice none 0 0, .slice none 0 0, .slice none 0 0, .bool false, .slice none 0 0]) := Lib.hid (HSt4.out.call HPL.out hf5)
        have HW5 := Lib.hid (StrsA.keep hf5 (fun b hb => by simp <;> omega) HW4.out)
        have hs5 := hf5.size
        have hlR5 := HR5.out.lt
        have hlSt5 := HSt5.out.lt
        have hp5 := HD5.out.pr.lt
        clear h5 hf5
        have HX5 := Lib.hid (SR.mono (A' := fun b => w1.heap.size < b) (fun b hb => by first | omega | (simp at hb; omega)) hrep)
        clear hrep
        obtain ⟨Stc0, Stc1, Stc2, Stc3, Stc4, Stc5, Stc6, Stc7, Stc8, Stc9, Stc10, Stc11, Stc12, Stf0, Stf1, Stf2, Stf3, Stf4, Stf5, Stf6, Stf7, Stf8, Stf9, Stf10, Stf11, Stf12⟩ := c13_of HSt5.out.blk
        obtain ⟨Rc0, Rc1, Rc2, Rc3, Rc4, Rc5, Rc6, Rc7, Rc8, Rc9, Rc10, Rc11, Rc12, Rf0, Rf1, Rf2, Rf3, Rf4, Rf5, Rf6, Rf7, Rf8, Rf9, Rf10, Rf11, Rf12⟩ := c13_of HR5.out.blk
        have hnRSt : ¬ w.heap.size = w1.heap.size := by omega
        have hnStR : ¬ w1.heap.size = w.heap.size := by omega
        have HM : Hid (PM.door n kd l s = (.mk kd [] m [] [] [] [] [] [] [] [] false [sx], sd)) := Lib.hid (by simp only [PM.door, HQ1.out, HQ2.out, HKK.out, HQ3.out, if_true, if_false, HANY.out, HDD.out])
        go_wp2_with fail
        refine bodyPost_ret (ret_cell13 rfl _ w.heap.size rfl _ _ _ _ _ _ _ _ _ _ _ _ _ _ (Blk.alloc (blkPut13 (HR5.out.other (by omega)).blk _ _ _ _ _ _ _ _ _ _ _ _ _) _)) rfl ?_
        rw [HM.out]
        exact ⟨⟨_, rfl, .mk _ _ _ _ _ _ _ _ _ _ _ _ _ _ _ _ _ _ _ _ _ .nil .nil Rep.Es.nil .nil Rep.Es.nil Rep.Es.nil Rep.Es.nil (SS.mono (A' := fun b => w.heap.size ≤ b) (fun b hb => by omega) (st_new (A := fun b => w1.heap.size < b) (frPut13 ((Fr.refl [some w.heap.size, some w1.heap.size] w5).setCell (p := ⟨w1.heap.size, 12, none⟩) (.inl (by simp)) (.slice (some ⟨w5.heap.size, 0, none⟩) 1 1)) (.inl (by simp)) _ _ _ _ _ _ _ _ _ _ _ _ _) (fun b hb => by simp; omega) (by simp [World.size_setCell]) HX5.out (by omega)))⟩, (((HD5.out.set (by omega)).pr.keep (frPut13 (Fr.refl [some w.heap.size] _) (.inl (by simp)) _ _ _ _ _ _ _ _ _ _ _ _ _) (by simp; omega) (by simp; omega)).alloc _), ((frPut13 (HD5.out.set (by omega)).fr (.inr HR5.out.ge) _ _ _ _ _ _ _ _ _ _ _ _ _).alloc _)⟩
    · have hki : (l.length : Int) ≤ (k : Int) := by omega
      have HANY : Hid (l.any (fun w => PM.is w s3) = false) := Lib.hid (any_false (fun j hj => HNO.out j hj (by omega)))
      go_wp2_with fail
      refine (fails_any P g s3 5 _ HDr.out.pr).mono ?_
      rintro e w4 ⟨rfl, h4, hf4⟩
      obtain ⟨s4, hq4⟩ : ∃ x, PM.fails 5 s3 = x := ⟨_, rfl⟩
      rw [hq4] at h4
      have HQ4 := Lib.hid hq4
      clear hq4
      have HD4 : Hid (Bd w P g w4 s4) := Lib.hid (HDr.out.call h4 hf4)
      have HR4 : Hid (Ow w w4 w.heap.size 29 [.int .i64 0, .string ⟨#[]⟩, .string ⟨#[]⟩, .slice none 0 0, .slice none 0 0, .slice none 0 0, .slice none 0 0, .string ⟨#[]⟩, .slice none 0 0, .slice none 0 0, .slice none 0 0, .bool false, .slice none 0 0]) := Lib.hid (HRr.out.call HPL.out hf4)
      have HSt4 : Hid (Ow w w4 w1.heap.size 29 [.int .i64 kd, .string ⟨#[]⟩, .string ⟨m.toArray⟩, .slice none 0 0, .slice none 0 0, .slice none 0 0, .slice none 0 0, .string ⟨#[]⟩, .slice none 0 0, .slice none 0 0, .slice none 0 0, .bool false, .slice none 0 0]) := Lib.hid (HStr.out.call HPL.out hf4)
      have HW4 := Lib.hid (StrsA.keep hf4 (fun b hb => by simp <;> omega) HWr.out)
      have hs4 := hf4.size
      have hlR4 := HR4.out.lt
      have hlSt4 := HSt4.out.lt
      have hp4 := HD4.out.pr.lt
      clear h4 hf4
      have HG4 : Hid (PM.Le s4 s) := Lib.hid (HG3.out.calm (PM.calm_fails 5) HQ4.out)
      have HM : Hid (PM.door n kd l s = (.mk kd [] m [] [] [] [] [] [] [] [] false [], s4)) := Lib.hid (by simp only [PM.door, HQ1.out, HQ2.out, HKK.out, HQ3.out, HANY.out, HQ4.out, if_false, Bool.false_eq_true, eq_self])
      have hnRSt : ¬ w.heap.size = w1.heap.size := by omega
      have hnStR : ¬ w1.heap.size = w.heap.size := by omega
      obtain ⟨Stc0, Stc1, Stc2, Stc3, Stc4, Stc5, Stc6, Stc7, Stc8, Stc9, Stc10, Stc11, Stc12, Stf0, Stf1, Stf2, Stf3, Stf4, Stf5, Stf6, Stf7, Stf8, Stf9, Stf10, Stf11, Stf12⟩ := c13_of HSt4.out.blk
      obtain ⟨Rc0, Rc1, Rc2, Rc3, Rc4, Rc5, Rc6, Rc7, Rc8, Rc9, Rc10, Rc11, Rc12, Rf0, Rf1, Rf2, Rf3, Rf4, Rf5, Rf6, Rf7, Rf8, Rf9, Rf10, Rf11, Rf12⟩ := c13_of HR4.out.blk
      go_wp2_with fail
      refine bodyPost_ret (ret_cell13 rfl _ w.heap.size rfl _ _ _ _ _ _ _ _ _ _ _ _ _ _ (blkPut13 HR4.out.blk _ _ _ _ _ _ _ _ _ _ _ _ _)) rfl ?_
      rw [HM.out]
      exact ⟨⟨_, rfl, .mk _ _ _ _ _ _ _ _ _ _ _ _ _ _ _ _ _ _ _ _ _ .nil .nil Rep.Es.nil .nil Rep.Es.nil Rep.Es.nil Rep.Es.nil SS.nil⟩, (HD4.out.pr.keep (frPut13 (Fr.refl [some w.heap.size] _) (.inl (by simp)) _ _ _ _ _ _ _ _ _ _ _ _ _) (by simp; omega) (by simp; omega)), (frPut13 HD4.out.fr (.inr HR4.out.ge) _ _ _ _ _ _ _ _ _ _ _ _ _)⟩
end Px
end Go.Proofs.YtmdnhinpaflamaaGreatDoor
