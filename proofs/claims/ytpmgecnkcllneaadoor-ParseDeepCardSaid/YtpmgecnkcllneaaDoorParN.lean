/- parse: list, at its four types. -/
import Derived.Test.YtpmgecnkcllneaaDoorParM
namespace Go.Proofs.YtpmgecnkcllneaaDoor
open Go.RowKit
namespace Px
open PM (PS B Ex)

theorem info_ex : (Tryd.prog.info? 40).map (fun i => (i.zero, i.size, i.bytes)) = some (some (.agg z7.toArray), 7, 96) := by kernel_rfl
theorem info_col : (Tryd.prog.info? 71).map (fun i => (i.zero, i.size, i.bytes)) = some (some (.agg #[.string ⟨#[]⟩, .int .i64 0, .string ⟨#[]⟩]), 3, 40) := by kernel_rfl
theorem info_item : (Tryd.prog.info? 73).map (fun i => (i.zero, i.size, i.bytes)) = some (some (.agg #[.int .i64 0, .string ⟨#[]⟩, .string ⟨#[]⟩]), 3, 40) := by kernel_rfl
theorem info_u16 : (Tryd.prog.info? 97).map (fun i => (i.zero, i.size, i.bytes)) = some (some (.int .u16 0), 1, 2) := by kernel_rfl
theorem lim96 {n b : Nat} (h : n ≤ 1000) (hb : b ≤ 96) : n + 1 ≤ maxLen ∧ (n + 1) * b ≤ 140737488355328 := by
  refine ⟨by unfold maxLen; omega, ?_⟩
  have : (n + 1) * b ≤ 1001 * 96 := Nat.mul_le_mul (by omega) hb
  omega

theorem ex_form {A : Nat → Prop} {w : World} {x : Ex} {cs : List Value} (h : kEx.E A w x cs) : ∃ (op kind int : Int) (t tb n : B) (a : Option Addr) (len cap : Nat), cs = [.int .i64 op, .int .i64 kind, .int .i64 int, .string ⟨t.toArray⟩, .string ⟨tb.toArray⟩, .string ⟨n.toArray⟩, .slice a len cap] := by
  cases h with
  | mk op kind int t tb n args v hv =>
    cases hv with
    | mk _ _ xs h1 h2 h3 =>
      rcases h2.form with ⟨rfl, _, _⟩ | ⟨g, off, cap, rfl, _, _⟩
      · exact ⟨_, _, _, _, _, _, _, _, _, rfl⟩
      · exact ⟨_, _, _, _, _, _, _, _, _, rfl⟩
theorem col_form {A : Nat → Prop} {w : World} {x : PM.Col} {cs : List Value} (h : kCol.E A w x cs) : ∃ (a : B) (b : Int) (c : B), cs = [.string ⟨a.toArray⟩, .int .i64 b, .string ⟨c.toArray⟩] := ⟨_, _, _, h⟩
theorem item_form {A : Nat → Prop} {w : World} {x : PM.It} {cs : List Value} (h : kIt.E A w x cs) : ∃ (a : Int) (b c : B), cs = [.int .i64 a, .string ⟨b.toArray⟩, .string ⟨c.toArray⟩] := ⟨_, _, _, h⟩
theorem u16_form {A : Nat → Prop} {w : World} {x : Int} {cs : List Value} (h : kTag.E A w x cs) : ∃ a : Int, cs = [.int .u16 a] := ⟨_, h⟩

set_option maxRecDepth 100000 in
set_option maxHeartbeats 2000000 in
theorem list_ex (P g : Nat) (s : PS) (k : Nat) (fst cap : Array Value) (n : Nat) (f : PS → Ex × PS) (hg : PM.Good f) (w : World) (h : PR w P g s) (h0 : 0 ≤ s.deep) (h64 : s.deep ≤ 64) (hn : s.l.length ≤ n) (hb : s.l.length ≤ 1000)
    (hrun : ∀ w : World, Sem.run Tryd.prog (callFunc k (fst ++ cap)) w = .ok (.enter k (fst ++ cap)) w) (hf : OneR kEx agg P g w k (fst ++ cap) n f) :
    Calls Tryd.prog 34 #[.pointer (some ⟨P, 0, none⟩), .func (.func k) fst cap] w fun e w' => (∃ v, e = .returned v ∧ LsR kEx 40 w.heap.size w' v (PM.list f s).1) ∧ PR w' P g (PM.list f s).2 ∧ Fr [some P] w w' := by
  have hPl := h.lt
  have HPL := Lib.hid hPl
  have HRUN := Lib.hid hrun
  have HREAD := Lib.hid hf
  have HG := Lib.hid hg
  have HC1 := Lib.hid (hf w s (Fr.refl _ _) h hn h0 h64)
  have HN := Lib.hid (And.intro hn (And.intro hb (And.intro h0 h64)))
  obtain ⟨i0, hi, hz0, hz1, hz2⟩ := info_parts info_ex
  clear h hrun hf hg hn hb h0 h64
  go_enter Tryd.func34, Tryd.ntmps34
  go_wp2_with fail
  rw [HRUN.out, Oper.upon_enter]
  refine HC1.out.mono ?_
  rintro e w1 ⟨⟨cs, rfl, hx⟩, h1, hf1⟩
  have HX := Lib.hid hx
  obtain ⟨op1, kind1, int1, t1, tb1, nm1, va1, vl1, vc1, rfl⟩ := ex_form hx
  have HST := Lib.hid (LI.start (K := kEx) (T := 40) (n := n) HG.out HN.out.1 HN.out.2.1 HN.out.2.2.1 HN.out.2.2.2 h1 HX.out hf1)
  clear hx h1 hf1 HC1
  simp only [agg]
  go_wp2_with fail
  go_loopw [5] (fun v wr => LI kEx 40 w P g n f (PM.list f s) v wr) (fun _ wr => meaL P wr)
  case atStart => exact HST.out
  case round =>
    clear HST HX
    obtain ⟨fuel, acc, s', cs, HRES, hfu, hbb, hnn, hd0, hd64, HR, HL, HROW, HOWN, HF⟩ := hrel
    have hpos := HR.out.wf.pos
    have HMEA := Lib.hid (meaL_of HR.out)
    obtain ⟨fu, rfl⟩ : ∃ fu, fuel = fu + 1 := ⟨fuel - 1, by omega⟩
    go_wp2_with fail
    refine (skips_any P g s' [44] wr HR.out).mono ?_
    rintro e w2 ⟨rfl, h2, hf2⟩
    have H2 := Lib.hid h2
    have HF2 := Lib.hid hf2
    clear h2 hf2
    cases hi : PM.is [44] s'
    · have HD : Hid ((acc, s') = PM.list f s) := Lib.hid (by rw [← HRES.out, PM.more, if_neg (by rw [hi]; decide)])
      have hsk : skipd [44] s' = s' := by rw [skipd, hi]; rfl
      rw [hsk] at H2
      clear hi hsk
      go_wp2_with fail
      go_ret
      rw [← HD.out]
      have hne : ∀ q, q ≤ P → some q ∉ [u5.ownBlock] := by
        intro q hq hm
        simp only [List.mem_singleton] at hm
        have := HOWN.out q hm.symm
        have := HPL.out
        omega
      refine ⟨⟨_, rfl, LI.done (RL.keep HF2.out (fun b hb => by have := HPL.out; simp; omega) HL.out) (HROW.out.keep HF2.out (fun b hb => by have := HOWN.out b hb; have := HPL.out; simp; omega)) HOWN.out⟩, H2.out, HF.out.trans HF2.out⟩
    · have hsk : skipd [44] s' = PM.skip s' := by rw [skipd, hi]; rfl
      have hkk := is_kind hi
      have h2l := WF.two HR.out.wf hkk
      have hls : (PM.skip s').l.length = s'.l.length - 1 := by simp [PM.skip]
      rw [hsk] at H2
      have HD : Hid (PM.more f fu (acc ++ [(f (PM.skip s')).1]) (f (PM.skip s')).2 = PM.list f s) := Lib.hid (by rw [← HRES.out, PM.more, if_pos hi])
      have hgs := HG.out (PM.skip s')
      have HGS := Lib.hid hgs
      have HC2 := Lib.hid (HREAD.out w2 (PM.skip s') (HF.out.trans HF2.out) H2.out (by omega) hd0 hd64)
      have hlim := lim96 (n := acc.length) (b := 96) (by omega) (by omega)
      obtain ⟨hmx, hby⟩ := hlim
      have HLS := Lib.hid hls
      clear hi hsk hkk hgs hls
      go_wp2_with fail
      rw [HRUN.out, Oper.upon_enter]
      refine HC2.out.mono ?_
      rintro e w3 ⟨⟨ys, rfl, hx⟩, h3, hf3⟩
      have HX3 := Lib.hid hx
      obtain ⟨op3, kind3, int3, t3, tb3, nm3, va3, vl3, vc3, rfl⟩ := ex_form hx
      have H3 := Lib.hid h3
      have HF3 := Lib.hid hf3
      clear hx h3 hf3 HC2
      have HROW3 := Lib.hid ((HROW.out.keep (HF2.out.trans HF3.out) (fun b hb => by have := HOWN.out b hb; have := HPL.out; simp; omega)).keep ((Fr.refl [] w3).alloc (.cells #[.int .i64 op3, .int .i64 kind3, .int .i64 int3, .string ⟨t3.toArray⟩, .string ⟨tb3.toArray⟩, .string ⟨nm3.toArray⟩, .slice va3 vl3 vc3] 40)) (by simp))
      simp only [agg]
      go_wp2_with (at_builtin; refine wpList_append_row rfl _ _ 26 rfl 40 i0 (.agg z7.toArray) 7 96 Tryd.underlying26 hi hz0 hz1 hz2 rfl (by decide) u5 acc.length cs rfl HROW3.out ⟨w3.heap.size, 0, none⟩ 1 1 [.int .i64 op3, .int .i64 kind3, .int .i64 int3, .string ⟨t3.toArray⟩, .string ⟨tb3.toArray⟩, .string ⟨nm3.toArray⟩, .slice va3 vl3 vc3] rfl rfl ?c1 ?c2 hmx hby ?_)
      case c1 => exact Lx.four_new w3 40 [.int .i64 op3, .int .i64 kind3, .int .i64 int3, .string ⟨t3.toArray⟩, .string ⟨tb3.toArray⟩, .string ⟨nm3.toArray⟩, .slice va3 vl3 vc3]
      case c2 => exact (kEx).one HX3.out
      intro v' w4 hr' hf' hb'
      obtain ⟨st1, st2⟩ := LI.step (K := kEx) (T := 40) (w := w) (n := n) (v := u5) (v' := v') HD.out (by have := HGS.out; have := HLS.out; omega) (by have := HGS.out; have := HLS.out; omega) (by have := HGS.out; have := HLS.out; omega) (by have := HGS.out; rw [HGS.out.1]; exact hd0) (by rw [HGS.out.1]; exact hd64) HPL.out HL.out HROW.out HOWN.out HF.out HF2.out HF3.out HX3.out H3.out hr' hf' hb'
      have HSTEP := Lib.hid st1
      have HME : Hid (meaL P w4 < meaL P wr) := Lib.hid (by rw [st2, HMEA.out]; have := HGS.out; have := HLS.out; omega)
      clear hr' hf' hb' st1 st2
      go_wp2_with fail
      go_roundw
      case rel => exact HSTEP.out
      case measure => exact HME.out

set_option maxRecDepth 100000 in
set_option maxHeartbeats 2000000 in
theorem list_col (P g : Nat) (s : PS) (k : Nat) (fst cap : Array Value) (n : Nat) (f : PS → PM.Col × PS) (hg : PM.Good f) (w : World) (h : PR w P g s) (h0 : 0 ≤ s.deep) (h64 : s.deep ≤ 64) (hn : s.l.length ≤ n) (hb : s.l.length ≤ 1000)
    (hrun : ∀ w : World, Sem.run Tryd.prog (callFunc k (fst ++ cap)) w = .ok (.enter k (fst ++ cap)) w) (hf : OneR kCol agg P g w k (fst ++ cap) n f) :
    Calls Tryd.prog 51 #[.pointer (some ⟨P, 0, none⟩), .func (.func k) fst cap] w fun e w' => (∃ v, e = .returned v ∧ LsR kCol 71 w.heap.size w' v (PM.list f s).1) ∧ PR w' P g (PM.list f s).2 ∧ Fr [some P] w w' := by
  have hPl := h.lt
  have HPL := Lib.hid hPl
  have HRUN := Lib.hid hrun
  have HREAD := Lib.hid hf
  have HG := Lib.hid hg
  have HC1 := Lib.hid (hf w s (Fr.refl _ _) h hn h0 h64)
  have HN := Lib.hid (And.intro hn (And.intro hb (And.intro h0 h64)))
  obtain ⟨i0, hi, hz0, hz1, hz2⟩ := info_parts info_col
  clear h hrun hf hg hn hb h0 h64
  go_enter Tryd.func51, Tryd.ntmps51
  go_wp2_with fail
  rw [HRUN.out, Oper.upon_enter]
  refine HC1.out.mono ?_
  rintro e w1 ⟨⟨cs, rfl, hx⟩, h1, hf1⟩
  have HX := Lib.hid hx
  obtain ⟨a1, b1, c1, rfl⟩ := col_form hx
  have HST := Lib.hid (LI.start (K := kCol) (T := 71) (n := n) HG.out HN.out.1 HN.out.2.1 HN.out.2.2.1 HN.out.2.2.2 h1 HX.out hf1)
  clear hx h1 hf1 HC1
  simp only [agg]
  go_wp2_with fail
  go_loopw [5] (fun v wr => LI kCol 71 w P g n f (PM.list f s) v wr) (fun _ wr => meaL P wr)
  case atStart => exact HST.out
  case round =>
    clear HST HX
    obtain ⟨fuel, acc, s', cs, HRES, hfu, hbb, hnn, hd0, hd64, HR, HL, HROW, HOWN, HF⟩ := hrel
    have hpos := HR.out.wf.pos
    have HMEA := Lib.hid (meaL_of HR.out)
    obtain ⟨fu, rfl⟩ : ∃ fu, fuel = fu + 1 := ⟨fuel - 1, by omega⟩
    go_wp2_with fail
    refine (skips_any P g s' [44] wr HR.out).mono ?_
    rintro e w2 ⟨rfl, h2, hf2⟩
    have H2 := Lib.hid h2
    have HF2 := Lib.hid hf2
    clear h2 hf2
    cases hi : PM.is [44] s'
    · have HD : Hid ((acc, s') = PM.list f s) := Lib.hid (by rw [← HRES.out, PM.more, if_neg (by rw [hi]; decide)])
      have hsk : skipd [44] s' = s' := by rw [skipd, hi]; rfl
      rw [hsk] at H2
      clear hi hsk
      go_wp2_with fail
      go_ret
      rw [← HD.out]
      have hne : ∀ q, q ≤ P → some q ∉ [u5.ownBlock] := by
        intro q hq hm
        simp only [List.mem_singleton] at hm
        have := HOWN.out q hm.symm
        have := HPL.out
        omega
      refine ⟨⟨_, rfl, LI.done (RL.keep HF2.out (fun b hb => by have := HPL.out; simp; omega) HL.out) (HROW.out.keep HF2.out (fun b hb => by have := HOWN.out b hb; have := HPL.out; simp; omega)) HOWN.out⟩, H2.out, HF.out.trans HF2.out⟩
    · have hsk : skipd [44] s' = PM.skip s' := by rw [skipd, hi]; rfl
      have hkk := is_kind hi
      have h2l := WF.two HR.out.wf hkk
      have hls : (PM.skip s').l.length = s'.l.length - 1 := by simp [PM.skip]
      rw [hsk] at H2
      have HD : Hid (PM.more f fu (acc ++ [(f (PM.skip s')).1]) (f (PM.skip s')).2 = PM.list f s) := Lib.hid (by rw [← HRES.out, PM.more, if_pos hi])
      have hgs := HG.out (PM.skip s')
      have HGS := Lib.hid hgs
      have HC2 := Lib.hid (HREAD.out w2 (PM.skip s') (HF.out.trans HF2.out) H2.out (by omega) hd0 hd64)
      have hlim := lim96 (n := acc.length) (b := 40) (by omega) (by omega)
      obtain ⟨hmx, hby⟩ := hlim
      have HLS := Lib.hid hls
      clear hi hsk hkk hgs hls
      go_wp2_with fail
      rw [HRUN.out, Oper.upon_enter]
      refine HC2.out.mono ?_
      rintro e w3 ⟨⟨ys, rfl, hx⟩, h3, hf3⟩
      have HX3 := Lib.hid hx
      obtain ⟨a3, b3, c3, rfl⟩ := col_form hx
      have H3 := Lib.hid h3
      have HF3 := Lib.hid hf3
      clear hx h3 hf3 HC2
      have HROW3 := Lib.hid ((HROW.out.keep (HF2.out.trans HF3.out) (fun b hb => by have := HOWN.out b hb; have := HPL.out; simp; omega)).keep ((Fr.refl [] w3).alloc (.cells #[.string ⟨a3.toArray⟩, .int .i64 b3, .string ⟨c3.toArray⟩] 71)) (by simp))
      simp only [agg]
      go_wp2_with (at_builtin; refine wpList_append_row rfl _ _ 24 rfl 71 i0 (.agg #[.string ⟨#[]⟩, .int .i64 0, .string ⟨#[]⟩]) 3 40 Tryd.underlying24 hi hz0 hz1 hz2 rfl (by decide) u5 acc.length cs rfl HROW3.out ⟨w3.heap.size, 0, none⟩ 1 1 [.string ⟨a3.toArray⟩, .int .i64 b3, .string ⟨c3.toArray⟩] rfl rfl ?c1 ?c2 hmx hby ?_)
      case c1 => exact Lx.four_new w3 71 [.string ⟨a3.toArray⟩, .int .i64 b3, .string ⟨c3.toArray⟩]
      case c2 => exact (kCol).one HX3.out
      intro v' w4 hr' hf' hb'
      obtain ⟨st1, st2⟩ := LI.step (K := kCol) (T := 71) (w := w) (n := n) (v := u5) (v' := v') HD.out (by have := HGS.out; have := HLS.out; omega) (by have := HGS.out; have := HLS.out; omega) (by have := HGS.out; have := HLS.out; omega) (by have := HGS.out; rw [HGS.out.1]; exact hd0) (by rw [HGS.out.1]; exact hd64) HPL.out HL.out HROW.out HOWN.out HF.out HF2.out HF3.out HX3.out H3.out hr' hf' hb'
      have HSTEP := Lib.hid st1
      have HME : Hid (meaL P w4 < meaL P wr) := Lib.hid (by rw [st2, HMEA.out]; have := HGS.out; have := HLS.out; omega)
      clear hr' hf' hb' st1 st2
      go_wp2_with fail
      go_roundw
      case rel => exact HSTEP.out
      case measure => exact HME.out

set_option maxRecDepth 100000 in
set_option maxHeartbeats 2000000 in
theorem list_item (P g : Nat) (s : PS) (k : Nat) (fst cap : Array Value) (n : Nat) (f : PS → PM.It × PS) (hg : PM.Good f) (w : World) (h : PR w P g s) (h0 : 0 ≤ s.deep) (h64 : s.deep ≤ 64) (hn : s.l.length ≤ n) (hb : s.l.length ≤ 1000)
    (hrun : ∀ w : World, Sem.run Tryd.prog (callFunc k (fst ++ cap)) w = .ok (.enter k (fst ++ cap)) w) (hf : OneR kIt agg P g w k (fst ++ cap) n f) :
    Calls Tryd.prog 57 #[.pointer (some ⟨P, 0, none⟩), .func (.func k) fst cap] w fun e w' => (∃ v, e = .returned v ∧ LsR kIt 73 w.heap.size w' v (PM.list f s).1) ∧ PR w' P g (PM.list f s).2 ∧ Fr [some P] w w' := by
  have hPl := h.lt
  have HPL := Lib.hid hPl
  have HRUN := Lib.hid hrun
  have HREAD := Lib.hid hf
  have HG := Lib.hid hg
  have HC1 := Lib.hid (hf w s (Fr.refl _ _) h hn h0 h64)
  have HN := Lib.hid (And.intro hn (And.intro hb (And.intro h0 h64)))
  obtain ⟨i0, hi, hz0, hz1, hz2⟩ := info_parts info_item
  clear h hrun hf hg hn hb h0 h64
  go_enter Tryd.func57, Tryd.ntmps57
  go_wp2_with fail
  rw [HRUN.out, Oper.upon_enter]
  refine HC1.out.mono ?_
  rintro e w1 ⟨⟨cs, rfl, hx⟩, h1, hf1⟩
  have HX := Lib.hid hx
  obtain ⟨a1, b1, c1, rfl⟩ := item_form hx
  have HST := Lib.hid (LI.start (K := kIt) (T := 73) (n := n) HG.out HN.out.1 HN.out.2.1 HN.out.2.2.1 HN.out.2.2.2 h1 HX.out hf1)
  clear hx h1 hf1 HC1
  simp only [agg]
  go_wp2_with fail
  go_loopw [5] (fun v wr => LI kIt 73 w P g n f (PM.list f s) v wr) (fun _ wr => meaL P wr)
  case atStart => exact HST.out
  case round =>
    clear HST HX
    obtain ⟨fuel, acc, s', cs, HRES, hfu, hbb, hnn, hd0, hd64, HR, HL, HROW, HOWN, HF⟩ := hrel
    have hpos := HR.out.wf.pos
    have HMEA := Lib.hid (meaL_of HR.out)
    obtain ⟨fu, rfl⟩ : ∃ fu, fuel = fu + 1 := ⟨fuel - 1, by omega⟩
    go_wp2_with fail
    refine (skips_any P g s' [44] wr HR.out).mono ?_
    rintro e w2 ⟨rfl, h2, hf2⟩
    have H2 := Lib.hid h2
    have HF2 := Lib.hid hf2
    clear h2 hf2
    cases hi : PM.is [44] s'
    · have HD : Hid ((acc, s') = PM.list f s) := Lib.hid (by rw [← HRES.out, PM.more, if_neg (by rw [hi]; decide)])
      have hsk : skipd [44] s' = s' := by rw [skipd, hi]; rfl
      rw [hsk] at H2
      clear hi hsk
      go_wp2_with fail
      go_ret
      rw [← HD.out]
      have hne : ∀ q, q ≤ P → some q ∉ [u5.ownBlock] := by
        intro q hq hm
        simp only [List.mem_singleton] at hm
        have := HOWN.out q hm.symm
        have := HPL.out
        omega
      refine ⟨⟨_, rfl, LI.done (RL.keep HF2.out (fun b hb => by have := HPL.out; simp; omega) HL.out) (HROW.out.keep HF2.out (fun b hb => by have := HOWN.out b hb; have := HPL.out; simp; omega)) HOWN.out⟩, H2.out, HF.out.trans HF2.out⟩
    · have hsk : skipd [44] s' = PM.skip s' := by rw [skipd, hi]; rfl
      have hkk := is_kind hi
      have h2l := WF.two HR.out.wf hkk
      have hls : (PM.skip s').l.length = s'.l.length - 1 := by simp [PM.skip]
      rw [hsk] at H2
      have HD : Hid (PM.more f fu (acc ++ [(f (PM.skip s')).1]) (f (PM.skip s')).2 = PM.list f s) := Lib.hid (by rw [← HRES.out, PM.more, if_pos hi])
      have hgs := HG.out (PM.skip s')
      have HGS := Lib.hid hgs
      have HC2 := Lib.hid (HREAD.out w2 (PM.skip s') (HF.out.trans HF2.out) H2.out (by omega) hd0 hd64)
      have hlim := lim96 (n := acc.length) (b := 40) (by omega) (by omega)
      obtain ⟨hmx, hby⟩ := hlim
      have HLS := Lib.hid hls
      clear hi hsk hkk hgs hls
      go_wp2_with fail
      rw [HRUN.out, Oper.upon_enter]
      refine HC2.out.mono ?_
      rintro e w3 ⟨⟨ys, rfl, hx⟩, h3, hf3⟩
      have HX3 := Lib.hid hx
      obtain ⟨a3, b3, c3, rfl⟩ := item_form hx
      have H3 := Lib.hid h3
      have HF3 := Lib.hid hf3
      clear hx h3 hf3 HC2
      have HROW3 := Lib.hid ((HROW.out.keep (HF2.out.trans HF3.out) (fun b hb => by have := HOWN.out b hb; have := HPL.out; simp; omega)).keep ((Fr.refl [] w3).alloc (.cells #[.int .i64 a3, .string ⟨b3.toArray⟩, .string ⟨c3.toArray⟩] 73)) (by simp))
      simp only [agg]
      go_wp2_with (at_builtin; refine wpList_append_row rfl _ _ 27 rfl 73 i0 (.agg #[.int .i64 0, .string ⟨#[]⟩, .string ⟨#[]⟩]) 3 40 Tryd.underlying27 hi hz0 hz1 hz2 rfl (by decide) u5 acc.length cs rfl HROW3.out ⟨w3.heap.size, 0, none⟩ 1 1 [.int .i64 a3, .string ⟨b3.toArray⟩, .string ⟨c3.toArray⟩] rfl rfl ?c1 ?c2 hmx hby ?_)
      case c1 => exact Lx.four_new w3 73 [.int .i64 a3, .string ⟨b3.toArray⟩, .string ⟨c3.toArray⟩]
      case c2 => exact (kIt).one HX3.out
      intro v' w4 hr' hf' hb'
      obtain ⟨st1, st2⟩ := LI.step (K := kIt) (T := 73) (w := w) (n := n) (v := u5) (v' := v') HD.out (by have := HGS.out; have := HLS.out; omega) (by have := HGS.out; have := HLS.out; omega) (by have := HGS.out; have := HLS.out; omega) (by have := HGS.out; rw [HGS.out.1]; exact hd0) (by rw [HGS.out.1]; exact hd64) HPL.out HL.out HROW.out HOWN.out HF.out HF2.out HF3.out HX3.out H3.out hr' hf' hb'
      have HSTEP := Lib.hid st1
      have HME : Hid (meaL P w4 < meaL P wr) := Lib.hid (by rw [st2, HMEA.out]; have := HGS.out; have := HLS.out; omega)
      clear hr' hf' hb' st1 st2
      go_wp2_with fail
      go_roundw
      case rel => exact HSTEP.out
      case measure => exact HME.out

set_option maxRecDepth 100000 in
set_option maxHeartbeats 2000000 in
theorem list_u16 (P g : Nat) (s : PS) (k : Nat) (fst cap : Array Value) (n : Nat) (f : PS → Int × PS) (hg : PM.Good f) (w : World) (h : PR w P g s) (h0 : 0 ≤ s.deep) (h64 : s.deep ≤ 64) (hn : s.l.length ≤ n) (hb : s.l.length ≤ 1000)
    (hrun : ∀ w : World, Sem.run Tryd.prog (callFunc k (fst ++ cap)) w = .ok (.enter k (fst ++ cap)) w) (hf : OneR kTag hd P g w k (fst ++ cap) n f) :
    Calls Tryd.prog 38 #[.pointer (some ⟨P, 0, none⟩), .func (.func k) fst cap] w fun e w' => (∃ v, e = .returned v ∧ LsR kTag 97 w.heap.size w' v (PM.list f s).1) ∧ PR w' P g (PM.list f s).2 ∧ Fr [some P] w w' := by
  have hPl := h.lt
  have HPL := Lib.hid hPl
  have HRUN := Lib.hid hrun
  have HREAD := Lib.hid hf
  have HG := Lib.hid hg
  have HC1 := Lib.hid (hf w s (Fr.refl _ _) h hn h0 h64)
  have HN := Lib.hid (And.intro hn (And.intro hb (And.intro h0 h64)))
  obtain ⟨i0, hi, hz0, hz1, hz2⟩ := info_parts info_u16
  clear h hrun hf hg hn hb h0 h64
  go_enter Tryd.func38, Tryd.ntmps38
  go_wp2_with fail
  rw [HRUN.out, Oper.upon_enter]
  refine HC1.out.mono ?_
  rintro e w1 ⟨⟨cs, rfl, hx⟩, h1, hf1⟩
  have HX := Lib.hid hx
  obtain ⟨a1, rfl⟩ := u16_form hx
  have HST := Lib.hid (LI.start (K := kTag) (T := 97) (n := n) HG.out HN.out.1 HN.out.2.1 HN.out.2.2.1 HN.out.2.2.2 h1 HX.out hf1)
  clear hx h1 hf1 HC1
  simp only [hd, List.headD_cons]
  go_wp2_with fail
  go_loopw [5] (fun v wr => LI kTag 97 w P g n f (PM.list f s) v wr) (fun _ wr => meaL P wr)
  case atStart => exact HST.out
  case round =>
    clear HST HX
    obtain ⟨fuel, acc, s', cs, HRES, hfu, hbb, hnn, hd0, hd64, HR, HL, HROW, HOWN, HF⟩ := hrel
    have hpos := HR.out.wf.pos
    have HMEA := Lib.hid (meaL_of HR.out)
    obtain ⟨fu, rfl⟩ : ∃ fu, fuel = fu + 1 := ⟨fuel - 1, by omega⟩
    go_wp2_with fail
    refine (skips_any P g s' [44] wr HR.out).mono ?_
    rintro e w2 ⟨rfl, h2, hf2⟩
    have H2 := Lib.hid h2
    have HF2 := Lib.hid hf2
    clear h2 hf2
    cases hi : PM.is [44] s'
    · have HD : Hid ((acc, s') = PM.list f s) := Lib.hid (by rw [← HRES.out, PM.more, if_neg (by rw [hi]; decide)])
      have hsk : skipd [44] s' = s' := by rw [skipd, hi]; rfl
      rw [hsk] at H2
      clear hi hsk
      go_wp2_with fail
      go_ret
      rw [← HD.out]
      have hne : ∀ q, q ≤ P → some q ∉ [u5.ownBlock] := by
        intro q hq hm
        simp only [List.mem_singleton] at hm
        have := HOWN.out q hm.symm
        have := HPL.out
        omega
      refine ⟨⟨_, rfl, LI.done (RL.keep HF2.out (fun b hb => by have := HPL.out; simp; omega) HL.out) (HROW.out.keep HF2.out (fun b hb => by have := HOWN.out b hb; have := HPL.out; simp; omega)) HOWN.out⟩, H2.out, HF.out.trans HF2.out⟩
    · have hsk : skipd [44] s' = PM.skip s' := by rw [skipd, hi]; rfl
      have hkk := is_kind hi
      have h2l := WF.two HR.out.wf hkk
      have hls : (PM.skip s').l.length = s'.l.length - 1 := by simp [PM.skip]
      rw [hsk] at H2
      have HD : Hid (PM.more f fu (acc ++ [(f (PM.skip s')).1]) (f (PM.skip s')).2 = PM.list f s) := Lib.hid (by rw [← HRES.out, PM.more, if_pos hi])
      have hgs := HG.out (PM.skip s')
      have HGS := Lib.hid hgs
      have HC2 := Lib.hid (HREAD.out w2 (PM.skip s') (HF.out.trans HF2.out) H2.out (by omega) hd0 hd64)
      have hlim := lim96 (n := acc.length) (b := 2) (by omega) (by omega)
      obtain ⟨hmx, hby⟩ := hlim
      have HLS := Lib.hid hls
      clear hi hsk hkk hgs hls
      go_wp2_with fail
      rw [HRUN.out, Oper.upon_enter]
      refine HC2.out.mono ?_
      rintro e w3 ⟨⟨ys, rfl, hx⟩, h3, hf3⟩
      have HX3 := Lib.hid hx
      obtain ⟨a3, rfl⟩ := u16_form hx
      have H3 := Lib.hid h3
      have HF3 := Lib.hid hf3
      clear hx h3 hf3 HC2
      have HROW3 := Lib.hid ((HROW.out.keep (HF2.out.trans HF3.out) (fun b hb => by have := HOWN.out b hb; have := HPL.out; simp; omega)).keep ((Fr.refl [] w3).alloc (.cells #[.int .u16 a3] 97)) (by simp))
      simp only [hd, List.headD_cons]
      go_wp2_with (at_builtin; refine wpList_append_row rfl _ _ 25 rfl 97 i0 (.int .u16 0) 1 2 Tryd.underlying25 hi hz0 hz1 hz2 rfl (by decide) u5 acc.length cs rfl HROW3.out ⟨w3.heap.size, 0, none⟩ 1 1 [.int .u16 a3] rfl rfl ?c1 ?c2 hmx hby ?_)
      case c1 => exact Lx.four_new w3 97 [.int .u16 a3]
      case c2 => exact (kTag).one HX3.out
      intro v' w4 hr' hf' hb'
      obtain ⟨st1, st2⟩ := LI.step (K := kTag) (T := 97) (w := w) (n := n) (v := u5) (v' := v') HD.out (by have := HGS.out; have := HLS.out; omega) (by have := HGS.out; have := HLS.out; omega) (by have := HGS.out; have := HLS.out; omega) (by have := HGS.out; rw [HGS.out.1]; exact hd0) (by rw [HGS.out.1]; exact hd64) HPL.out HL.out HROW.out HOWN.out HF.out HF2.out HF3.out HX3.out H3.out hr' hf' hb'
      have HSTEP := Lib.hid st1
      have HME : Hid (meaL P w4 < meaL P wr) := Lib.hid (by rw [st2, HMEA.out]; have := HGS.out; have := HLS.out; omega)
      clear hr' hf' hb' st1 st2
      go_wp2_with fail
      go_roundw
      case rel => exact HSTEP.out
      case measure => exact HME.out
end Px
end Go.Proofs.YtpmgecnkcllneaaDoor
