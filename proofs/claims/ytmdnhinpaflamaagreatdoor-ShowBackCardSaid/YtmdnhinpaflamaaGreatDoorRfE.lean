/- The document's parser: tags, where, a table's column, an item. -/
import Derived.Test.YtmdnhinpaflamaaGreatDoorRfD
import Derived.Test.YtmdnhinpaflamaaGreatDoorGaB
import Derived.Test.YtmdnhinpaflamaaGreatDoorShA
import Derived.Test.YtmdnhinpaflamaaGreatDoorPlA
namespace Go.Proofs.YtmdnhinpaflamaaGreatDoor
open Go.RowKit
set_option linter.unusedVariables false
set_option linter.unusedSimpArgs false
namespace Rf
open LexM (Tok)
open PM (B Ex Col It PS zeroTok wordy two un colEx opOr opAnd opSum opTerm opComp)
open Px (frSet ret_cell7 blkPut7 frPut7 c7_of colCells col_rep z7 put7 kTag TagS ColS ItS)
open Gn (Gr)
theorem RR.le {w : World} {P : Nat} {s : PS} (h : RR w P s) : s.l.length <= 1000 := by
 obtain ⟨g, off, cap, N, n, T, h1, h2, h3, h4, h5, h6, h7, h8⟩ := h.ex
 rw [<- h5, List.length_drop]
 omega
theorem failed_e {s : PS} (x : Int) (hx : x ≠ 0) : ¬ (failed x s).e = 0 := by
 unfold failed
 split
 ·exact hx
 ·assumption
theorem St.more_go {α : Type} {one : Int -> CM.P α} (hn : ∀ d, Ng (one d)) {acc b : List α} {s2 s3 : PS} (ht : taken [44] s2 = true) (h : St (fun d => CM.bnd (one d) (fun y => moreL (one d) (acc ++ [y]))) (skip s2) b s3) : St (fun d => moreL (one d) acc) s2 b s3 := by
 obtain ⟨e0, hi⟩ := taken_pos ht
 have k := h.2 e0
 refine ⟨fun e => absurd e0 e, fun _ => ?_⟩
 simp only [moreL_some (hn _) hi]
 exact k
theorem St.bad {α : Type} {c : Int -> CM.P α} {s : PS} {x : Int} (hx : x ≠ 0) (h : s.e = 0 -> c s.deep s.l = .error ((now s).pos, x)) (a : α) : St c s a (failed x s) := by
 unfold failed
 by_cases h0 : s.e = 0
 ·rw [if_pos h0]
  refine ⟨fun e => absurd h0 e, fun _ => ?_⟩
  rw [h h0]
  exact ⟨rfl, rfl, hx⟩
 ·rw [if_neg h0]
  exact St.dead h0 a
theorem bnd_err {α β : Type} {c : CM.P α} {f : α -> CM.P β} {l : List Tok} {x : Int × Int} (h : c l = .error x) : CM.bnd c f l = .error x := by unfold CM.bnd; rw [h]
theorem tag_err5 {s : PS} (hk : (now s).kind ≠ 3) : CM.tag s.l = .error ((now s).pos, 5) := by
 unfold CM.tag
 rw [if_neg (fun h => hk h.1)]
 refine bnd_err ?_
 unfold CM.word
 exact if_neg hk
theorem tag_err3 {s : PS} (hk : (now s).kind = 3) (hi : 65535 < (now s).int) : CM.tag s.l = .error ((now s).pos, 3) := by
 unfold CM.tag
 exact if_pos ⟨hk, hi⟩
theorem St.tag {s : PS} (h0 : s.e = 0) (hk : (now s).kind = 3) (hi : ¬ 65535 < (now s).int) : St (fun _ => CM.tag) s ((now s).int % 65536) (skip s) :=
 St.at (c' := fun _ => CM.bnd (CM.word 3) fun t => CM.ret (t.int % 65536)) (fun _ => by unfold CM.tag; exact if_neg (fun h => hi h.2)) (St.bnd (d := fun t _ => CM.ret (t.int % 65536)) (St.kind h0 hk) (St.ret _ _))
theorem ng_tag : Ng CM.tag := fun l a l' h => by
 unfold CM.tag at h
 split at h
 ·cases h
 ·exact ng_bnd (ng_word 3) (fun _ => ng_ret _) _ _ _ h
theorem info_tag : (Tryz.prog.info? 58).map (fun i => (i.zero, i.size, i.bytes)) = some (some (.int .u16 0), 1, 2) := by kernel_rfl
set_option maxRecDepth 1000000 in
set_option maxHeartbeats 4000000 in
theorem tags_any (P : Nat) (s : PS) (w : World) (h : RR w P s) (hw : Wd s) :
  Calls Tryz.prog 64 #[.pointer (some ⟨P, 0, none⟩)] w fun e w' => ∃ (l : List Int) (v : Value) (s' : PS), e = .returned v /\ TagS (fun b => w.heap.size <= b) w' v l /\ RR w' P s' /\ St (fun _ => CM.list CM.tag) s l s' /\ Dp s s' /\ Fr [some P] w w' := by
 have hPl := h.lt
 have HR := Hd h
 have HW := Hd hw
 have hle0 := h.le
 obtain ⟨i0, hi, hz0, hz1, hz2⟩ := info_parts info_tag
 clear h hw
 go_enter Tryz.func64, Tryz.ntmps64
 go_wp2_with fail
 go_loopw [3] (fun v wr => ∃ (acc : List Int) (s' : PS), Hid (∀ b s3, St (fun _ => CM.bnd CM.tag (fun x => moreL CM.tag (acc ++ [x]))) s' b s3 -> St (fun _ => CM.list CM.tag) s b s3) /\ Hid (Dp s s') /\ acc.length + s'.l.length <= 1000 /\ Hid (Gr kTag 58 w.heap.size wr v acc) /\ Hid (RR wr P s') /\ Hid (Fr [some P] w wr)) (fun _ wr => meaR P wr)
 case atStart => exact ⟨[], s, Hd (fun b s3 h => h), Hd (Dp.refl HW.out), by simpa using hle0, Hd Gr.nil, HR, Hd (Fr.refl _ _)⟩
 case round =>
  obtain ⟨acc, s', HK, HD, hlen, HG, HRr, HF⟩ := hrel
  have HMEA := Hd (meaR_of HRr.out)
  have hpos := HRr.out.pos
  go_wp2_with fail
  refine (now_any P s' wr HRr.out).mono ?_
  rintro e w1 ⟨rfl, hf1⟩
  obtain ⟨tk, tt, ti, tp, hq⟩ : ∃ tk tt ti tp, (now s').kind = tk /\ (now s').text = tt /\ (now s').int = ti /\ (now s').pos = tp := ⟨_, _, _, _, rfl, rfl, rfl, rfl⟩
  obtain ⟨q0, q1, q2, q3⟩ := hq
  rw [q0, q1, q2, q3]
  have HQ := Hd (And.intro q0 q2)
  clear q0 q1 q2 q3
  have hfa := hf1.alloc (.cells #[.int .i64 tk, .string ⟨tt.toArray⟩, .int .i64 ti, .int .i64 tp] 45)
  have HR1 := Hd (HRr.out.keepP hfa (by simp))
  have HG1 := Hd (HG.out.keep hfa (by simp))
  have HF1 := Hd (HF.out.trans (hfa.mono (by simp)))
  have HT := Hd (Blk.new w1 45 [.int .i64 tk, .string ⟨tt.toArray⟩, .int .i64 ti, .int .i64 tp])
  clear hfa hf1
  have hsz := HF1.out.size
  by_cases hk3 : tk = 3
  ·subst hk3
   have hkk : (now s').kind = 3 := HQ.out.1
   by_cases hbig : 65535 < ti
   ·
    go_upto_region 6 with fail
    generalize w1.alloc (.cells #[.int .i64 3, .string ⟨tt.toArray⟩, .int .i64 ti, .int .i64 tp] 45) = wa at HT HR1 HG1 HF1 hsz ⊢
    go_wp2_with fail
    refine (fail_any P 3 s' _ HR1.out).mono ?_
    rintro e w2 ⟨rfl, h2, hf2⟩
    have hne := failed_e (s := s') 3 (by decide)
    obtain ⟨g, off, cap, N, nn, ha⟩ := h2.at
    have c4 := ha.c4
    have hlw := ha.lt
    have HG2 := Hd (HG1.out.keep hf2 (fun g hg => by simp; omega))
    have HF2 := Hd (HF1.out.trans hf2)
    have H2 := Hd h2
    have HS := Hd (HK.out acc (failed 3 s') (St.bad (by decide) (fun _ => bnd_err (tag_err3 hkk (by rw [HQ.out.2]; exact hbig))) _))
    clear ha h2 hf2
    go_wp2_with fail
    go_ret
    exact ⟨acc, _, _, rfl, Gr.flat HG2.out, H2.out, HS.out, HD.out.trans (Dp.failed HD.out.wd 3), HF2.out⟩
   ·by_cases h0 : s'.e = 0
    ·
     have HST := Hd (St.tag h0 hkk (by rw [HQ.out.2]; exact hbig))
     have hn6 : (now s').kind ≠ 6 := by rw [hkk]; decide
     obtain ⟨g, off, cap, N, nn, ha⟩ := HR1.out.at
     have c4 := ha.c4
     rw [h0] at c4
     have hlw := ha.lt
     clear ha
     go_upto_region 7 with fail
     generalize w1.alloc (.cells #[.int .i64 3, .string ⟨tt.toArray⟩, .int .i64 ti, .int .i64 tp] 45) = wa at HT HR1 HG1 HF1 hsz c4 hlw ⊢
     have t2 := HT.out.cell 2
     simp only [List.getElem?_cons_zero, List.getElem?_cons_succ] at t2
     obtain ⟨⟨cs, hRL, hROW⟩, hOWN⟩ := HG1.out
     have HRL := Hd hRL
     have HROW := Hd hROW
     have HOWN := Hd hOWN
     have HROW3 := Hd (hROW.keep ((Fr.refl [] wa).alloc (.cells #[.int .u16 (ti % 65536)] 58)) (by simp))
     obtain ⟨hmx, hby⟩ := Px.lim96 (n := acc.length) (b := 2) (by omega) (by omega)
     have hgT := HT.out.lt
     clear hRL hROW hOWN
     go_wp2_with (at_builtin; refine wpList_append_row rfl _ _ 24 rfl 58 i0 (.int .u16 0) 1 2 Tryz.underlying24 hi hz0 hz1 hz2 rfl (by decide) u3 acc.length cs rfl HROW3.out ⟨wa.heap.size, 0, none⟩ 1 1 [.int .u16 (ti % 65536)] rfl rfl ?c1 ?c2 hmx hby ?_)
     case c1 => exact Lx.four_new wa 58 [.int .u16 (ti % 65536)]
     case c2 => simp [Value.oneCell']
     intro v' w4 hr' hf' hb'
     have hx : kTag.E (fun b => w.heap.size <= b /\ u3.ownBlock ≠ some b) wa (ti % 65536) [.int .u16 (ti % 65536)] := rfl
     obtain ⟨st1, st2⟩ := Gr.push (x := ti % 65536) HRL.out HROW.out HOWN.out (by omega) hx hr' hf' hb'
     have HG4 : Hid (Gr kTag 58 w.heap.size w4 v' (acc ++ [ti % 65536])) := Hd st1
     have HF4 : Hid (Fr [some P] w w4) := Hd (st2 (Nat.le_refl _) HF1.out)
     have HR4 : Hid (RR w4 P s') := Hd ((HR1.out.alloc _).keepP hf' (fun g hg => by simp; intro h; have := HOWN.out g h.symm; omega))
     clear hr' hf' hb' st1 st2 HROW3 HRL HROW HOWN hx
     go_wp2_with fail
     refine (next_any P s' _ HR4.out hn6).mono ?_
     rintro e w5 ⟨rfl, h5, hf5⟩
     have H5 := Hd h5
     have HG5 := Hd (HG4.out.keep hf5 (fun g hg => by simp; omega))
     have HF5 := Hd (HF4.out.trans hf5)
     clear h5 hf5
     have hls : (skip s').l.length = s'.l.length - 1 := (by simp [skip])
     go_wp2_with fail
     refine (take_any P [44] (skip s') _ H5.out).mono ?_
     rintro e w6 ⟨rfl, h6, hf6⟩
     have HG6 := Hd (HG5.out.keep hf6 (fun g hg => by simp; omega))
     have HF6 := Hd (HF5.out.trans hf6)
     have HDs := Hd (HD.out.trans (Dp.skip HD.out.wd))
     rw [HQ.out.2] at HST
     cases ht : taken [44] (skip s') with
     |true =>
      have H7 : Hid (RR w6 P (skip (skip s'))) := Hd (by rw [took, ht] at h6; exact h6)
      have hlt := skip_lt ht
      have HT2 := Hd ht
      have HK2 : Hid (∀ b s3, St (fun _ => CM.bnd CM.tag (fun x => moreL CM.tag (acc ++ [ti % 65536] ++ [x]))) (skip (skip s')) b s3 -> St (fun _ => CM.list CM.tag) s b s3) := Hd (fun b s3 h => HK.out b s3 (St.bnd (d := fun x _ => moreL CM.tag (acc ++ [x])) HST.out (St.more_go (one := fun _ => CM.tag) (fun _ => ng_tag) HT2.out h)))
      have HME : Hid (meaR P w6 < meaR P wr) := Hd (by rw [HMEA.out, meaR_of H7.out]; omega)
      have hl2 : (acc ++ [ti % 65536]).length + (skip (skip s')).l.length <= 1000 := by simp only [List.length_append, List.length_cons, List.length_nil]; omega
      clear h6 hf6 ht
      go_wp2_with fail
      go_roundw
      case rel => exact ⟨acc ++ [ti % 65536], skip (skip s'), HK2, Hd (HDs.out.trans (Dp.skip HDs.out.wd)), hl2, HG6, H7, HF6⟩
      case measure => exact HME.out
     |false =>
      have H7 : Hid (RR w6 P (skip s')) := Hd (by rw [took, ht] at h6; exact h6)
      have HS := Hd (HK.out (acc ++ [ti % 65536]) (skip s') (St.bnd (d := fun x _ => moreL CM.tag (acc ++ [x])) HST.out (St.more_end (one := fun _ => CM.tag) ht)))
      clear h6 hf6 ht
      go_wp2_with fail
      go_ret
      exact ⟨_, _, _, rfl, Gr.flat HG6.out, H7.out, HS.out, HDs.out, HF6.out⟩
    ·
     obtain ⟨g, off, cap, N, nn, ha⟩ := HR1.out.at
     have c4 := ha.c4
     have hlw := ha.lt
     clear ha
     go_upto_region 7 with fail
     generalize w1.alloc (.cells #[.int .i64 3, .string ⟨tt.toArray⟩, .int .i64 ti, .int .i64 tp] 45) = wa at HT HR1 HG1 HF1 hsz c4 hlw ⊢
     have HS := Hd (HK.out acc s' (St.dead h0 acc))
     go_wp2_with fail
     go_ret
     exact ⟨acc, _, _, rfl, Gr.flat HG1.out, HR1.out, HS.out, HD.out, HF1.out⟩
  ·
   go_upto_region 4 with fail
   generalize w1.alloc (.cells #[.int .i64 tk, .string ⟨tt.toArray⟩, .int .i64 ti, .int .i64 tp] 45) = wa at HT HR1 HG1 HF1 hsz ⊢
   go_wp2_with fail
   refine (fail_any P 5 s' _ HR1.out).mono ?_
   rintro e w2 ⟨rfl, h2, hf2⟩
   have hne := failed_e (s := s') 5 (by decide)
   obtain ⟨g, off, cap, N, nn, ha⟩ := h2.at
   have c4 := ha.c4
   have hlw := ha.lt
   have HG2 := Hd (HG1.out.keep hf2 (fun g hg => by simp; omega))
   have HF2 := Hd (HF1.out.trans hf2)
   have H2 := Hd h2
   have HS := Hd (HK.out acc (failed 5 s') (St.bad (by decide) (fun _ => bnd_err (tag_err5 (by rw [HQ.out.1]; exact hk3))) _))
   clear ha h2 hf2
   go_wp2_with fail
   go_ret
   exact ⟨acc, _, _, rfl, Gr.flat HG2.out, H2.out, HS.out, HD.out.trans (Dp.failed HD.out.wd 5), HF2.out⟩
set_option maxRecDepth 1000000 in
set_option maxHeartbeats 4000000 in
theorem where_any (n : Nat) (P : Nat) (s : PS) (w : World) (h : RR w P s) (hw : Wd s) (hn : s.l.length <= n) :
  Calls Tryz.prog 115 #[.pointer (some ⟨P, 0, none⟩)] w fun e w' => ∃ (l : List Ex) (v : Value) (s' : PS), e = .returned v /\ Rep.Es 82 (fun b => w.heap.size <= b) w' l v /\ RR w' P s' /\ St (fun d => CM.wheres n d) s l s' /\ Dp s s' /\ Fr [some P] w w' := by
 have hPl := h.lt
 have HR := Hd h
 have HW := Hd hw
 clear h hw
 go_enter Tryz.func115, Tryz.ntmps115
 go_wp2_with fail
 refine (take_any P [119, 104, 101, 114, 101] s _ HR.out).mono ?_
 rintro e w1 ⟨rfl, h1, hf1⟩
 have HF1 := Hd hf1
 have hs1 := hf1.size
 clear hf1
 cases ht : taken [119, 104, 101, 114, 101] s with
 |true =>
  have H1 : Hid (RR w1 P (skip s)) := Hd (by rw [took, ht] at h1; exact h1)
  have hlt := skip_lt ht
  have HT := Hd ht
  clear h1 ht
  go_wp2_with fail
  refine (exp_any n P (skip s) _ H1.out (Dp.skip HW.out).wd (by omega)).mono ?_
  rintro e w2 ⟨x, s2, xs, rfl, hx, h2, hst, hd, hf2⟩
  obtain ⟨op, kind, int, t, tb, nm, va, vl, vc, rfl⟩ := e_form hx
  have HX := Hd (Rep.E.mono (A' := fun b => w.heap.size <= b) (fun g hg => by omega) hx)
  have H2 := Hd (h2.alloc (.cells #[.int .i64 op, .int .i64 kind, .int .i64 int, .string ⟨t.toArray⟩, .string ⟨tb.toArray⟩, .string ⟨nm.toArray⟩, .slice va vl vc] 82))
  have HF2 := Hd ((HF1.out.trans hf2).alloc (.cells #[.int .i64 op, .int .i64 kind, .int .i64 int, .string ⟨t.toArray⟩, .string ⟨tb.toArray⟩, .string ⟨nm.toArray⟩, .slice va vl vc] 82))
  have hs2 := hf2.size
  have HS : Hid (St (fun d => CM.wheres n d) s [x] s2) := Hd (St.opt (fun _ => St.map (fun x => [x]) hst) (fun h => absurd h (by rw [show ([119, 104, 101, 114, 101] : B) = [119, 104, 101, 114, 101] from rfl, HT.out]; decide)))
  have HD := Hd ((Dp.skip HW.out).trans hd)
  clear hx h2 hf2 hst hd
  go_wp2_with fail
  go_ret
  refine ⟨[x], _, s2, rfl, ?_, H2.out, HS.out, HD.out, HF2.out⟩
  have hL : Rep.L 82 (fun g => w.heap.size <= g) w2 [x] ([.int .i64 op, .int .i64 kind, .int .i64 int, .string ⟨t.toArray⟩, .string ⟨tb.toArray⟩, .string ⟨nm.toArray⟩, .slice va vl vc] ++ []) := .cons x [] _ [] HX.out .nil
  rw [List.append_nil] at hL
  exact es_mk hL (by omega) (by simp [maxLen])
 |false =>
  have H1 : Hid (RR w1 P s) := Hd (by rw [took, ht] at h1; exact h1)
  have HS : Hid (St (fun d => CM.wheres n d) s [] s) := Hd (St.opt (fun h => absurd h (by rw [show ([119, 104, 101, 114, 101] : B) = [119, 104, 101, 114, 101] from rfl, ht]; decide)) (fun _ => St.ret _ _))
  clear h1 ht
  go_wp2_with fail
  go_ret
  exact ⟨[], _, s, rfl, Rep.Es.nil, H1.out, HS.out, Dp.refl HW.out, HF1.out⟩
theorem ret_cellCol {fn : Func} {n : Nat} (h : fn.results = #[.cell n 57]) (tmps : Array Value) (T : Nat) (h2 : tmps.getD n undef = .pointer (some ⟨T, 0, none⟩)) (w : World) (a0 a1 a2 : Value) (hb : Blk w T 57 [a0, a1, a2]) :
  (results fn tmps).run Tryz.prog w = .ok (.agg #[a0, a1, a2]) w := by
 have c0 := hb.cell 0
 have c1 := hb.cell 1
 have c2 := hb.cell 2
 simp only [List.getElem?_cons_zero, List.getElem?_cons_succ] at c0 c1 c2
 have h2' : tmps[n]?.getD undef = .pointer (some ⟨T, 0, none⟩) := by simpa using h2
 simp [results, h, h2', go_sem, c0, c1, c2]
def putCol (w : World) (T : Nat) (a0 a1 a2 : Value) : World := (((w.setCell ⟨T, 0, none⟩ a0).setCell ⟨T, 1, none⟩ a1).setCell ⟨T, 2, none⟩ a2)
theorem frPutCol {X : List (Option Nat)} {z w : World} {T : Nat} (h : Fr X z w) (hT : some T ∈ X \/ z.heap.size <= T) (a0 a1 a2 : Value) : Fr X z (putCol w T a0 a1 a2) := (((h.setCell (p := ⟨T, 0, none⟩) hT a0).setCell (p := ⟨T, 1, none⟩) hT a1).setCell (p := ⟨T, 2, none⟩) hT a2)
theorem blkPutCol {w : World} {T : Nat} {x0 x1 x2 : Value} (h : Blk w T 57 [x0, x1, x2]) (a0 a1 a2 : Value) : Blk (putCol w T a0 a1 a2) T 57 [a0, a1, a2] := (((h.set 0 a0).set 1 a1).set 2 a2)
structure CCol (w : World) (T : Nat) (a0 a1 a2 : Value) : Prop where
 c0 : w.cell? ⟨T, 0, none⟩ = some a0
 c1 : w.cell? ⟨T, 1, none⟩ = some a1
 c2 : w.cell? ⟨T, 2, none⟩ = some a2
 f0 : w.frozen? ⟨T, 0, none⟩ = false
 f1 : w.frozen? ⟨T, 1, none⟩ = false
 f2 : w.frozen? ⟨T, 2, none⟩ = false
theorem cCol_of {w : World} {T : Nat} {a0 a1 a2 : Value} (h : Blk w T 57 [a0, a1, a2]) : CCol w T a0 a1 a2 :=
 ⟨h.cell 0, h.cell 1, h.cell 2, h.free 0, h.free 1, h.free 2⟩
theorem ret_cellIt {fn : Func} {n : Nat} (h : fn.results = #[.cell n 60]) (tmps : Array Value) (T : Nat) (h2 : tmps.getD n undef = .pointer (some ⟨T, 0, none⟩)) (w : World) (a0 a1 a2 : Value) (hb : Blk w T 60 [a0, a1, a2]) :
  (results fn tmps).run Tryz.prog w = .ok (.agg #[a0, a1, a2]) w := by
 have c0 := hb.cell 0
 have c1 := hb.cell 1
 have c2 := hb.cell 2
 simp only [List.getElem?_cons_zero, List.getElem?_cons_succ] at c0 c1 c2
 have h2' : tmps[n]?.getD undef = .pointer (some ⟨T, 0, none⟩) := by simpa using h2
 simp [results, h, h2', go_sem, c0, c1, c2]
def putIt (w : World) (T : Nat) (a0 a1 a2 : Value) : World := (((w.setCell ⟨T, 0, none⟩ a0).setCell ⟨T, 1, none⟩ a1).setCell ⟨T, 2, none⟩ a2)
theorem frPutIt {X : List (Option Nat)} {z w : World} {T : Nat} (h : Fr X z w) (hT : some T ∈ X \/ z.heap.size <= T) (a0 a1 a2 : Value) : Fr X z (putIt w T a0 a1 a2) := (((h.setCell (p := ⟨T, 0, none⟩) hT a0).setCell (p := ⟨T, 1, none⟩) hT a1).setCell (p := ⟨T, 2, none⟩) hT a2)
theorem blkPutIt {w : World} {T : Nat} {x0 x1 x2 : Value} (h : Blk w T 60 [x0, x1, x2]) (a0 a1 a2 : Value) : Blk (putIt w T a0 a1 a2) T 60 [a0, a1, a2] := (((h.set 0 a0).set 1 a1).set 2 a2)
structure CIt (w : World) (T : Nat) (a0 a1 a2 : Value) : Prop where
 c0 : w.cell? ⟨T, 0, none⟩ = some a0
 c1 : w.cell? ⟨T, 1, none⟩ = some a1
 c2 : w.cell? ⟨T, 2, none⟩ = some a2
 f0 : w.frozen? ⟨T, 0, none⟩ = false
 f1 : w.frozen? ⟨T, 1, none⟩ = false
 f2 : w.frozen? ⟨T, 2, none⟩ = false
theorem cIt_of {w : World} {T : Nat} {a0 a1 a2 : Value} (h : Blk w T 60 [a0, a1, a2]) : CIt w T a0 a1 a2 :=
 ⟨h.cell 0, h.cell 1, h.cell 2, h.free 0, h.free 1, h.free 2⟩
theorem St.opt1 {α : Type} {w : B} {f g : Int -> CM.P α} {s s1 : PS} {a : α} (ht : taken w s = true) (h : St f (skip s) a s1) : St (fun d => CM.opt w (f d) (g d)) s a s1 := St.opt (fun _ => h) (fun e => absurd e (by rw [ht]; decide))
theorem St.opt2 {α : Type} {w : B} {f g : Int -> CM.P α} {s s1 : PS} {a : α} (ht : taken w s = false) (h : St g s a s1) : St (fun d => CM.opt w (f d) (g d)) s a s1 := St.opt (fun e => absurd e (by rw [ht]; decide)) (fun _ => h)
theorem St.kind2 (s : PS) : St (fun _ => CM.opt [116, 101, 120, 116] (CM.ret (2 : Int)) (CM.err 5)) s 2 (musted [116, 101, 120, 116] s) := by
 unfold musted
 cases h : taken [116, 101, 120, 116] s with
 |true => rw [if_pos rfl]; exact St.opt1 (f := fun _ => CM.ret 2) (g := fun _ => CM.err 5) h (St.ret _ _)
 |false => rw [if_neg (by decide)]; exact St.opt2 (f := fun _ => CM.ret 2) (g := fun _ => CM.err 5) h (St.fail 5 (by decide) 2 s)
set_option maxRecDepth 1000000 in
set_option maxHeartbeats 4000000 in
theorem col_any (P : Nat) (s : PS) (w : World) (h : RR w P s) (hw : Wd s) :
  Calls Tryz.prog 112 #[.pointer (some ⟨P, 0, none⟩)] w fun e w' => ∃ (x : Col) (s' : PS), e = .returned (.agg (Px.colC x).toArray) /\ RR w' P s' /\ St (fun _ => CM.col) s x s' /\ Dp s s' /\ Fr [some P] w w' := by
 have hPl := h.lt
 have HR := Hd h
 have HW := Hd hw
 clear h hw
 go_enter Tryz.func112, Tryz.ntmps112
 go_wp2_with fail
 refine (name_any P s _ (HR.out.alloc _)).mono ?_
 rintro e w1 ⟨m, rfl, h1, hst1, hf1⟩
 have HB1 := Hd ((Blk.new w 57 [.string ⟨#[]⟩, .int .i64 0, .string ⟨#[]⟩]).keep hf1 (by simp; omega))
 have HF1 := Hd (((Fr.refl [some P] w).alloc (.cells #[.string ⟨#[]⟩, .int .i64 0, .string ⟨#[]⟩] 57)).trans hf1)
 have HST1 := Hd hst1
 have HD1 := Hd (Dp.worded HW.out 1)
 have hl1 := HB1.out.lt
 have hp1 := h1.lt
 have H1 := Hd h1
 obtain ⟨s1, hs1⟩ : ∃ z, worded 1 s = z := ⟨_, rfl⟩
 rw [hs1] at H1 HST1 HD1
 clear h1 hst1 hf1 hs1
 have hXa := (Fr.refl [some P] w1).alloc (.cells #[.string ⟨m.toArray⟩, .int .i64 0, .string ⟨#[]⟩] 57)
 have HX1 := Hd (Blk.new w1 57 [.string ⟨m.toArray⟩, .int .i64 0, .string ⟨#[]⟩])
 go_wp2_with fail
 refine (take_any P [105, 110, 116] s1 _ (H1.out.alloc _)).mono ?_
 rintro e w2 ⟨rfl, h2, hf2⟩
 have HX2 := Hd (HX1.out.keep hf2 (by simp; omega))
 have HB2 := Hd (HB1.out.keep (hXa.trans hf2) (by simp; omega))
 have HF2 := Hd (HF1.out.trans (hXa.trans hf2))
 have H2 := Hd h2
 have hl2 := HX2.out.lt
 have hp2 := h2.lt
 clear hXa hf2 h2 HX1 HB1
 have hnX : ¬ P = w1.heap.size := by omega
 have hnR : ¬ P = w.heap.size := by omega
 have hnXR : ¬ w1.heap.size = w.heap.size := by omega
 have hnRX : ¬ w.heap.size = w1.heap.size := by omega
 cases ht : taken [105, 110, 116] s1 with
 |true =>
  have HT := Hd ht
  have H3 : Hid (RR w2 P (skip s1)) := Hd (by have := H2.out; rw [took, ht] at this; exact this)
  have HSK : Hid (St (fun _ => CM.colKind) s1 1 (skip s1)) := Hd (St.opt1 (f := fun _ => CM.ret 1) (g := fun _ => CM.opt [116, 101, 120, 116] (CM.ret 2) (CM.err 5)) HT.out (St.ret _ _))
  have HDK := Hd (Dp.skip HD1.out.wd)
  clear ht H2
  have x1 := HX2.out.cell 1
  have f1 := HX2.out.free 1
  simp only [List.getElem?_cons_zero, List.getElem?_cons_succ] at x1
  have HX3 := HX2
  have HB3 := HB2
  have HF3 := HF2
  have hl3 := hl2
  have hp3 := hp2
  obtain ⟨s2, hs2⟩ : ∃ z, skip s1 = z := ⟨_, rfl⟩
  rw [hs2] at H3 HSK HDK
  obtain ⟨w3, hw3⟩ : ∃ z, z = w2 := ⟨_, rfl⟩
  subst hw3
  clear hs2 HX2 HB2 HF2 hl2 hp2
  have hfs := (Fr.refl [some w1.heap.size] w3).setCell (p := ⟨w1.heap.size, 1, none⟩) (.inl (by simp)) (.int .i64 1)
  have H4 := Hd (H3.out.keepP hfs (fun g hg => by simp; omega))
  have HX4 := Hd (HX3.out.set 1 (.int .i64 1))
  have HB4 := Hd (HB3.out.keep hfs (by simp; omega))
  have HF4 : Hid (Fr [some P] w (w3.setCell ⟨w1.heap.size, 1, none⟩ (.int .i64 1))) := Hd (HF3.out.trans' hfs (fun i hi => .inr (by simp at hi; omega)))
  have hsz4 : (w3.setCell ⟨w1.heap.size, 1, none⟩ (.int .i64 1)).heap.size = w3.heap.size := by simp [World.setCell]
  simp only [List.set_cons_succ, List.set_cons_zero] at HX4
  go_upto_region 6 with fail
  generalize (w3.setCell ⟨w1.heap.size, 1, none⟩ (.int .i64 1)) = w4 at H4 HX4 HB4 HF4 hsz4 ⊢
  clear hfs x1 f1 H3 HX3 HB3 HF3
  go_wp2_with fail
  refine (take_any P [114, 101, 102] s2 _ H4.out).mono ?_
  rintro e w5 ⟨rfl, h5, hf5⟩
  have HX5 := Hd (HX4.out.keep hf5 (by simp; omega))
  have HB5 := Hd (HB4.out.keep hf5 (by simp; omega))
  have HF5 := Hd (HF4.out.trans hf5)
  have hl5 := HX5.out.lt
  have hb5 := HB5.out.lt
  have hp5 := h5.lt
  cases hr : taken [114, 101, 102] s2 with
  |true =>
   have HT2 := Hd hr
   have H6 : Hid (RR w5 P (skip s2)) := Hd (by rw [took, hr] at h5; exact h5)
   clear hr h5 hf5
   go_wp2_with fail
   refine (name_any P (skip s2) _ H6.out).mono ?_
   rintro e w6 ⟨r, rfl, h6, hst6, hf6⟩
   have HX6 := Hd (HX5.out.keep hf6 (by simp; omega))
   have HB6 := Hd (HB5.out.keep hf6 (by simp; omega))
   have HF6 := Hd (HF5.out.trans hf6)
   have hl6 := HX6.out.lt
   have hb6 := HB6.out.lt
   have H7 := Hd h6
   have HST6 := Hd hst6
   have HD6 := Hd (HD1.out.trans (HDK.out.trans ((Dp.skip HDK.out.wd).trans (Dp.worded (Dp.skip HDK.out.wd).wd 1))))
   clear h6 hst6 hf6
   have HS : Hid (St (fun _ => CM.col) s ⟨m, 1, r⟩ (worded 1 (skip s2))) := Hd (St.bnd HST1.out (St.bnd HSK.out (St.opt1 HT2.out (St.bnd HST6.out (St.ret _ _)))))
   obtain ⟨x0, x1, x2, f0, f1, f2⟩ := cCol_of HX6.out
   obtain ⟨y0, y1, y2, k0, k1, k2⟩ := cCol_of HB6.out
   go_wp2_with fail
   have hfr := (Fr.refl [some w1.heap.size] w6).setCell (p := ⟨w1.heap.size, 2, none⟩) (.inl (by simp)) (.string ⟨r.toArray⟩)
   refine bodyPost_ret (ret_cellCol rfl _ w.heap.size rfl _ _ _ _ (blkPutCol (HB6.out.keep hfr (by simp; omega)) _ _ _)) rfl ⟨⟨m, 1, r⟩, _, rfl, (H7.out.keepP hfr (fun g hg => by simp; omega)).keepP (frPutCol (Fr.refl [some w.heap.size] _) (.inl (by simp)) _ _ _) (fun g hg => by simp; omega), HS.out, HD6.out, frPutCol (HF6.out.trans' hfr (fun i hi => .inr (by simp at hi; omega))) (.inr (Nat.le_refl _)) _ _ _⟩
  |false =>
   have HT2 := Hd hr
   have H6 : Hid (RR w5 P s2) := Hd (by rw [took, hr] at h5; exact h5)
   clear hr h5 hf5
   have HS : Hid (St (fun _ => CM.col) s ⟨m, 1, []⟩ s2) := Hd (St.bnd HST1.out (St.bnd HSK.out (St.opt2 HT2.out (St.ret _ _))))
   have HD6 := Hd (HD1.out.trans HDK.out)
   obtain ⟨x0, x1, x2, f0, f1, f2⟩ := cCol_of HX5.out
   obtain ⟨y0, y1, y2, k0, k1, k2⟩ := cCol_of HB5.out
   go_wp2_with fail
   exact bodyPost_ret (ret_cellCol rfl _ w.heap.size rfl _ _ _ _ (blkPutCol HB5.out _ _ _)) rfl ⟨⟨m, 1, []⟩, _, rfl, H6.out.keepP (frPutCol (Fr.refl [some w.heap.size] _) (.inl (by simp)) _ _ _) (fun g hg => by simp; omega), HS.out, HD6.out, frPutCol HF5.out (.inr (Nat.le_refl _)) _ _ _⟩
 |false =>
  have HT := Hd ht
  have H3 : Hid (RR w2 P s1) := Hd (by have := H2.out; rw [took, ht] at this; exact this)
  clear ht H2
  go_wp2_with fail
  refine (must_any P [116, 101, 120, 116] s1 _ H3.out).mono ?_
  rintro e w3 ⟨rfl, h3, hf3⟩
  have HX3 := Hd (HX2.out.keep hf3 (by simp; omega))
  have HB3 := Hd (HB2.out.keep hf3 (by simp; omega))
  have HF3 := Hd (HF2.out.trans hf3)
  have hl3 := HX3.out.lt
  have hp3 := h3.lt
  have HSK : Hid (St (fun _ => CM.colKind) s1 2 (musted [116, 101, 120, 116] s1)) := Hd (St.opt2 (f := fun _ => CM.ret 1) (g := fun _ => CM.opt [116, 101, 120, 116] (CM.ret 2) (CM.err 5)) HT.out (St.kind2 s1))
  have HDK := Hd (Dp.musted HD1.out.wd [116, 101, 120, 116])
  clear H3
  have H3 := Hd h3
  obtain ⟨s2, hs2⟩ : ∃ z, musted [116, 101, 120, 116] s1 = z := ⟨_, rfl⟩
  rw [hs2] at H3 HSK HDK
  clear h3 hf3 hs2 HX2 HB2 HF2 hl2 hp2
  have x1 := HX3.out.cell 1
  have f1 := HX3.out.free 1
  simp only [List.getElem?_cons_zero, List.getElem?_cons_succ] at x1
  have hfs := (Fr.refl [some w1.heap.size] w3).setCell (p := ⟨w1.heap.size, 1, none⟩) (.inl (by simp)) (.int .i64 2)
  have H4 := Hd (H3.out.keepP hfs (fun g hg => by simp; omega))
  have HX4 := Hd (HX3.out.set 1 (.int .i64 2))
  have HB4 := Hd (HB3.out.keep hfs (by simp; omega))
  have HF4 : Hid (Fr [some P] w (w3.setCell ⟨w1.heap.size, 1, none⟩ (.int .i64 2))) := Hd (HF3.out.trans' hfs (fun i hi => .inr (by simp at hi; omega)))
  have hsz4 : (w3.setCell ⟨w1.heap.size, 1, none⟩ (.int .i64 2)).heap.size = w3.heap.size := by simp [World.setCell]
  simp only [List.set_cons_succ, List.set_cons_zero] at HX4
  go_upto_region 6 with fail
  generalize (w3.setCell ⟨w1.heap.size, 1, none⟩ (.int .i64 2)) = w4 at H4 HX4 HB4 HF4 hsz4 ⊢
  clear hfs x1 f1 H3 HX3 HB3 HF3
  go_wp2_with fail
  refine (take_any P [114, 101, 102] s2 _ H4.out).mono ?_
  rintro e w5 ⟨rfl, h5, hf5⟩
  have HX5 := Hd (HX4.out.keep hf5 (by simp; omega))
  have HB5 := Hd (HB4.out.keep hf5 (by simp; omega))
  have HF5 := Hd (HF4.out.trans hf5)
  have hl5 := HX5.out.lt
  have hb5 := HB5.out.lt
  have hp5 := h5.lt
  cases hr : taken [114, 101, 102] s2 with
  |true =>
   have HT2 := Hd hr
   have H6 : Hid (RR w5 P (skip s2)) := Hd (by rw [took, hr] at h5; exact h5)
   clear hr h5 hf5
   go_wp2_with fail
   refine (name_any P (skip s2) _ H6.out).mono ?_
   rintro e w6 ⟨r, rfl, h6, hst6, hf6⟩
   have HX6 := Hd (HX5.out.keep hf6 (by simp; omega))
   have HB6 := Hd (HB5.out.keep hf6 (by simp; omega))
   have HF6 := Hd (HF5.out.trans hf6)
   have hl6 := HX6.out.lt
   have hb6 := HB6.out.lt
   have H7 := Hd h6
   have HST6 := Hd hst6
   have HD6 := Hd (HD1.out.trans (HDK.out.trans ((Dp.skip HDK.out.wd).trans (Dp.worded (Dp.skip HDK.out.wd).wd 1))))
   clear h6 hst6 hf6
   have HS : Hid (St (fun _ => CM.col) s ⟨m, 2, r⟩ (worded 1 (skip s2))) := Hd (St.bnd HST1.out (St.bnd HSK.out (St.opt1 HT2.out (St.bnd HST6.out (St.ret _ _)))))
   obtain ⟨x0, x1, x2, f0, f1, f2⟩ := cCol_of HX6.out
   obtain ⟨y0, y1, y2, k0, k1, k2⟩ := cCol_of HB6.out
   go_wp2_with fail
   have hfr := (Fr.refl [some w1.heap.size] w6).setCell (p := ⟨w1.heap.size, 2, none⟩) (.inl (by simp)) (.string ⟨r.toArray⟩)
   refine bodyPost_ret (ret_cellCol rfl _ w.heap.size rfl _ _ _ _ (blkPutCol (HB6.out.keep hfr (by simp; omega)) _ _ _)) rfl ⟨⟨m, 2, r⟩, _, rfl, (H7.out.keepP hfr (fun g hg => by simp; omega)).keepP (frPutCol (Fr.refl [some w.heap.size] _) (.inl (by simp)) _ _ _) (fun g hg => by simp; omega), HS.out, HD6.out, frPutCol (HF6.out.trans' hfr (fun i hi => .inr (by simp at hi; omega))) (.inr (Nat.le_refl _)) _ _ _⟩
  |false =>
   have HT2 := Hd hr
   have H6 : Hid (RR w5 P s2) := Hd (by rw [took, hr] at h5; exact h5)
   clear hr h5 hf5
   have HS : Hid (St (fun _ => CM.col) s ⟨m, 2, []⟩ s2) := Hd (St.bnd HST1.out (St.bnd HSK.out (St.opt2 HT2.out (St.ret _ _))))
   have HD6 := Hd (HD1.out.trans HDK.out)
   obtain ⟨x0, x1, x2, f0, f1, f2⟩ := cCol_of HX5.out
   obtain ⟨y0, y1, y2, k0, k1, k2⟩ := cCol_of HB5.out
   go_wp2_with fail
   exact bodyPost_ret (ret_cellCol rfl _ w.heap.size rfl _ _ _ _ (blkPutCol HB5.out _ _ _)) rfl ⟨⟨m, 2, []⟩, _, rfl, H6.out.keepP (frPutCol (Fr.refl [some w.heap.size] _) (.inl (by simp)) _ _ _) (fun g hg => by simp; omega), HS.out, HD6.out, frPutCol HF5.out (.inr (Nat.le_refl _)) _ _ _⟩
def agL : List Value := [.string ⟨#[115, 117, 109]⟩, .string ⟨#[109, 105, 110]⟩, .string ⟨#[109, 97, 120]⟩]
theorem agL_get {k : Nat} (h : k < 3) : agL[k]? = some (.string ⟨(CM.aggW k).toArray⟩) := by
 rcases (by omega : k = 0 \/ k = 1 \/ k = 2) with rfl | rfl | rfl <;> rfl
theorem aggW_agg {k : Nat} (h : k < 3) : CM.agg (CM.aggW k) = 2 + (k : Int) := by
 rcases (by omega : k = 0 \/ k = 1 \/ k = 2) with rfl | rfl | rfl <;> decide
theorem agg_none {w : B} (h : ∀ k, k < 3 -> w ≠ CM.aggW k) : CM.agg w = 0 := by
 unfold CM.agg
 rw [if_neg (show w ≠ [115, 117, 109] from h 0 (by decide)), if_neg (show w ≠ [109, 105, 110] from h 1 (by decide)), if_neg (show w ≠ [109, 97, 120] from h 2 (by decide))]
theorem aggW_ne (k : Nat) : CM.aggW k ≠ [] := by unfold CM.aggW; split <;> decide
abbrev itA (k : Int) (c : Ex) : It := ⟨k, CM.Ex.table c, CM.Ex.name c⟩
abbrev itC1 : It := ⟨1, [], []⟩
def itemR : CM.P It := fun l =>
 if CM.agg (CM.sign l) = 0 then CM.bnd CM.column (fun c => CM.ret (itA 0 c)) l
 else CM.bnd (CM.needs [[40]]) (fun _ => CM.bnd CM.column fun c => CM.bnd (CM.needs [[41]]) fun _ => CM.ret (itA (CM.agg (CM.sign l)) c)) l.tail
theorem St.item_hit {s s1 : PS} {c : Ex} {k : Nat} (hk : k < 3) (ht : taken (CM.aggW k) s = true) (h : St (fun _ => CM.column) (musted [40] (skip s)) c s1) : St (fun _ => itemR) s (itA (2 + (k : Int)) c) (musted [41] s1) := by
 obtain ⟨e0, hi⟩ := taken_pos ht
 refine St.at (c' := fun d l => CM.bnd (CM.needs [[40]]) (fun _ => CM.bnd CM.column fun c => CM.bnd (CM.needs [[41]]) fun _ => CM.ret (itA (2 + (k : Int)) c)) l.tail) (fun _ => by unfold itemR; rw [sign_is hi, aggW_agg hk, if_neg (by omega)]) ?_
 exact St.skipc (c := fun _ => CM.bnd (CM.needs [[40]]) (fun _ => CM.bnd CM.column fun c => CM.bnd (CM.needs [[41]]) fun _ => CM.ret (itA (2 + (k : Int)) c))) e0 (St.bnd (d := fun _ _ => CM.bnd CM.column fun c => CM.bnd (CM.needs [[41]]) fun _ => CM.ret (itA (2 + (k : Int)) c)) (St.needs1 [40] (skip s)) (St.bnd (d := fun c _ => CM.bnd (CM.needs [[41]]) fun _ => CM.ret (itA (2 + (k : Int)) c)) h (St.bnd (d := fun _ _ => CM.ret (itA (2 + (k : Int)) c)) (St.needs1 [41] s1) (St.ret _ _))))
theorem St.item_col {s s1 : PS} {c : Ex} (hn : ∀ j, j < 3 -> taken (CM.aggW j) s = false) (h : St (fun _ => CM.column) s c s1) : St (fun _ => itemR) s (itA 0 c) s1 := by
 refine St.at (c' := fun _ => CM.bnd CM.column (fun c => CM.ret (itA 0 c))) (fun e0 => by unfold itemR; rw [agg_none (fun k hk => sign_not (aggW_ne k) (taken_not (hn k hk) e0)), if_pos rfl]) ?_
 exact St.bnd (d := fun c _ => CM.ret (itA 0 c)) h (St.ret _ _)
theorem item_R : CM.item = CM.opt [99, 111, 117, 110, 116] (CM.bnd (CM.needs [[40], [42], [41]]) fun _ => CM.ret itC1) itemR := rfl
theorem St.item_count {s : PS} (ht : taken [99, 111, 117, 110, 116] s = true) : St (fun _ => CM.item) s itC1 (musted [41] (musted [42] (musted [40] (skip s)))) := by
 rw [item_R]
 refine St.opt1 (f := fun _ => CM.bnd (CM.needs [[40], [42], [41]]) fun _ => CM.ret itC1) (g := fun _ => itemR) ht ?_
 refine St.bnd (d := fun _ _ => CM.ret itC1) (a := ()) ?_ (St.ret _ _)
 exact St.bnd (d := fun _ _ => CM.needs [[42], [41]]) (St.must [40] (skip s)) (St.bnd (d := fun _ _ => CM.needs [[41]]) (St.must [42] _) (St.needs1 [41] _))
theorem St.item_rest {s s1 : PS} {x : It} (ht : taken [99, 111, 117, 110, 116] s = false) (h : St (fun _ => itemR) s x s1) : St (fun _ => CM.item) s x s1 := by
 rw [item_R]
 exact St.opt2 (f := fun _ => CM.bnd (CM.needs [[40], [42], [41]]) fun _ => CM.ret itC1) (g := fun _ => itemR) ht h
set_option maxRecDepth 1000000 in
set_option maxHeartbeats 4000000 in
theorem item_any (P : Nat) (s : PS) (w : World) (h : RR w P s) (hw : Wd s) :
  Calls Tryz.prog 113 #[.pointer (some ⟨P, 0, none⟩)] w fun e w' => ∃ (x : It) (s' : PS), e = .returned (.agg (Px.itC x).toArray) /\ RR w' P s' /\ St (fun _ => CM.item) s x s' /\ Dp s s' /\ Fr [some P] w w' := by
 have hPl := h.lt
 have HR := Hd h
 have HW := Hd hw
 have HB := Hd (Blk.new w 60 [.int .i64 0, .string ⟨#[]⟩, .string ⟨#[]⟩])
 have HF0 := Hd ((Fr.refl [some P] w).alloc (.cells #[.int .i64 0, .string ⟨#[]⟩, .string ⟨#[]⟩] 60))
 clear h hw
 go_enter Tryz.func113, Tryz.ntmps113
 go_wp2_with fail
 refine (take_any P [99, 111, 117, 110, 116] s _ (HR.out.alloc _)).mono ?_
 rintro e w1 ⟨rfl, h1, hf1⟩
 have HB1 := Hd (HB.out.keep hf1 (by simp; omega))
 have HF1 := Hd (HF0.out.trans hf1)
 have hl1 := HB1.out.lt
 have hp1 := h1.lt
 have H1 := Hd h1
 clear h1 hf1
 cases ht : taken [99, 111, 117, 110, 116] s with
 |true =>
  have HT := Hd ht
  have H2 : Hid (RR w1 P (skip s)) := Hd (by have := H1.out; rw [took, ht] at this; exact this)
  clear ht H1
  have HD0 := Hd (Dp.skip HW.out)
  go_wp2_with fail
  refine (must_any P [40] (skip s) _ H2.out).mono ?_
  rintro e w3 ⟨rfl, h, hf⟩
  have HB3 := Hd (HB1.out.keep hf (by simp; omega))
  have HF3 := Hd (HF1.out.trans hf)
  have H3 := Hd h
  have HD1 := Hd (HD0.out.trans (Dp.musted HD0.out.wd [40]))
  have hl3 := HB3.out.lt
  have hp3 := h.lt
  clear h hf
  go_wp2_with fail
  refine (must_any P [42] (musted [40] (skip s)) _ H3.out).mono ?_
  rintro e w4 ⟨rfl, h, hf⟩
  have HB4 := Hd (HB3.out.keep hf (by simp; omega))
  have HF4 := Hd (HF3.out.trans hf)
  have H4 := Hd h
  have HD2 := Hd (HD1.out.trans (Dp.musted HD1.out.wd [42]))
  have hl4 := HB4.out.lt
  have hp4 := h.lt
  clear h hf
  go_wp2_with fail
  refine (must_any P [41] (musted [42] (musted [40] (skip s))) _ H4.out).mono ?_
  rintro e w5 ⟨rfl, h, hf⟩
  have HB5 := Hd (HB4.out.keep hf (by simp; omega))
  have HF5 := Hd (HF4.out.trans hf)
  have H5 := Hd h
  have HD3 := Hd (HD2.out.trans (Dp.musted HD2.out.wd [41]))
  have hl5 := HB5.out.lt
  have hp5 := h.lt
  clear h hf
  have HS := Hd (St.item_count HT.out)
  obtain ⟨y0, y1, y2, k0, k1, k2⟩ := cIt_of HB5.out
  go_wp2_with fail
  exact bodyPost_ret (ret_cellIt rfl _ w.heap.size rfl _ _ _ _ (blkPutIt HB5.out _ _ _)) rfl ⟨⟨1, [], []⟩, _, rfl, H5.out.keepP (frPutIt (Fr.refl [some w.heap.size] _) (.inl (by simp)) _ _ _) (fun g hg => by simp; omega), HS.out, HD3.out, frPutIt HF5.out (.inr (Nat.le_refl _)) _ _ _⟩
 |false =>
  have HT := Hd ht
  have H2 : Hid (RR w1 P s) := Hd (by have := H1.out; rw [took, ht] at this; exact this)
  clear ht H1
  have hfa := (Fr.refl [some P] w1).alloc (.cells #[.string ⟨#[115, 117, 109]⟩, .string ⟨#[109, 105, 110]⟩, .string ⟨#[109, 97, 120]⟩] 9)
  have HRw := Hd (H2.out.alloc (.cells #[.string ⟨#[115, 117, 109]⟩, .string ⟨#[109, 105, 110]⟩, .string ⟨#[109, 97, 120]⟩] 9))
  have HBw := Hd (Blk.alloc HB1.out (.cells #[.string ⟨#[115, 117, 109]⟩, .string ⟨#[109, 105, 110]⟩, .string ⟨#[109, 97, 120]⟩] 9))
  have HOw := Hd (Blk.new w1 9 agL)
  have HFw := Hd (HF1.out.trans hfa)
  clear hfa
  go_wp2_with fail
  go_loopw [4] (fun i wr => ∃ k : Nat, i = .int .i64 k /\ k <= 3 /\ Hid (∀ j, j < k -> taken (CM.aggW j) s = false) /\ Hid (RR wr P s) /\ Hid (Blk wr w.heap.size 60 [.int .i64 0, .string ⟨#[]⟩, .string ⟨#[]⟩]) /\ Hid (Blk wr w1.heap.size 9 agL) /\ Hid (Fr [some P] w wr)) (fun i _ => 3 - (intOf i).toNat)
  case atStart => exact ⟨0, rfl, by decide, Hd (fun j hj => absurd hj (by omega)), HRw, HBw, HOw, HFw⟩
  case round =>
   clear HBw HOw HRw HFw H2 HB1 HF1 HB HF0 HR
   obtain ⟨k, rfl, hk3, HNO, HRr, HBr, HOr, HFr⟩ := hrel
   have hl2 := HBr.out.lt
   have hl3 := HRr.out.lt
   have hl4 := HOr.out.lt
   by_cases hk : k < 3
   ·have hk' : (k : Int) < 3 := by omega
    have hoc := HOr.out.cell k
    rw [agL_get hk] at hoc
    go_wp2_with fail
    refine (take_any P (CM.aggW k) s _ HRr.out).mono ?_
    rintro e w3 ⟨rfl, h3, hf3⟩
    have HB3 := Hd (HBr.out.keep hf3 (by simp; omega))
    have HO3 := Hd (HOr.out.keep hf3 (by simp; omega))
    have HF3 := Hd (HFr.out.trans hf3)
    have H3 := Hd h3
    have hb3 := HB3.out.lt
    have hp3 := h3.lt
    clear h3 hf3 hoc
    cases ht2 : taken (CM.aggW k) s with
    |true =>
     have HT2 := Hd ht2
     have H4 : Hid (RR w3 P (skip s)) := Hd (by have := H3.out; rw [took, ht2] at this; exact this)
     clear ht2 H3
     have HDk := Hd (Dp.skip HW.out)
     have hwr : IntKind.i64.wrap (2 + (k : Int)) = 2 + (k : Int) := IntWalk.i64_in _ ⟨by omega, by omega⟩
     clear hk3
     go_wp2_with fail
     refine (must_any P [40] (skip s) _ H4.out).mono ?_
     rintro e w4 ⟨rfl, h, hf⟩
     have HB4 := Hd (HB3.out.keep hf (by simp; omega))
     have HF4 := Hd (HF3.out.trans hf)
     have H5 := Hd h
     have HD4 := Hd (HDk.out.trans (Dp.musted HDk.out.wd [40]))
     have hb4 := HB4.out.lt
     have hp4 := h.lt
     clear h hf
     go_wp2_with fail
     refine (column_any P (musted [40] (skip s)) _ H5.out HD4.out.wd).mono ?_
     rintro e w5 ⟨x, s2, xs, rfl, hx, h, hst, hd, hf⟩
     obtain ⟨op, kind, int, t, tb, nm, args, va, vl, vc, rfl, rfl, _⟩ := e_cells hx
     have HB5 := Hd (HB4.out.keep hf (by simp; omega))
     have HF5 := Hd (HF4.out.trans hf)
     have H6 := Hd (h.alloc (.cells #[.int .i64 op, .int .i64 kind, .int .i64 int, .string ⟨t.toArray⟩, .string ⟨tb.toArray⟩, .string ⟨nm.toArray⟩, .slice va vl vc] 82))
     have HST5 := Hd hst
     have HD5 := Hd (HD4.out.trans hd)
     have hb5 := HB5.out.lt
     have hp5 := h.lt
     have hfa := (Fr.refl [some P] w5).alloc (.cells #[.int .i64 op, .int .i64 kind, .int .i64 int, .string ⟨t.toArray⟩, .string ⟨tb.toArray⟩, .string ⟨nm.toArray⟩, .slice va vl vc] 82)
     have HX5 := Hd (Blk.new w5 82 [.int .i64 op, .int .i64 kind, .int .i64 int, .string ⟨t.toArray⟩, .string ⟨tb.toArray⟩, .string ⟨nm.toArray⟩, .slice va vl vc])
     clear h hf hst hd hx
     go_wp2_with fail
     refine (must_any P [41] s2 _ H6.out).mono ?_
     rintro e w6 ⟨rfl, h, hf⟩
     have HB6 := Hd (HB5.out.keep (hfa.trans hf) (by simp; omega))
     have HF6 := Hd (HF5.out.trans (hfa.trans hf))
     have HX6 := Hd (HX5.out.keep hf (by simp; omega))
     have H7 := Hd h
     have HD6 := Hd (HD5.out.trans (Dp.musted HD5.out.wd [41]))
     have hb6 := HB6.out.lt
     have hp6 := h.lt
     clear h hf hfa
     have HS := Hd (St.item_rest HT.out (St.item_hit hk HT2.out HST5.out))
     obtain ⟨y0, y1, y2, k0, k1, k2⟩ := cIt_of HB6.out
     have x2 := HX6.out.cell 4
     have x3 := HX6.out.cell 5
     simp only [List.getElem?_cons_zero, List.getElem?_cons_succ] at x2 x3
     go_wp2_with fail
     exact bodyPost_ret (ret_cellIt rfl _ w.heap.size rfl _ _ _ _ (blkPutIt HB6.out _ _ _)) rfl ⟨⟨2 + (k : Int), tb, nm⟩, _, rfl, H7.out.keepP (frPutIt (Fr.refl [some w.heap.size] _) (.inl (by simp)) _ _ _) (fun g hg => by simp; omega), HS.out, HD6.out, frPutIt HF6.out (.inr (Nat.le_refl _)) _ _ _⟩
    |false =>
     have HT2 := Hd ht2
     have H4 : Hid (RR w3 P s) := Hd (by have := H3.out; rw [took, ht2] at this; exact this)
     clear ht2 H3
     go_wp2_with fail
     go_roundw
     case rel => exact ⟨k + 1, by go_num, by omega, Hd (fun j hj => by by_cases h : j < k; exact HNO.out j h; obtain rfl : j = k := (by omega); exact HT2.out), H4, HB3, HO3, HF3⟩
     case measure => simp only [intOf]; omega
   ·obtain rfl : k = 3 := by omega
    go_wp2_with fail
    refine (column_any P s _ HRr.out HW.out).mono ?_
    rintro e w5 ⟨x, s2, xs, rfl, hx, h, hst, hd, hf⟩
    obtain ⟨op, kind, int, t, tb, nm, args, va, vl, vc, rfl, rfl, _⟩ := e_cells hx
    have HB5 := Hd (HBr.out.keep hf (by simp; omega))
    have HF5 := Hd (HFr.out.trans hf)
    have hb5 := HB5.out.lt
    have hp5 := h.lt
    have HB6 := Hd (Blk.alloc HB5.out (.cells #[.int .i64 op, .int .i64 kind, .int .i64 int, .string ⟨t.toArray⟩, .string ⟨tb.toArray⟩, .string ⟨nm.toArray⟩, .slice va vl vc] 82))
    have H6 := Hd (h.alloc (.cells #[.int .i64 op, .int .i64 kind, .int .i64 int, .string ⟨t.toArray⟩, .string ⟨tb.toArray⟩, .string ⟨nm.toArray⟩, .slice va vl vc] 82))
    have HF6 := Hd (HF5.out.alloc (.cells #[.int .i64 op, .int .i64 kind, .int .i64 int, .string ⟨t.toArray⟩, .string ⟨tb.toArray⟩, .string ⟨nm.toArray⟩, .slice va vl vc] 82))
    have HX6 := Hd (Blk.new w5 82 [.int .i64 op, .int .i64 kind, .int .i64 int, .string ⟨t.toArray⟩, .string ⟨tb.toArray⟩, .string ⟨nm.toArray⟩, .slice va vl vc])
    have HS := Hd (St.item_rest HT.out (St.item_col HNO.out hst))
    have HD6 := Hd hd
    clear h hf hst hd hx
    go_upto_region 16 with fail
    generalize w5.alloc (.cells #[.int .i64 op, .int .i64 kind, .int .i64 int, .string ⟨t.toArray⟩, .string ⟨tb.toArray⟩, .string ⟨nm.toArray⟩, .slice va vl vc] 82) = w6 at HB6 H6 HF6 HX6 ⊢
    obtain ⟨y0, y1, y2, k0, k1, k2⟩ := cIt_of HB6.out
    have x2 := HX6.out.cell 4
    have x3 := HX6.out.cell 5
    simp only [List.getElem?_cons_zero, List.getElem?_cons_succ] at x2 x3
    go_wp2_with fail
    exact bodyPost_ret (ret_cellIt rfl _ w.heap.size rfl _ _ _ _ (blkPutIt HB6.out _ _ _)) rfl ⟨⟨0, tb, nm⟩, _, rfl, H6.out.keepP (frPutIt (Fr.refl [some w.heap.size] _) (.inl (by simp)) _ _ _) (fun g hg => by simp; omega), HS.out, HD6.out, frPutIt HF6.out (.inr (Nat.le_refl _)) _ _ _⟩
end Rf
end Go.Proofs.YtmdnhinpaflamaaGreatDoor
