/- parse: Parse. -/
import Derived.Test.YtmdnhinpaflamaaGreatDoorPaE
import Derived.Test.YtmdnhinpaflamaaGreatDoorLex
import Derived.RegionTactic
import Derived.Test.YtmdnhinpaflamaaGreatDoorBas
import Derived.Test.YtmdnhinpaflamaaGreatDoorPaA
import Derived.BigQuiet
import Derived.Deep.RegionWith
namespace Go.Proofs.YtmdnhinpaflamaaGreatDoor
open Go.RowKit
namespace Px
open LexM (Tok)
open PM (PS B Ex)
open Lx (toksC tokC LS LS_end LS_blank LS_tok tok_range at0)

theorem LS_last (S : List UInt8) : ∀ (n p : Nat) (l : List Tok), p ≤ S.length → S.length - p = n → LS S p = .inr l → l.getLast? = some ⟨6, [], 0, S.length⟩ := by
  intro n
  induction n using Nat.strongRecOn with
  | ind n ih =>
    intro p l hp hn h
    by_cases hlt : p < S.length
    · by_cases hb : at0 S p = 32
      · rw [LS_blank hlt hb] at h
        exact ih (S.length - (p + 1)) (by omega) (p + 1) l (by omega) rfl h
      · rw [LS_tok hlt hb] at h
        cases ht : LexM.tok1 p (S.drop p) with
        | inl e => rw [ht] at h; simp only [reduceCtorEq] at h
        | inr y =>
          obtain ⟨t, r⟩ := y
          obtain ⟨h1, h2, _⟩ := tok_range hlt ht
          rw [ht] at h
          simp only [] at h
          cases hr : LS S r with
          | inl e => rw [hr] at h; simp only [reduceCtorEq] at h
          | inr l' =>
            rw [hr] at h
            simp only [Sum.inr.injEq] at h
            have i1 := ih (S.length - r) (by omega) r l' h2 rfl hr
            subst h
            rw [List.getLast?_cons, i1]
            rfl
    · obtain rfl : p = S.length := by omega
      rw [LS_end] at h
      simp only [Sum.inr.injEq] at h
      subst h
      rfl
theorem lex_last {S : List UInt8} {l : List Tok} (h : LexM.lex S = .inr l) : l.getLast? = some ⟨6, [], 0, S.length⟩ := by
  unfold LexM.lex at h
  split at h
  · simp only [reduceCtorEq] at h
  · exact LS_last S _ 0 l (Nat.zero_le _) rfl h

/-- what Parse returns -/
def PaR (w w' : World) (e : Ending) : (Int × Int) ⊕ PM.St → Prop
  | .inl (q, x) => e = .returned (.tuple #[.agg z13.toArray, .int .i64 q, .int .i64 x]) ∧ Fr [] w w'
  | .inr st => ∃ cs, e = .returned (.tuple #[.agg cs.toArray, .int .i64 0, .int .i64 0]) ∧ SR (fun b => w.heap.size ≤ b) w' st cs ∧ Fr [] w w'

theorem ret3_cell13 {fn : Func} {n i j : Nat} (h : fn.results = #[.cell n 29, .tmp i, .tmp j]) (tmps : Array Value) (T : Nat) (h2 : tmps.getD n undef = .pointer (some ⟨T, 0, none⟩)) (u v : Value) (hu : tmps.getD i undef = u) (hv : tmps.getD j undef = v) (w : World) (a0 a1 a2 a3 a4 a5 a6 a7 a8 a9 a10 a11 a12 : Value) (hb : Blk w T 29 [a0, a1, a2, a3, a4, a5, a6, a7, a8, a9, a10, a11, a12]) :
    (results fn tmps).run Tryz.prog w = .ok (.tuple #[.agg #[a0, a1, a2, a3, a4, a5, a6, a7, a8, a9, a10, a11, a12], u, v]) w := by
  obtain ⟨c0, c1, c2, c3, c4, c5, c6, c7, c8, c9, c10, c11, c12, f0, f1, f2, f3, f4, f5, f6, f7, f8, f9, f10, f11, f12⟩ := c13_of hb
  have h2' : tmps[n]?.getD undef = .pointer (some ⟨T, 0, none⟩) := by simpa using h2
  have hu' : tmps[i]?.getD undef = u := by simpa using hu
  have hv' : tmps[j]?.getD undef = v := by simpa using hv
  clear h2 hu hv
  simp [results, h, h2', hu', hv', go_sem, c0, c1, c2, c3, c4, c5, c6, c7, c8, c9, c10, c11, c12]

set_option maxRecDepth 100000 in
set_option maxHeartbeats 4000000 in
theorem parse_bad (S : List UInt8) (w : World) (m : Int) (hm : w.cell? ⟨1, 0, none⟩ = some (.int .i64 m)) (h00 : 1 < w.heap.size) (hS : S.length ≤ 1000000) {q : Nat} {x : Int} (hl : LexM.lex S = .inl (q, x)) :
    Calls Tryz.prog 9 #[.string ⟨S.toArray⟩] w fun e w' => e = .returned (.tuple #[.agg z13.toArray, .int .i64 q, .int .i64 x]) ∧ Fr [] w w' := by
  have HL := Lib.hid hl
  have HC := Lib.hid (Lx.lex_any S (w.alloc (.cells z13.toArray 29)) m (by rw [(((Fr.refl [] w).alloc (.cells z13.toArray 29)).cell (p := ⟨1, 0, none⟩) h00 (by simp))]; exact hm) (by simp <;> omega) hS)
  have hx : (x != 0) = true := by simpa using Lx.lex_err hl
  clear hl hm
  go_enter Tryz.func9, Tryz.ntmps9
  go_wp2_with fail
  refine HC.out.mono ?_
  intro e w1 hA
  obtain ⟨rfl, hf1⟩ := Lx.lex_bad HL.out hA
  have HF := Lib.hid (((Fr.refl [] w).alloc (.cells z13.toArray 29)).trans hf1)
  have HR := Lib.hid ((Blk.new w 29 z13).keep hf1 (by simp))
  obtain ⟨c0, c1, c2, c3, c4, c5, c6, c7, c8, c9, c10, c11, c12, f0, f1, f2, f3, f4, f5, f6, f7, f8, f9, f10, f11, f12⟩ := c13_of HR.out
  clear hA hf1 HC
  go_wp2_with fail
  refine bodyPost_ret (ret3_cell13 rfl _ w.heap.size rfl _ _ rfl rfl _ _ _ _ _ _ _ _ _ _ _ _ _ _ (blkPut13 HR.out _ _ _ _ _ _ _ _ _ _ _ _ _)) rfl ⟨rfl, ?_⟩
  exact frPut13 HF.out (.inr (Nat.le_refl _)) _ _ _ _ _ _ _ _ _ _ _ _ _

set_option maxRecDepth 100000 in
set_option maxHeartbeats 8000000 in
theorem parse_good (S : List UInt8) (w : World) (m : Int) (hm : w.cell? ⟨1, 0, none⟩ = some (.int .i64 m)) (h00 : 1 < w.heap.size) (hS : S.length ≤ 1000000) {l : List Tok} (hl : LexM.lex S = .inr l) :
    Calls Tryz.prog 9 #[.string ⟨S.toArray⟩] w fun e w' => PaR w w' e (PM.parse S) := by
  have HL := Lib.hid hl
  have HC := Lib.hid (Lx.lex_any S (w.alloc (.cells z13.toArray 29)) m (by rw [(((Fr.refl [] w).alloc (.cells z13.toArray 29)).cell (p := ⟨1, 0, none⟩) h00 (by simp))]; exact hm) (by simp <;> omega) hS)
  obtain ⟨⟨st, s1⟩, hst⟩ : ∃ r, PM.stmt l.length ⟨l, 0, 0, 0⟩ = r := ⟨_, rfl⟩
  have HST := Lib.hid hst
  have hln := Lx.lex_ne hl
  have HLN := Lib.hid hln
  clear hl hm hst hln
  go_enter Tryz.func9, Tryz.ntmps9
  go_wp2_with fail
  refine HC.out.mono ?_
  intro e w1 hA
  obtain ⟨g, off, cap, rfl, hcap, hg1, hg2, hrow, -, hf1⟩ := Lx.lex_good HL.out hA
  have HROW := Lib.hid hrow
  simp only [World.size_alloc] at hg1
  have HF1 := Lib.hid (((Fr.refl [] w).alloc (.cells z13.toArray 29)).trans hf1)
  have HR1 := Lib.hid ((Blk.new w 29 z13).keep hf1 (by simp))
  have hlR1 := HR1.out.lt
  have HP : Hid (PR (w1.alloc (.cells #[.slice (some ⟨g, off, none⟩) l.length cap, .int .i64 0, .int .i64 0, .int .i64 0] 50)) w1.heap.size g ⟨l, 0, 0, 0⟩) := Lib.hid (by
    refine ⟨⟨off, cap, Blk.new w1 50 _, hrow.keep ((Fr.refl [] w1).alloc _) (by simp), hcap, ?_⟩, hg2, ⟨_, lex_last HL.out, rfl⟩⟩
    rcases hrow.form with ⟨h1, _, _⟩ | ⟨g', off', cap', h1, _, h2⟩
    · cases h1
    · cases h1; exact h2)
  clear hA hf1 HC hrow hcap
  go_wp2_with fail
  refine (stmt_any w1.heap.size g l.length ⟨l, 0, 0, 0⟩ _ HP.out (Int.le_refl _) (show (0 : Int) ≤ 64 by decide) (Nat.le_refl _) (by have := HLN.out.2; show l.length ≤ 1000; omega)).mono ?_
  rintro e w3 ⟨hx, h3, hf3⟩
  rw [HST.out] at hx h3
  dsimp only at hx h3
  obtain ⟨kind, table, name, join, a3, a4, a5, a6, a8, a9, a10, a12, l3, l4, l5, l6, l8, l9, l10, l12, c3, c4, c5, c6, c8, c9, c10, c12, desc, rfl, hrep⟩ := st_cells hx
  simp only [World.size_alloc] at hrep
  have HR3 := Lib.hid ((Blk.alloc HR1.out (.cells #[.slice (some ⟨g, off, none⟩) l.length cap, .int .i64 0, .int .i64 0, .int .i64 0] 50)).keep hf3 (by simp; omega))
  have HF3 : Hid (Fr [] w w3) := Lib.hid ((HF1.out.alloc _).trans' hf3 (fun i hi => .inr (by simp at hi; omega)))
  have hs3 := hf3.size
  simp only [World.size_alloc] at hs3
  obtain ⟨wS, hwS⟩ : ∃ wS, put13 w3 w.heap.size (.int .i64 kind) (.string ⟨table.toArray⟩) (.string ⟨name.toArray⟩) (.slice a3 l3 c3) (.slice a4 l4 c4) (.slice a5 l5 c5) (.slice a6 l6 c6) (.string ⟨join.toArray⟩) (.slice a8 l8 c8) (.slice a9 l9 c9) (.slice a10 l10 c10) (.bool desc) (.slice a12 l12 c12) = wS := ⟨_, rfl⟩
  have hfS : Fr [some w.heap.size] w3 wS := by rw [← hwS]; exact frPut13 (Fr.refl _ _) (.inl (by simp)) _ _ _ _ _ _ _ _ _ _ _ _ _
  have HRS : Hid (Blk wS w.heap.size 29 [.int .i64 kind, .string ⟨table.toArray⟩, .string ⟨name.toArray⟩, .slice a3 l3 c3, .slice a4 l4 c4, .slice a5 l5 c5, .slice a6 l6 c6, .string ⟨join.toArray⟩, .slice a8 l8 c8, .slice a9 l9 c9, .slice a10 l10 c10, .bool desc, .slice a12 l12 c12]) := Lib.hid (by rw [← hwS]; exact blkPut13 HR3.out _ _ _ _ _ _ _ _ _ _ _ _ _)
  have HPS := Lib.hid (h3.keep hfS (by simp; omega) (by simp; omega))
  have HXS := Lib.hid (SR.mono (A' := fun b => w1.heap.size < b) (fun b hb => by omega) (SR.keep hfS (fun b hb => by simp; omega) hrep))
  have HFS : Hid (Fr [] w wS) := Lib.hid (HF3.out.trans' hfS (fun i hi => .inr (by simp at hi; omega)))
  unfold put13 at hwS
  obtain ⟨r0, r1, r2, r3, r4, r5, r6, r7, r8, r9, r10, r11, r12, q0, q1, q2, q3, q4, q5, q6, q7, q8, q9, q10, q11, q12⟩ := c13_of HR3.out
  have hsS := hfS.size
  clear hx h3 hf3 hrep hfS
  obtain ⟨of2, cp2, hat⟩ := HPS.out.at
  obtain ⟨d0, d1, d2, d3, f0, f1, f2, f3, t0, t1, t2, t3, hcp, hpos, hlim⟩ := hat
  have hpi : (0 : Int) < (s1.l.length : Int) := by omega
  have hgS : g < wS.heap.size := by omega
  obtain ⟨kk, hkk⟩ : ∃ kk, s1.now.kind = kk := ⟨_, rfl⟩
  rw [hkk] at t0
  have HKK := Lib.hid hkk
  clear hkk f0 f1 f2 f3 t1 t2 t3 d1
  have hn1 : ¬ w1.heap.size = w.heap.size := by omega
  have hn2 : ¬ w.heap.size = w1.heap.size := by omega
  by_cases hk : kk = 6
  · have hkb : (kk != 6) = false := by simp [hk]
    obtain ⟨ee, hee⟩ : ∃ ee, s1.e = ee := ⟨_, rfl⟩
    obtain ⟨pp, hpp⟩ : ∃ pp, s1.pos = pp := ⟨_, rfl⟩
    rw [hee] at d3
    rw [hpp] at d2
    have HM : Hid (PM.parse S = (if ee ≠ 0 then .inl (pp, ee) else .inr st)) := Lib.hid (by
      rw [PM.parse, HL.out]
      simp only [HST.out]
      rw [if_neg (show ¬ s1.now.kind ≠ 6 from fun h => h (HKK.out.trans hk)), hee, hpp])
    clear hk hee hpp
    by_cases he : ee = 0
    · have heb : (ee != 0) = false := by simp [he]
      have HM2 : Hid (PM.parse S = .inr st) := Lib.hid (by rw [HM.out, if_neg (fun h => h he)])
      clear he d2
      obtain ⟨v0, v1, v2, v3, v4, v5, v6, v7, v8, v9, v10, v11, v12, y0, y1, y2, y3, y4, y5, y6, y7, y8, y9, y10, y11, y12⟩ := c13_of HRS.out
      go_wp2_with fail
      refine bodyPost_ret (ret3_cell13 rfl _ w.heap.size rfl _ _ rfl rfl _ _ _ _ _ _ _ _ _ _ _ _ _ _ (blkPut13 HRS.out _ _ _ _ _ _ _ _ _ _ _ _ _)) rfl ?_
      rw [HM2.out]
      exact ⟨_, rfl, SR.mono (fun b hb => by omega) (SR.keep (frPut13 (Fr.refl [some w.heap.size] _) (.inl (by simp)) _ _ _ _ _ _ _ _ _ _ _ _ _) (fun b hb => by simp; omega) HXS.out), frPut13 HFS.out (.inr (Nat.le_refl _)) _ _ _ _ _ _ _ _ _ _ _ _ _⟩
    · have heb : (ee != 0) = true := by simp [he]
      have HM2 : Hid (PM.parse S = .inl (pp, ee)) := Lib.hid (by rw [HM.out, if_pos he])
      clear he
      go_wp2_with fail
      clear hwS r0 q0 r1 q1 r2 q2 r3 q3 r4 q4 r5 q5 r6 q6 r7 q7 r8 q8 r9 q9 r10 q10 r11 q11 r12 q12
      obtain ⟨v0, v1, v2, v3, v4, v5, v6, v7, v8, v9, v10, v11, v12, y0, y1, y2, y3, y4, y5, y6, y7, y8, y9, y10, y11, y12⟩ := c13_of HRS.out
      go_region
      all_goals
        go_wp2_with fail
        refine bodyPost_ret (ret3_cell13 rfl _ w.heap.size rfl _ _ rfl rfl _ _ _ _ _ _ _ _ _ _ _ _ _ _ (Blk.drew (blkPut13 HRS.out _ _ _ _ _ _ _ _ _ _ _ _ _))) rfl ?_
        rw [HM2.out]
        exact ⟨rfl, (frPut13 HFS.out (.inr (Nat.le_refl _)) _ _ _ _ _ _ _ _ _ _ _ _ _).drew⟩
  · have hkb : (kk != 6) = true := by simp [hk]
    have HM : Hid (PM.parse S = (if (PM.fails 5 s1).e ≠ 0 then .inl ((PM.fails 5 s1).pos, (PM.fails 5 s1).e) else .inr st)) := Lib.hid (by
      rw [PM.parse, HL.out]
      simp only [HST.out]
      rw [if_pos (show s1.now.kind ≠ 6 from fun h => hk (HKK.out.symm.trans h))])
    have hne : (PM.fails 5 s1).e ≠ 0 := by
      show ¬ (PM.fails 5 s1).e = 0
      unfold PM.fails
      split
      · exact fun h => by cases h
      · assumption
    have HNE := Lib.hid hne
    clear hk hne d2 d3
    go_wp2_with fail
    refine (fails_any w1.heap.size g s1 5 wS HPS.out).mono ?_
    rintro e w4 ⟨rfl, h4, hf4⟩
    obtain ⟨ee, hee⟩ : ∃ ee, (PM.fails 5 s1).e = ee := ⟨_, rfl⟩
    obtain ⟨pp, hpp⟩ : ∃ pp, (PM.fails 5 s1).pos = pp := ⟨_, rfl⟩
    have HM2 : Hid (PM.parse S = .inl (pp, ee)) := Lib.hid (by rw [HM.out, if_pos HNE.out, hee, hpp])
    have heb : (ee != 0) = true := by have := HNE.out; rw [hee] at this; simp [this]
    have HR4 := Lib.hid (HRS.out.keep hf4 (by simp; omega))
    have HF4 : Hid (Fr [] w w4) := Lib.hid (HFS.out.trans' hf4 (fun i hi => .inr (by simp at hi; omega)))
    obtain ⟨of4, cp4, hat⟩ := h4.at
    obtain ⟨g0, g1, g2, g3, -, -, -, -, -, -, -, -, -, -, -⟩ := hat
    rw [hee] at g3
    rw [hpp] at g2
    clear hwS r0 q0 r1 q1 r2 q2 r3 q3 r4 q4 r5 q5 r6 q6 r7 q7 r8 q8 r9 q9 r10 q10 r11 q11 r12 q12 h4 hf4 hee hpp HM d0 t0 g0 g1
    go_wp2_with fail
    obtain ⟨v0, v1, v2, v3, v4, v5, v6, v7, v8, v9, v10, v11, v12, y0, y1, y2, y3, y4, y5, y6, y7, y8, y9, y10, y11, y12⟩ := c13_of HR4.out
    go_region
    all_goals
      go_wp2_with fail
      refine bodyPost_ret (ret3_cell13 rfl _ w.heap.size rfl _ _ rfl rfl _ _ _ _ _ _ _ _ _ _ _ _ _ _ (Blk.drew (blkPut13 HR4.out _ _ _ _ _ _ _ _ _ _ _ _ _))) rfl ?_
      rw [HM2.out]
      exact ⟨rfl, (frPut13 HF4.out (.inr (Nat.le_refl _)) _ _ _ _ _ _ _ _ _ _ _ _ _).drew⟩
/-- Parse -/
theorem parse_any (S : List UInt8) (w : World) (m : Int) (hm : w.cell? ⟨1, 0, none⟩ = some (.int .i64 m)) (h00 : 1 < w.heap.size) (hS : S.length ≤ 1000000) :
    Calls Tryz.prog 9 #[.string ⟨S.toArray⟩] w fun e w' => PaR w w' e (PM.parse S) := by
  cases hl : LexM.lex S with
  | inl x =>
    obtain ⟨q, x⟩ := x
    have e1 : PM.parse S = .inl ((q : Int), x) := by rw [PM.parse, hl]
    rw [e1]
    exact parse_bad S w m hm h00 hS hl
  | inr l => exact parse_good S w m hm h00 hS hl
end Px
end Go.Proofs.YtmdnhinpaflamaaGreatDoor
namespace Go.Proofs.YtmdnhinpaflamaaGreatDoor
open Go.RowKit
namespace PM
/-- where a text is none (0: it is one), and why -/
def at' : (Int × Int) ⊕ St → Int
  | .inl (q, _) => q
  | .inr _ => 0
def er : (Int × Int) ⊕ St → Int
  | .inl (_, x) => x
  | .inr _ => 0
end PM
namespace Px
open PM (PS B Ex)

/-- thirteen cells, written out -/
structure Cells13 where
  kind : Int
  table : B
  name : B
  join : B
  a3 : Option Addr
  a4 : Option Addr
  a5 : Option Addr
  a6 : Option Addr
  a8 : Option Addr
  a9 : Option Addr
  a10 : Option Addr
  a12 : Option Addr
  l3 : Nat
  l4 : Nat
  l5 : Nat
  l6 : Nat
  l8 : Nat
  l9 : Nat
  l10 : Nat
  l12 : Nat
  c3 : Nat
  c4 : Nat
  c5 : Nat
  c6 : Nat
  c8 : Nat
  c9 : Nat
  c10 : Nat
  c12 : Nat
  desc : Bool
def Cells13.list (c : Cells13) : List Value := [.int .i64 c.kind, .string ⟨c.table.toArray⟩, .string ⟨c.name.toArray⟩, .slice c.a3 c.l3 c.c3, .slice c.a4 c.l4 c.c4, .slice c.a5 c.l5 c.c5, .slice c.a6 c.l6 c.c6, .string ⟨c.join.toArray⟩, .slice c.a8 c.l8 c.c8, .slice c.a9 c.l9 c.c9, .slice c.a10 c.l10 c.c10, .bool c.desc, .slice c.a12 c.l12 c.c12]
theorem sr_cells {A : Nat → Prop} {w : World} {x : PM.St} {cs : List Value} (h : SR A w x cs) : ∃ c : Cells13, cs = c.list := by
  obtain ⟨kind, table, name, join, a3, a4, a5, a6, a8, a9, a10, a12, l3, l4, l5, l6, l8, l9, l10, l12, c3, c4, c5, c6, c8, c9, c10, c12, desc, he, _⟩ := st_cells (b := 0) (e := .returned (.agg cs.toArray)) ⟨cs, rfl, SR.mono (A' := fun b => 0 ≤ b) (fun _ _ => Nat.zero_le _) h⟩
  refine ⟨⟨kind, table, name, join, a3, a4, a5, a6, a8, a9, a10, a12, l3, l4, l5, l6, l8, l9, l10, l12, c3, c4, c5, c6, c8, c9, c10, c12, desc⟩, ?_⟩
  simp only [Ending.returned.injEq, Value.agg.injEq] at he
  have := congrArg Array.toList he
  simpa [Cells13.list] using this
theorem slice_len {T : TypeId} {size : Nat} {w : World} {a : Option Addr} {l c n : Nat} {xs : List Value} (h : Row w T size (.slice a l c) n xs) : l = n := by
  rcases h.form with ⟨h1, h2, _⟩ | ⟨g, off, cap, h1, _⟩
  · cases h1; exact h2.symm
  · cases h1; rfl
theorem es_len {A : Nat → Prop} {w : World} {a : Option Addr} {l c : Nat} {xs : List Ex} (h : Rep.Es 82 A w xs (.slice a l c)) : l = xs.length := by
  cases h with
  | mk _ _ _ _ h2 _ => exact slice_len h2
/-- what a law is told -/
theorem parse_told (S : B) (w : World) (m : Int) (hm : w.cell? ⟨1, 0, none⟩ = some (.int .i64 m)) (h00 : 1 < w.heap.size) (hS : S.length ≤ 1000000) :
    Calls Tryz.prog 9 #[.string ⟨S.toArray⟩] w fun e w' => ∃ c : Cells13, e = .returned (.tuple #[.agg #[.int .i64 c.kind, .string ⟨c.table.toArray⟩, .string ⟨c.name.toArray⟩, .slice c.a3 c.l3 c.c3, .slice c.a4 c.l4 c.c4, .slice c.a5 c.l5 c.c5, .slice c.a6 c.l6 c.c6, .string ⟨c.join.toArray⟩, .slice c.a8 c.l8 c.c8, .slice c.a9 c.l9 c.c9, .slice c.a10 c.l10 c.c10, .bool c.desc, .slice c.a12 c.l12 c.c12], .int .i64 (PM.at' (PM.parse S)), .int .i64 (PM.er (PM.parse S))]) ∧ (∀ st, PM.parse S = .inr st → SR (fun b => w.heap.size ≤ b) w' st c.list) ∧ Fr [] w w' := by
  refine (parse_any S w m hm h00 hS).mono ?_
  intro e w' h
  cases hp : PM.parse S with
  | inl x =>
    obtain ⟨q, x⟩ := x
    rw [hp] at h
    obtain ⟨rfl, hf⟩ := h
    exact ⟨⟨0, [], [], [], none, none, none, none, none, none, none, none, 0, 0, 0, 0, 0, 0, 0, 0, 0, 0, 0, 0, 0, 0, 0, 0, false⟩, rfl, (fun st h => by cases h), hf⟩
  | inr st =>
    rw [hp] at h
    obtain ⟨cs, rfl, hs, hf⟩ := h
    obtain ⟨c, rfl⟩ := sr_cells hs
    exact ⟨c, rfl, (fun st' h => by cases h; exact hs), hf⟩

theorem begun_a : PM.parse [115, 101, 108, 101, 99, 116, 32, 42, 32, 102, 114, 111, 109, 32, 116, 32, 119, 104, 101, 114, 101, 32, 97, 32, 61, 32, 49] = .inr (.mk 6 [116] [] [] [] [] [] [] [] [.mk 8 0 0 [] [] [] [.mk 2 0 0 [] [] [97] [], .mk 1 1 1 [] [] [] []]] [] false []) := by kernel_rfl
theorem begun_b : PM.parse [99, 111, 109, 109, 105, 116, 32, 120] = .inl (7, 5) := by kernel_rfl

set_option maxRecDepth 100000 in
set_option maxHeartbeats 4000000 in
theorem begun_any (w : World) (m : Int) (hm : w.cell? ⟨1, 0, none⟩ = some (.int .i64 m)) (h00 : 1 < w.heap.size) :
    Calls Tryz.prog 8 #[] w fun e w' => e = .returned (.bool true) ∧ Fr [] w w' := by
  have HA := Lib.hid (parse_told [115, 101, 108, 101, 99, 116, 32, 42, 32, 102, 114, 111, 109, 32, 116, 32, 119, 104, 101, 114, 101, 32, 97, 32, 61, 32, 49] w m hm h00 (by decide))
  have HM := Lib.hid hm
  clear hm
  go_enter Tryz.func8, Tryz.ntmps8
  go_wp2_with fail
  refine HA.out.mono ?_
  rintro e w1 ⟨c, rfl, hs, hf1⟩
  have hsr := hs _ begun_a
  obtain ⟨kind, table, name, join, a3, a4, a5, a6, a8, a9, a10, a12, l3, l4, l5, l6, l8, l9, l10, l12, c3, c4, c5, c6, c8, c9, c10, c12, desc⟩ := c
  simp only [Cells13.list] at hsr
  obtain ⟨rfl, rfl, rfl⟩ : kind = 6 ∧ table = [116] ∧ l9 = 1 := by
    cases hsr with
    | mk _ _ _ _ _ _ _ _ _ _ _ _ _ v3 v4 v5 v6 v8 v9 v10 v12 h3 h4 h5 h6 h8 h9 h10 h12 => exact ⟨rfl, rfl, es_len h9⟩
  simp only [begun_a, PM.at', PM.er]
  have HF1 := Lib.hid hf1
  have HB := Lib.hid (parse_told [99, 111, 109, 109, 105, 116, 32, 120] (w1.alloc (.cells #[.int .i64 6, .string ⟨#[116]⟩, .string ⟨name.toArray⟩, .slice a3 l3 c3, .slice a4 l4 c4, .slice a5 l5 c5, .slice a6 l6 c6, .string ⟨join.toArray⟩, .slice a8 l8 c8, .slice a9 1 c9, .slice a10 l10 c10, .bool desc, .slice a12 l12 c12] 29)) m (((hf1.alloc _).cell (p := ⟨1, 0, none⟩) h00 (by simp)).trans HM.out) (by have := hf1.size; simp <;> omega) (by decide))
  clear hs hsr hf1 HA
  go_wp2_with fail
  refine HB.out.mono ?_
  rintro e w2 ⟨c, rfl, hs, hf2⟩
  simp only [begun_b, PM.at', PM.er]
  have hx := (Blk.new w1 29 [.int .i64 6, .string ⟨#[116]⟩, .string ⟨name.toArray⟩, .slice a3 l3 c3, .slice a4 l4 c4, .slice a5 l5 c5, .slice a6 l6 c6, .string ⟨join.toArray⟩, .slice a8 l8 c8, .slice a9 1 c9, .slice a10 l10 c10, .bool desc, .slice a12 l12 c12]).keep hf2 (by simp)
  have d0 := hx.cell 0
  have d1 := hx.cell 1
  have d9 := hx.cell 9
  simp only [List.getElem?_cons_zero, List.getElem?_cons_succ] at d0 d1 d9
  have hl := hx.lt
  have HF2 := Lib.hid ((HF1.out.alloc _).trans hf2)
  clear hs hx hf2 HB
  go_wp2_with fail
  go_ret
  exact ⟨rfl, HF2.out.alloc _⟩
end Px
end Go.Proofs.YtmdnhinpaflamaaGreatDoor
namespace Go.Proofs.YtmdnhinpaflamaaGreatDoor
open Go.RowKit
namespace Sm
open PM (Ex B)

end Sm
end Go.Proofs.YtmdnhinpaflamaaGreatDoor
namespace Go.Proofs.YtmdnhinpaflamaaGreatDoor
open Go.RowKit
namespace Px
open PM (PS B Ex)

end Px
end Go.Proofs.YtmdnhinpaflamaaGreatDoor
