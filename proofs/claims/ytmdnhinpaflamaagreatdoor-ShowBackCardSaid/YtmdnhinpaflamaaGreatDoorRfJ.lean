/- The document's parser: Parse. -/
import Derived.Test.YtmdnhinpaflamaaGreatDoorRfI
import Derived.Test.YtmdnhinpaflamaaGreatDoorLxE
import Derived.RegionTactic
namespace Go.Proofs.YtmdnhinpaflamaaGreatDoor
open Go.RowKit
set_option linter.unusedVariables false
set_option linter.unusedSimpArgs false
namespace Rf
open LexM (Tok)
open PM (B Ex Col It PS)
open Px (frSet ret_cell13 put13 frPut13 blkPut13 c13_of SR SS StR)
open Lx (toksC tokC LS LS_end LS_blank LS_tok tok_range at0)
theorem LS_last (S : List UInt8) : ∀ (n p : Nat) (l : List Tok), p <= S.length -> S.length - p = n -> LS S p = .inr l -> l.getLast? = some ⟨6, [], 0, S.length⟩ := by
 intro n
 induction n using Nat.strongRecOn with
 |ind n ih =>
  intro p l hp hn h
  by_cases hlt : p < S.length
  ·by_cases hb : at0 S p = 32
   ·rw [LS_blank hlt hb] at h
    exact ih (S.length - (p + 1)) (by omega) (p + 1) l (by omega) rfl h
   ·rw [LS_tok hlt hb] at h
    cases ht : LexM.tok1 p (S.drop p) with
    |inl e => rw [ht] at h; simp only [reduceCtorEq] at h
    |inr y =>
     obtain ⟨t, r⟩ := y
     obtain ⟨h1, h2, _⟩ := tok_range hlt ht
     rw [ht] at h
     simp only [] at h
     cases hr : LS S r with
     |inl e => rw [hr] at h; simp only [reduceCtorEq] at h
     |inr l' =>
      rw [hr] at h
      simp only [Sum.inr.injEq] at h
      have i1 := ih (S.length - r) (by omega) r l' h2 rfl hr
      subst h
      rw [List.getLast?_cons, i1]
      rfl
  ·obtain rfl : p = S.length := by omega
   rw [LS_end] at h
   simp only [Sum.inr.injEq] at h
   subst h
   rfl
theorem lex_last {S : List UInt8} {l : List Tok} (h : LexM.lex S = .inr l) : l.getLast? = some ⟨6, [], 0, S.length⟩ := by
 unfold LexM.lex at h
 split at h
 ·simp only [reduceCtorEq] at h
 ·exact LS_last S _ 0 l (Nat.zero_le _) rfl h
theorem ret3_cell13 {fn : Func} {n i j : Nat} (h : fn.results = #[.cell n 29, .tmp i, .tmp j]) (tmps : Array Value) (T : Nat) (h2 : tmps.getD n undef = .pointer (some ⟨T, 0, none⟩)) (u v : Value) (hu : tmps.getD i undef = u) (hv : tmps.getD j undef = v) (w : World) (a0 a1 a2 a3 a4 a5 a6 a7 a8 a9 a10 a11 a12 : Value) (hb : Blk w T 29 [a0, a1, a2, a3, a4, a5, a6, a7, a8, a9, a10, a11, a12]) :
  (results fn tmps).run Tryz.prog w = .ok (.tuple #[.agg #[a0, a1, a2, a3, a4, a5, a6, a7, a8, a9, a10, a11, a12], u, v]) w := by
 obtain ⟨c0, c1, c2, c3, c4, c5, c6, c7, c8, c9, c10, c11, c12, f0, f1, f2, f3, f4, f5, f6, f7, f8, f9, f10, f11, f12⟩ := c13_of hb
 have h2' : tmps[n]?.getD undef = .pointer (some ⟨T, 0, none⟩) := by simpa using h2
 have hu' : tmps[i]?.getD undef = u := by simpa using hu
 have hv' : tmps[j]?.getD undef = v := by simpa using hv
 clear h2 hu hv
 simp [results, h, h2', hu', hv', go_sem, c0, c1, c2, c3, c4, c5, c6, c7, c8, c9, c10, c11, c12]
theorem field_kind (a b c d : Value) (w : World) : (Instr.field 45 (.agg #[a, b, c, d]) 0).run Tryz.prog w = .ok a w := by kernel_rfl
theorem St.done {α : Type} {c : Int -> CM.P α} {s s' : PS} {a : α} (h : St c s a s') (h0 : s.e = 0) : (s'.e = 0 -> c s.deep s.l = .ok (a, s'.l)) /\ (s'.e ≠ 0 -> c s.deep s.l = .error (s'.pos, s'.e)) := by
 have k := h.2 h0
 cases hc : c s.deep s.l with
 |error r =>
  obtain ⟨q, x⟩ := r
  simp only [hc] at k
  obtain ⟨k1, k2, k3⟩ := k
  exact ⟨fun e => absurd (k1.symm.trans e) k3, fun _ => by rw [k1, k2]⟩
 |ok r =>
  obtain ⟨a', l'⟩ := r
  simp only [hc] at k
  obtain ⟨k1, k2, k3, k4⟩ := k
  exact ⟨fun _ => by rw [k1, k3], fun e => absurd k2 e⟩
def PaO (S : B) (w : World) (e : Ending) (w' : World) : Prop :=
 ∃ (x : PM.St) (q z : Int) (cs : List Value), e = .returned (.tuple #[.agg cs.toArray, .int .i64 q, .int .i64 z]) /\ SR (fun b => w.heap.size <= b) w' x cs /\
  (match CM.parse S with | .inl (p, k) => q = p /\ z = k /\ k ≠ 0 /\ x = .ofKind 0 | .inr st => x = st /\ q = 0 /\ z = 0) /\ Fr [] w w'
theorem parse_inl {S : B} {q : Nat} {x : Int} (h : LexM.lex S = .inl (q, x)) : CM.parse S = .inl ((q : Int), x) := by unfold CM.parse; rw [h]
theorem parse_inr {S : B} {l : List Tok} (h : LexM.lex S = .inr l) : CM.parse S = CM.ends (CM.stmt l.length 0 l) := by unfold CM.parse; rw [h]; rfl
set_option maxRecDepth 1000000 in
set_option maxHeartbeats 4000000 in
theorem parse_bad (S : B) (w : World) (hS : S.length <= 1000000) {q : Nat} {x : Int} (hl : LexM.lex S = .inl (q, x)) :
  Calls Tryz.prog 10 #[.string ⟨S.toArray⟩] w (PaO S w) := by
 have HL := Hd hl
 have hx : ¬ x = 0 := Lx.lex_err hl
 have HC := Hd (Lx.doclex_any S (w.alloc (.cells #[.int .i64 0, .string ⟨#[]⟩, .string ⟨#[]⟩, .slice none 0 0, .slice none 0 0, .slice none 0 0, .slice none 0 0, .string ⟨#[]⟩, .slice none 0 0, .slice none 0 0, .slice none 0 0, .bool false, .slice none 0 0] 29)) hS)
 clear hl
 go_enter Tryz.func10, Tryz.ntmps10
 go_wp2_with fail
 refine HC.out.mono ?_
 intro e w1 hA
 rw [HL.out] at hA
 obtain ⟨rfl, hf1⟩ := hA
 have HB := Hd ((Blk.new w 29 [.int .i64 0, .string ⟨#[]⟩, .string ⟨#[]⟩, .slice none 0 0, .slice none 0 0, .slice none 0 0, .slice none 0 0, .string ⟨#[]⟩, .slice none 0 0, .slice none 0 0, .slice none 0 0, .bool false, .slice none 0 0]).keep hf1 (by simp))
 have HF := Hd (((Fr.refl [] w).alloc (.cells #[.int .i64 0, .string ⟨#[]⟩, .string ⟨#[]⟩, .slice none 0 0, .slice none 0 0, .slice none 0 0, .slice none 0 0, .string ⟨#[]⟩, .slice none 0 0, .slice none 0 0, .slice none 0 0, .bool false, .slice none 0 0] 29)).trans hf1)
 clear hf1 HC
 obtain ⟨y0, y1, y2, y3, y4, y5, y6, y7, y8, y9, y10, y11, y12, k0, k1, k2, k3, k4, k5, k6, k7, k8, k9, k10, k11, k12⟩ := c13_of HB.out
 go_wp2_with fail
 refine bodyPost_ret (ret3_cell13 rfl _ w.heap.size rfl _ _ rfl rfl _ _ _ _ _ _ _ _ _ _ _ _ _ _ (blkPut13 HB.out _ _ _ _ _ _ _ _ _ _ _ _ _)) rfl ⟨.ofKind 0, q, x, [.int .i64 0, .string ⟨#[]⟩, .string ⟨#[]⟩, .slice none 0 0, .slice none 0 0, .slice none 0 0, .slice none 0 0, .string ⟨#[]⟩, .slice none 0 0, .slice none 0 0, .slice none 0 0, .bool false, .slice none 0 0], rfl, ?_, ?_, ?_⟩
 ·exact .mk 0 [] [] [] [] [] [] [] [] [] [] false [] _ _ _ _ _ _ _ _ .nil .nil Rep.Es.nil .nil Rep.Es.nil Rep.Es.nil Rep.Es.nil Px.SS.nil
 ·rw [parse_inl HL.out]; exact ⟨rfl, rfl, hx, rfl⟩
 ·exact (frPut13 (X := []) HF.out (.inr (Nat.le_refl _)) _ _ _ _ _ _ _ _ _ _ _ _ _)
set_option maxRecDepth 1000000 in
set_option maxHeartbeats 8000000 in
theorem parse_good (S : B) (w : World) (hS : S.length <= 1000000) {l : List Tok} (hl : LexM.lex S = .inr l) :
  Calls Tryz.prog 10 #[.string ⟨S.toArray⟩] w (PaO S w) := by
 have HL := Hd hl
 have HC := Hd (Lx.doclex_any S (w.alloc (.cells #[.int .i64 0, .string ⟨#[]⟩, .string ⟨#[]⟩, .slice none 0 0, .slice none 0 0, .slice none 0 0, .slice none 0 0, .string ⟨#[]⟩, .slice none 0 0, .slice none 0 0, .slice none 0 0, .bool false, .slice none 0 0] 29)) hS)
 clear hl
 go_enter Tryz.func10, Tryz.ntmps10
 go_wp2_with fail
 refine HC.out.mono ?_
 intro e w1 hA
 rw [HL.out] at hA
 obtain ⟨v, rfl, hrow, hf1⟩ := hA
 have hln := Lx.lex_ne HL.out
 have hne : 0 < l.length := List.length_pos_iff.2 hln.1
 obtain ⟨g, off, cap, rfl⟩ : ∃ g off cap, v = .slice (some ⟨g, off, none⟩) l.length cap := by
  rcases hrow.form with ⟨_, h, _⟩ | ⟨g, off, cap, rfl, _⟩
  ·omega
  ·exact ⟨g, off, cap, rfl⟩
 have hg1 : g < w1.heap.size := hrow.block_lt rfl
 have HB1 := Hd ((Blk.new w 29 [.int .i64 0, .string ⟨#[]⟩, .string ⟨#[]⟩, .slice none 0 0, .slice none 0 0, .slice none 0 0, .slice none 0 0, .string ⟨#[]⟩, .slice none 0 0, .slice none 0 0, .slice none 0 0, .bool false, .slice none 0 0]).keep hf1 (by simp))
 have HF1 := Hd (((Fr.refl [] w).alloc (.cells #[.int .i64 0, .string ⟨#[]⟩, .string ⟨#[]⟩, .slice none 0 0, .slice none 0 0, .slice none 0 0, .slice none 0 0, .string ⟨#[]⟩, .slice none 0 0, .slice none 0 0, .slice none 0 0, .bool false, .slice none 0 0] 29)).trans hf1)
 have hb1 := HB1.out.lt
 have HR2 : Hid (RR (w1.alloc (.cells #[.slice (some ⟨g, off, none⟩) l.length cap, .int .i64 0, .int .i64 0, .int .i64 0, .int .i64 0] 54)) w1.heap.size ⟨l, 0, 0, 0⟩) := Hd ⟨g, off, cap, l.length, 0, l, Blk.new w1 _ _, hrow.keep ((Fr.refl [] w1).alloc _) (by simp), rfl, hne, rfl, hg1, by omega, fun k t hk hkl => by
  have h := lex_last HL.out
  rw [List.getLast?_eq_getElem?, show l.length - 1 = k by omega, hk] at h
  cases h
  rfl⟩
 have HB2 := Hd (Blk.alloc HB1.out (.cells #[.slice (some ⟨g, off, none⟩) l.length cap, .int .i64 0, .int .i64 0, .int .i64 0, .int .i64 0] 54))
 have HF2 := Hd (HF1.out.alloc (.cells #[.slice (some ⟨g, off, none⟩) l.length cap, .int .i64 0, .int .i64 0, .int .i64 0, .int .i64 0] 54))
 clear hrow hf1 HC HB1 HF1
 go_wp2_with fail
 refine (stmt_any l.length w1.heap.size ⟨l, 0, 0, 0⟩ _ HR2.out ⟨Int.le_refl 0, (by show (0 : Int) <= 65; decide), fun _ => (by show (0 : Int) <= 64; decide)⟩ (Nat.le_refl _) rfl).mono ?_
 rintro e w3 ⟨x, s, hx, h3, hst, hd, hf3⟩
 obtain ⟨kind, table, name, join, a3, a4, a5, a6, a8, a9, a10, a12, l3, l4, l5, l6, l8, l9, l10, l12, c3, c4, c5, c6, c8, c9, c10, c12, desc, rfl, hrep⟩ := Px.st_cells hx
 have HDN := Hd (St.done hst rfl)
 have hfy := (Fr.refl [some w1.heap.size] w3).alloc (.cells #[.int .i64 kind, .string ⟨table.toArray⟩, .string ⟨name.toArray⟩, .slice a3 l3 c3, .slice a4 l4 c4, .slice a5 l5 c5, .slice a6 l6 c6, .string ⟨join.toArray⟩, .slice a8 l8 c8, .slice a9 l9 c9, .slice a10 l10 c10, .bool desc, .slice a12 l12 c12] 29)
 have HB3 := Hd (HB2.out.keep (hf3.trans hfy) (by simp; omega))
 have HF3 : Hid (Fr [] w (w3.alloc (.cells #[.int .i64 kind, .string ⟨table.toArray⟩, .string ⟨name.toArray⟩, .slice a3 l3 c3, .slice a4 l4 c4, .slice a5 l5 c5, .slice a6 l6 c6, .string ⟨join.toArray⟩, .slice a8 l8 c8, .slice a9 l9 c9, .slice a10 l10 c10, .bool desc, .slice a12 l12 c12] 29))) := Hd (HF2.out.trans' (hf3.trans hfy) (fun i hi => .inr (by simp at hi; omega)))
 have HR3 := Hd (h3.alloc (.cells #[.int .i64 kind, .string ⟨table.toArray⟩, .string ⟨name.toArray⟩, .slice a3 l3 c3, .slice a4 l4 c4, .slice a5 l5 c5, .slice a6 l6 c6, .string ⟨join.toArray⟩, .slice a8 l8 c8, .slice a9 l9 c9, .slice a10 l10 c10, .bool desc, .slice a12 l12 c12] 29))
 have HY3 := Hd (Blk.new w3 29 [.int .i64 kind, .string ⟨table.toArray⟩, .string ⟨name.toArray⟩, .slice a3 l3 c3, .slice a4 l4 c4, .slice a5 l5 c5, .slice a6 l6 c6, .string ⟨join.toArray⟩, .slice a8 l8 c8, .slice a9 l9 c9, .slice a10 l10 c10, .bool desc, .slice a12 l12 c12])
 have hs3 := hf3.size
 simp only [World.size_alloc] at hs3
 have HX3 := Hd (Px.SR.mono (A' := fun b => w.heap.size < b) (fun b hb => by simp at hb; omega) (Px.SR.keep hfy (fun b hb => by simp at hb ⊢; omega) hrep))
 clear hx h3 hst hd hf3 hrep hfy HB2 HF2 HR2
 go_upto_region 6 with fail
 generalize w3.alloc (.cells #[.int .i64 kind, .string ⟨table.toArray⟩, .string ⟨name.toArray⟩, .slice a3 l3 c3, .slice a4 l4 c4, .slice a5 l5 c5, .slice a6 l6 c6, .string ⟨join.toArray⟩, .slice a8 l8 c8, .slice a9 l9 c9, .slice a10 l10 c10, .bool desc, .slice a12 l12 c12] 29) = w4 at HB3 HF3 HR3 HY3 HX3 ⊢
 obtain ⟨g', off', cap', N, nn, ha⟩ := HR3.out.at
 have c4 := ha.c4
 have hp4 := ha.lt
 clear ha
 have hb4 := HB3.out.lt
 have hy4 := HY3.out.lt
 by_cases h0 : s.e = 0
 ·rw [h0] at c4
  go_wp2_with fail
  refine (now_any w1.heap.size s w4 HR3.out).mono ?_
  rintro e w5 ⟨rfl, hf5⟩
  have HR5 := Hd (HR3.out.keepP hf5 (by simp))
  have HB5 := Hd (HB3.out.keep hf5 (by simp))
  have HY5 := Hd (HY3.out.keep hf5 (by simp))
  have HF5 := Hd (HF3.out.trans hf5)
  have HX5 := Hd (Px.SR.keep hf5 (by simp) HX3.out)
  have hfd := fun (w : World) => field_kind (.int .i64 (now s).kind) (.string ⟨(now s).text.toArray⟩) (.int .i64 (now s).int) (.int .i64 (now s).pos) w
  obtain ⟨kk, hkk⟩ : ∃ kk, (now s).kind = kk := ⟨_, rfl⟩
  rw [hkk] at hfd ⊢
  have c45 := (hf5.cell (p := ⟨w1.heap.size, 4, none⟩) hp4 (by simp)).trans c4
  have hp5 : w1.heap.size < w5.heap.size := Nat.lt_of_lt_of_le hp4 hf5.size
  have hy5 := HY5.out.lt
  have hb5 := HB5.out.lt
  clear hf5 c4 HR3 HB3 HY3 HF3 HX3
  have HCP : Hid (CM.stmt l.length 0 l = .ok (x, s.l)) := Hd (HDN.out.1 h0)
  have HKK := Hd hkk
  clear hkk
  by_cases hk6 : kk = 6
  ·subst hk6
   obtain ⟨y0, y1, y2, y3, y4, y5, y6, y7, y8, y9, y10, y11, y12, k0, k1, k2, k3, k4, k5, k6, k7, k8, k9, k10, k11, k12⟩ := c13_of HB5.out
   obtain ⟨x0, x1, x2, x3, x4, x5, x6, x7, x8, x9, x10, x11, x12, f0, f1, f2, f3, f4, f5, f6, f7, f8, f9, f10, f11, f12⟩ := c13_of HY5.out
   have hRY : ¬ w3.heap.size = w.heap.size := by omega
   go_wp2_with fail
   clear hfd
   refine bodyPost_ret (ret3_cell13 rfl _ w.heap.size rfl _ _ rfl rfl _ _ _ _ _ _ _ _ _ _ _ _ _ _ (blkPut13 HB5.out _ _ _ _ _ _ _ _ _ _ _ _ _)) rfl ⟨x, 0, 0, _, rfl, Px.SR.mono (A' := fun b => w.heap.size <= b) (fun b hb => Nat.le_of_lt hb) (Px.SR.keep (frPut13 (Fr.refl [some w.heap.size] _) (.inl (by simp)) _ _ _ _ _ _ _ _ _ _ _ _ _) (fun b hb => by simp; omega) HX5.out), ?_, frPut13 (X := []) HF5.out (.inr (Nat.le_refl _)) _ _ _ _ _ _ _ _ _ _ _ _ _⟩
   rw [parse_inr HL.out, HCP.out]
   show (match (if (CM.now s.l).kind = 6 then Sum.inr x else Sum.inl (((CM.now s.l).pos : Int), (5 : Int))) with | .inl (p, k) => (0 : Int) = p /\ (0 : Int) = k /\ k ≠ 0 /\ x = .ofKind 0 | .inr st => x = st /\ (0 : Int) = 0 /\ (0 : Int) = 0)
   rw [if_pos (show (CM.now s.l).kind = 6 from HKK.out)]
   exact ⟨rfl, rfl, rfl⟩
  ·go_wp2_with fail
   clear hfd
   refine (fail_any w1.heap.size 5 s w5 HR5.out).mono ?_
   rintro e w6 ⟨rfl, h6, hf6⟩
   have hfe : failed 5 s = { s with e := 5, pos := (now s).pos } := by unfold failed; exact if_pos h0
   rw [hfe] at h6
   have HB6 := Hd (HB5.out.keep hf6 (by simp; omega))
   have HF6 : Hid (Fr [] w w6) := Hd (HF5.out.trans' hf6 (fun i hi => .inr (by simp at hi; omega)))
   obtain ⟨g2, off2, cap2, N2, nn2, ha⟩ := h6.at
   have d3 := ha.c3
   have d4 := ha.c4
   have hp6 := ha.lt
   dsimp only at d3 d4
   have hb6 := HB6.out.lt
   clear ha hf6 hfe h6 c45
   obtain ⟨y0, y1, y2, y3, y4, y5, y6, y7, y8, y9, y10, y11, y12, k0, k1, k2, k3, k4, k5, k6, k7, k8, k9, k10, k11, k12⟩ := c13_of HB6.out
   have hn1 : ¬ w1.heap.size = w.heap.size := by omega
   have hn2 : ¬ w.heap.size = w1.heap.size := by omega
   go_wp2_with fail
   go_region
   all_goals
    go_wp2_with fail
    refine bodyPost_ret (ret3_cell13 rfl _ w.heap.size rfl _ _ rfl rfl _ _ _ _ _ _ _ _ _ _ _ _ _ _ (blkPut13 HB6.out _ _ _ _ _ _ _ _ _ _ _ _ _).drew) rfl ⟨.ofKind 0, (now s).pos, 5, [.int .i64 0, .string ⟨#[]⟩, .string ⟨#[]⟩, .slice none 0 0, .slice none 0 0, .slice none 0 0, .slice none 0 0, .string ⟨#[]⟩, .slice none 0 0, .slice none 0 0, .slice none 0 0, .bool false, .slice none 0 0], rfl, ?_, ?_, ?_⟩
    ·exact .mk 0 [] [] [] [] [] [] [] [] [] [] false [] _ _ _ _ _ _ _ _ .nil .nil Rep.Es.nil .nil Rep.Es.nil Rep.Es.nil Rep.Es.nil Px.SS.nil
    ·rw [parse_inr HL.out, HCP.out]
     show (match (if (CM.now s.l).kind = 6 then Sum.inr x else Sum.inl (((CM.now s.l).pos : Int), (5 : Int)) : (Int × Int) ⊕ PM.St) with | .inl (p, k) => ((now s).pos : Int) = p /\ (5 : Int) = k /\ k ≠ 0 /\ PM.St.ofKind 0 = .ofKind 0 | .inr st => _)
     rw [if_neg (show ¬ (CM.now s.l).kind = 6 from fun h => hk6 (HKK.out.symm.trans h))]
     exact ⟨rfl, rfl, by decide, rfl⟩
    ·exact (frPut13 (X := []) HF6.out (.inr (Nat.le_refl _)) _ _ _ _ _ _ _ _ _ _ _ _ _).drew
 ·go_wp2_with fail
  obtain ⟨g2, off2, cap2, N2, nn2, ha⟩ := HR3.out.at
  have d3 := ha.c3
  clear ha
  obtain ⟨y0, y1, y2, y3, y4, y5, y6, y7, y8, y9, y10, y11, y12, k0, k1, k2, k3, k4, k5, k6, k7, k8, k9, k10, k11, k12⟩ := c13_of HB3.out
  have hn1 : ¬ w1.heap.size = w.heap.size := by omega
  have hn2 : ¬ w.heap.size = w1.heap.size := by omega
  have HCP : Hid (CM.stmt l.length 0 l = .error (s.pos, s.e)) := Hd (HDN.out.2 h0)
  go_region
  all_goals
   go_wp2_with fail
   refine bodyPost_ret (ret3_cell13 rfl _ w.heap.size rfl _ _ rfl rfl _ _ _ _ _ _ _ _ _ _ _ _ _ _ (blkPut13 HB3.out _ _ _ _ _ _ _ _ _ _ _ _ _).drew) rfl ⟨.ofKind 0, s.pos, s.e, [.int .i64 0, .string ⟨#[]⟩, .string ⟨#[]⟩, .slice none 0 0, .slice none 0 0, .slice none 0 0, .slice none 0 0, .string ⟨#[]⟩, .slice none 0 0, .slice none 0 0, .slice none 0 0, .bool false, .slice none 0 0], rfl, ?_, ?_, ?_⟩
   ·exact .mk 0 [] [] [] [] [] [] [] [] [] [] false [] _ _ _ _ _ _ _ _ .nil .nil Rep.Es.nil .nil Rep.Es.nil Rep.Es.nil Rep.Es.nil Px.SS.nil
   ·rw [parse_inr HL.out, HCP.out]
    exact ⟨rfl, rfl, h0, rfl⟩
   ·exact (frPut13 (X := []) HF3.out (.inr (Nat.le_refl _)) _ _ _ _ _ _ _ _ _ _ _ _ _).drew
theorem parse_any (S : B) (w : World) (hS : S.length <= 1000000) : Calls Tryz.prog 10 #[.string ⟨S.toArray⟩] w (PaO S w) := by
 cases h : LexM.lex S with
 |inl r => obtain ⟨q, x⟩ := r; exact parse_bad S w hS h
 |inr l => exact parse_good S w hS h
end Rf
end Go.Proofs.YtmdnhinpaflamaaGreatDoor
