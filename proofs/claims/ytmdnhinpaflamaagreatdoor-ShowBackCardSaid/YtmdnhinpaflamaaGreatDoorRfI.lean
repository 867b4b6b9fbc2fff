/- The document's parser: a statement; Parse. -/
import Derived.Test.YtmdnhinpaflamaaGreatDoorRfH
namespace Go.Proofs.YtmdnhinpaflamaaGreatDoor
open Go.RowKit
set_option linter.unusedVariables false
set_option linter.unusedSimpArgs false
namespace Rf
open LexM (Tok)
open PM (B Ex Col It PS zeroTok wordy two un colEx)
open Px (frSet ret_cell7 ret_cell13 put13 frPut13 blkPut13 c13_of kTag TagS ColS ItS SR SS StR kEx)
open Gn (Gr)
theorem is_ne {v w : B} {l : List Tok} (h : CM.is w l = true) (hne : v ≠ w) : CM.is v l = false := by
 simp only [CM.is, Bool.and_eq_true, beq_iff_eq] at h
 unfold CM.is
 rw [h.1, h.2, Bool.true_and]
 simpa using fun e => hne e.symm
theorem stmt_create {n : Nat} {d : Int} {l : List Tok} (h : CM.is [99, 114, 101, 97, 116, 101] l = true) : CM.stmt n d l = CM.create n d l.tail := by
 simp only [CM.stmt, CM.rest, CM.raises, CM.calls, CM.opt, h, is_ne h (show ([115, 101, 108, 101, 99, 116] : B) ≠ [99, 114, 101, 97, 116, 101] from by decide), is_ne h (show ([98, 101, 103, 105, 110] : B) ≠ [99, 114, 101, 97, 116, 101] from by decide), is_ne h (show ([99, 111, 109, 109, 105, 116] : B) ≠ [99, 114, 101, 97, 116, 101] from by decide), is_ne h (show ([114, 111, 108, 108, 98, 97, 99, 107] : B) ≠ [99, 114, 101, 97, 116, 101] from by decide), is_ne h (show ([114, 97, 105, 115, 101] : B) ≠ [99, 114, 101, 97, 116, 101] from by decide), is_ne h (show ([99, 97, 108, 108] : B) ≠ [99, 114, 101, 97, 116, 101] from by decide), is_ne h (show ([105, 110, 115, 101, 114, 116] : B) ≠ [99, 114, 101, 97, 116, 101] from by decide), is_ne h (show ([117, 112, 100, 97, 116, 101] : B) ≠ [99, 114, 101, 97, 116, 101] from by decide), is_ne h (show ([100, 101, 108, 101, 116, 101] : B) ≠ [99, 114, 101, 97, 116, 101] from by decide), if_true, if_false, Bool.false_eq_true]
theorem stmt_select {n : Nat} {d : Int} {l : List Tok} (h : CM.is [115, 101, 108, 101, 99, 116] l = true) : CM.stmt n d l = selectsW n d l := by
 simp only [CM.stmt, CM.rest, CM.raises, CM.calls, CM.opt, h, is_ne h (show ([99, 114, 101, 97, 116, 101] : B) ≠ [115, 101, 108, 101, 99, 116] from by decide), is_ne h (show ([98, 101, 103, 105, 110] : B) ≠ [115, 101, 108, 101, 99, 116] from by decide), is_ne h (show ([99, 111, 109, 109, 105, 116] : B) ≠ [115, 101, 108, 101, 99, 116] from by decide), is_ne h (show ([114, 111, 108, 108, 98, 97, 99, 107] : B) ≠ [115, 101, 108, 101, 99, 116] from by decide), is_ne h (show ([114, 97, 105, 115, 101] : B) ≠ [115, 101, 108, 101, 99, 116] from by decide), is_ne h (show ([99, 97, 108, 108] : B) ≠ [115, 101, 108, 101, 99, 116] from by decide), is_ne h (show ([105, 110, 115, 101, 114, 116] : B) ≠ [115, 101, 108, 101, 99, 116] from by decide), is_ne h (show ([117, 112, 100, 97, 116, 101] : B) ≠ [115, 101, 108, 101, 99, 116] from by decide), is_ne h (show ([100, 101, 108, 101, 116, 101] : B) ≠ [115, 101, 108, 101, 99, 116] from by decide), if_true, if_false, Bool.false_eq_true, selectsW, CM.bnd, CM.need, CM.ret]
theorem stmt_begin {n : Nat} {d : Int} {l : List Tok} (h : CM.is [98, 101, 103, 105, 110] l = true) : CM.stmt n d l = CM.ret (PM.St.ofKind 9) l.tail := by
 simp only [CM.stmt, CM.rest, CM.raises, CM.calls, CM.opt, h, is_ne h (show ([99, 114, 101, 97, 116, 101] : B) ≠ [98, 101, 103, 105, 110] from by decide), is_ne h (show ([115, 101, 108, 101, 99, 116] : B) ≠ [98, 101, 103, 105, 110] from by decide), is_ne h (show ([99, 111, 109, 109, 105, 116] : B) ≠ [98, 101, 103, 105, 110] from by decide), is_ne h (show ([114, 111, 108, 108, 98, 97, 99, 107] : B) ≠ [98, 101, 103, 105, 110] from by decide), is_ne h (show ([114, 97, 105, 115, 101] : B) ≠ [98, 101, 103, 105, 110] from by decide), is_ne h (show ([99, 97, 108, 108] : B) ≠ [98, 101, 103, 105, 110] from by decide), is_ne h (show ([105, 110, 115, 101, 114, 116] : B) ≠ [98, 101, 103, 105, 110] from by decide), is_ne h (show ([117, 112, 100, 97, 116, 101] : B) ≠ [98, 101, 103, 105, 110] from by decide), is_ne h (show ([100, 101, 108, 101, 116, 101] : B) ≠ [98, 101, 103, 105, 110] from by decide), if_true, if_false, Bool.false_eq_true]
theorem stmt_commit {n : Nat} {d : Int} {l : List Tok} (h : CM.is [99, 111, 109, 109, 105, 116] l = true) : CM.stmt n d l = CM.ret (PM.St.ofKind 10) l.tail := by
 simp only [CM.stmt, CM.rest, CM.raises, CM.calls, CM.opt, h, is_ne h (show ([99, 114, 101, 97, 116, 101] : B) ≠ [99, 111, 109, 109, 105, 116] from by decide), is_ne h (show ([115, 101, 108, 101, 99, 116] : B) ≠ [99, 111, 109, 109, 105, 116] from by decide), is_ne h (show ([98, 101, 103, 105, 110] : B) ≠ [99, 111, 109, 109, 105, 116] from by decide), is_ne h (show ([114, 111, 108, 108, 98, 97, 99, 107] : B) ≠ [99, 111, 109, 109, 105, 116] from by decide), is_ne h (show ([114, 97, 105, 115, 101] : B) ≠ [99, 111, 109, 109, 105, 116] from by decide), is_ne h (show ([99, 97, 108, 108] : B) ≠ [99, 111, 109, 109, 105, 116] from by decide), is_ne h (show ([105, 110, 115, 101, 114, 116] : B) ≠ [99, 111, 109, 109, 105, 116] from by decide), is_ne h (show ([117, 112, 100, 97, 116, 101] : B) ≠ [99, 111, 109, 109, 105, 116] from by decide), is_ne h (show ([100, 101, 108, 101, 116, 101] : B) ≠ [99, 111, 109, 109, 105, 116] from by decide), if_true, if_false, Bool.false_eq_true]
theorem stmt_rollback {n : Nat} {d : Int} {l : List Tok} (h : CM.is [114, 111, 108, 108, 98, 97, 99, 107] l = true) : CM.stmt n d l = CM.ret (PM.St.ofKind 11) l.tail := by
 simp only [CM.stmt, CM.rest, CM.raises, CM.calls, CM.opt, h, is_ne h (show ([99, 114, 101, 97, 116, 101] : B) ≠ [114, 111, 108, 108, 98, 97, 99, 107] from by decide), is_ne h (show ([115, 101, 108, 101, 99, 116] : B) ≠ [114, 111, 108, 108, 98, 97, 99, 107] from by decide), is_ne h (show ([98, 101, 103, 105, 110] : B) ≠ [114, 111, 108, 108, 98, 97, 99, 107] from by decide), is_ne h (show ([99, 111, 109, 109, 105, 116] : B) ≠ [114, 111, 108, 108, 98, 97, 99, 107] from by decide), is_ne h (show ([114, 97, 105, 115, 101] : B) ≠ [114, 111, 108, 108, 98, 97, 99, 107] from by decide), is_ne h (show ([99, 97, 108, 108] : B) ≠ [114, 111, 108, 108, 98, 97, 99, 107] from by decide), is_ne h (show ([105, 110, 115, 101, 114, 116] : B) ≠ [114, 111, 108, 108, 98, 97, 99, 107] from by decide), is_ne h (show ([117, 112, 100, 97, 116, 101] : B) ≠ [114, 111, 108, 108, 98, 97, 99, 107] from by decide), is_ne h (show ([100, 101, 108, 101, 116, 101] : B) ≠ [114, 111, 108, 108, 98, 97, 99, 107] from by decide), if_true, if_false, Bool.false_eq_true]
theorem stmt_raise {n : Nat} {d : Int} {l : List Tok} (h : CM.is [114, 97, 105, 115, 101] l = true) : CM.stmt n d l = CM.raises l.tail := by
 simp only [CM.stmt, CM.rest, CM.raises, CM.calls, CM.opt, h, is_ne h (show ([99, 114, 101, 97, 116, 101] : B) ≠ [114, 97, 105, 115, 101] from by decide), is_ne h (show ([115, 101, 108, 101, 99, 116] : B) ≠ [114, 97, 105, 115, 101] from by decide), is_ne h (show ([98, 101, 103, 105, 110] : B) ≠ [114, 97, 105, 115, 101] from by decide), is_ne h (show ([99, 111, 109, 109, 105, 116] : B) ≠ [114, 97, 105, 115, 101] from by decide), is_ne h (show ([114, 111, 108, 108, 98, 97, 99, 107] : B) ≠ [114, 97, 105, 115, 101] from by decide), is_ne h (show ([99, 97, 108, 108] : B) ≠ [114, 97, 105, 115, 101] from by decide), is_ne h (show ([105, 110, 115, 101, 114, 116] : B) ≠ [114, 97, 105, 115, 101] from by decide), is_ne h (show ([117, 112, 100, 97, 116, 101] : B) ≠ [114, 97, 105, 115, 101] from by decide), is_ne h (show ([100, 101, 108, 101, 116, 101] : B) ≠ [114, 97, 105, 115, 101] from by decide), if_true, if_false, Bool.false_eq_true]
theorem stmt_call {n : Nat} {d : Int} {l : List Tok} (h : CM.is [99, 97, 108, 108] l = true) : CM.stmt n d l = CM.calls l.tail := by
 simp only [CM.stmt, CM.rest, CM.raises, CM.calls, CM.opt, h, is_ne h (show ([99, 114, 101, 97, 116, 101] : B) ≠ [99, 97, 108, 108] from by decide), is_ne h (show ([115, 101, 108, 101, 99, 116] : B) ≠ [99, 97, 108, 108] from by decide), is_ne h (show ([98, 101, 103, 105, 110] : B) ≠ [99, 97, 108, 108] from by decide), is_ne h (show ([99, 111, 109, 109, 105, 116] : B) ≠ [99, 97, 108, 108] from by decide), is_ne h (show ([114, 111, 108, 108, 98, 97, 99, 107] : B) ≠ [99, 97, 108, 108] from by decide), is_ne h (show ([114, 97, 105, 115, 101] : B) ≠ [99, 97, 108, 108] from by decide), is_ne h (show ([105, 110, 115, 101, 114, 116] : B) ≠ [99, 97, 108, 108] from by decide), is_ne h (show ([117, 112, 100, 97, 116, 101] : B) ≠ [99, 97, 108, 108] from by decide), is_ne h (show ([100, 101, 108, 101, 116, 101] : B) ≠ [99, 97, 108, 108] from by decide), if_true, if_false, Bool.false_eq_true]
theorem stmt_else {n : Nat} {d : Int} {l : List Tok} (h0 : CM.is [99, 114, 101, 97, 116, 101] l = false) (h1 : CM.is [115, 101, 108, 101, 99, 116] l = false) (h2 : CM.is [98, 101, 103, 105, 110] l = false) (h3 : CM.is [99, 111, 109, 109, 105, 116] l = false) (h4 : CM.is [114, 111, 108, 108, 98, 97, 99, 107] l = false) (h5 : CM.is [114, 97, 105, 115, 101] l = false) (h6 : CM.is [99, 97, 108, 108] l = false) : CM.stmt n d l = CM.writes n d (CM.err 5) l := by
 simp only [CM.stmt, CM.rest, CM.writes, CM.opt, h0, h1, h2, h3, h4, h5, h6, if_false, Bool.false_eq_true]
theorem St.s_at {n : Nat} {w : B} {f : Int -> CM.P PM.St} {s s1 s2 : PS} {y : PM.St} (hc : ∀ d, CM.is w s.l = true -> CM.stmt n d s.l = f d s.l.tail) (ht : taken w s = true) (he : s1 = skip s) (h : St f s1 y s2) : St (fun d => CM.stmt n d) s y s2 := by
 subst he
 exact St.at (c' := fun d l => f d l.tail) (fun _ => hc _ (taken_pos ht).2) (St.skipc (taken_pos ht).1 h)
set_option maxRecDepth 1000000 in
set_option maxHeartbeats 8000000 in
theorem stmt_any (n : Nat) (P : Nat) (s : PS) (w : World) (h : RR w P s) (hw : Wd s) (hn : s.l.length <= n) (h0 : s.e = 0) :
  Calls Tryz.prog 21 #[.pointer (some ⟨P, 0, none⟩)] w (StO (fun d => CM.stmt n d) P s w) := by
 have hPl := h.lt
 have HH0 := Hd (h.alloc (.cells #[.int .i64 0, .string ⟨#[]⟩, .string ⟨#[]⟩, .slice none 0 0, .slice none 0 0, .slice none 0 0, .slice none 0 0, .string ⟨#[]⟩, .slice none 0 0, .slice none 0 0, .slice none 0 0, .bool false, .slice none 0 0] 29))
 have HD0 := Hd (Dp.refl hw)
 have HB0 := Hd (Blk.new w 29 [.int .i64 0, .string ⟨#[]⟩, .string ⟨#[]⟩, .slice none 0 0, .slice none 0 0, .slice none 0 0, .slice none 0 0, .string ⟨#[]⟩, .slice none 0 0, .slice none 0 0, .slice none 0 0, .bool false, .slice none 0 0])
 have HF0 := Hd ((Fr.refl [some P] w).alloc (.cells #[.int .i64 0, .string ⟨#[]⟩, .string ⟨#[]⟩, .slice none 0 0, .slice none 0 0, .slice none 0 0, .slice none 0 0, .string ⟨#[]⟩, .slice none 0 0, .slice none 0 0, .slice none 0 0, .bool false, .slice none 0 0] 29))
 clear h hw
 go_enter Tryz.func21, Tryz.ntmps21
 go_upto_region 1 with fail
 generalize hw0e : w.alloc (.cells #[.int .i64 0, .string ⟨#[]⟩, .string ⟨#[]⟩, .slice none 0 0, .slice none 0 0, .slice none 0 0, .slice none 0 0, .string ⟨#[]⟩, .slice none 0 0, .slice none 0 0, .slice none 0 0, .bool false, .slice none 0 0] 29) = w0 at HH0 HB0 HF0 ⊢
 clear hw0e
 have hb0 := HB0.out.lt
 have hp0 := HH0.out.lt
 have HE0 := Hd h0
 clear h0
 go_wp2_with fail
 refine (take_any P [99, 114, 101, 97, 116, 101] s _ HH0.out).mono ?_
 rintro e w21 ⟨rfl, h, hf⟩
 have HFt21 := Hd hf
 have HHt21 := Hd h
 clear h hf
 cases ht : taken [99, 114, 101, 97, 116, 101] s with
 |true =>
  have HT21 := Hd ht
  have hf := HFt21.out
  have hh : RR w21 P (skip s) := by have := HHt21.out; rw [took, ht] at this; exact this
  clear ht HFt21 HHt21
  have hlt21 := skip_lt HT21.out
  have HB21 := Hd (HB0.out.keep hf (by simp; omega))
  have HF21 := Hd (HF0.out.trans hf)
  have HH21 := Hd hh
  have HD21 := Hd (HD0.out.trans (Dp.skip HD0.out.wd))
  obtain ⟨s21, hs21⟩ : ∃ z, z = (skip s) := ⟨_, rfl⟩
  rw [<- hs21] at HH21 HD21 hlt21
  have HQ21 := Hd hs21
  clear hs21
  have hb21 := HB21.out.lt
  have hp21 := HH21.out.lt
  clear hf HH0 HB0 HF0 HD0
  clear hh
  have hle22 : s21.l.length <= n := by have := HD21.out.len; omega
  go_wp2_with fail
  refine (create_any n P s21 _ HH21.out HD21.out.wd hle22).mono ?_
  rintro e w22 ⟨y, sx, hy, h, hst, hd, hf⟩
  obtain ⟨kind, table, name, join, a3, a4, a5, a6, a8, a9, a10, a12, l3, l4, l5, l6, l8, l9, l10, l12, c3, c4, c5, c6, c8, c9, c10, c12, desc, rfl, hsr⟩ := Px.st_cells hy
  have HSR := Hd (Px.SR.mono (A' := fun b => w.heap.size < b) (fun b hb => by omega) hsr)
  have HSi := Hd hst
  clear hst hy hsr
  have HB22 := Hd (HB21.out.keep hf (by simp; omega))
  have HF22 := Hd (HF21.out.trans hf)
  have HH22 := Hd h
  have HD22 := Hd (HD21.out.trans hd)
  obtain ⟨s22, hs22⟩ : ∃ z, z = sx := ⟨_, rfl⟩
  rw [<- hs22] at HH22 HD22 HSi
  have HQ22 := Hd hs22
  clear hs22
  have hb22 := HB22.out.lt
  have hp22 := HH22.out.lt
  clear hf HH21 HB21 HF21 HD21
  clear h hd
  have HS := Hd (St.s_at (n := n) (f := fun d => CM.create n d) (fun d => stmt_create) HT21.out HQ21.out HSi.out)
  obtain ⟨y0, y1, y2, y3, y4, y5, y6, y7, y8, y9, y10, y11, y12, k0, k1, k2, k3, k4, k5, k6, k7, k8, k9, k10, k11, k12⟩ := c13_of HB22.out
  go_wp2_with fail
  exact bodyPost_ret (ret_cell13 rfl _ w.heap.size rfl _ _ _ _ _ _ _ _ _ _ _ _ _ _ (blkPut13 HB22.out _ _ _ _ _ _ _ _ _ _ _ _ _)) rfl ⟨y, s22, ⟨_, rfl, Px.SR.mono (A' := fun b => w.heap.size <= b) (fun b hb => Nat.le_of_lt hb) (Px.SR.keep (frPut13 (Fr.refl [some w.heap.size] _) (.inl (by simp)) _ _ _ _ _ _ _ _ _ _ _ _ _) (fun b hb => by simp; omega) HSR.out)⟩, HH22.out.keepP (frPut13 (Fr.refl [some w.heap.size] _) (.inl (by simp)) _ _ _ _ _ _ _ _ _ _ _ _ _) (fun g hg => by simp; omega), HS.out, HD22.out, frPut13 HF22.out (.inr (Nat.le_refl _)) _ _ _ _ _ _ _ _ _ _ _ _ _⟩
 |false =>
  have HT21 := Hd ht
  have hf := HFt21.out
  have hh : RR w21 P s := by have := HHt21.out; rw [took, ht] at this; exact this
  clear ht HFt21 HHt21
  have HB21 := Hd (HB0.out.keep hf (by simp; omega))
  have HF21 := Hd (HF0.out.trans hf)
  have HH21 := Hd hh
  have HD21 := Hd (HD0.out.trans (Dp.refl HD0.out.wd))
  have hb21 := HB21.out.lt
  have hp21 := HH21.out.lt
  clear hf HH0 HB0 HF0 HD0
  clear hh
  go_wp2_with fail
  refine (is_any P [115, 101, 108, 101, 99, 116] s _ HH21.out).mono ?_
  rintro e w22 ⟨rfl, hf0⟩
  have hf : Fr [some P] _ w22 := hf0.mono (by simp)
  have HB22 := Hd (HB21.out.keep hf (by simp; omega))
  have HF22 := Hd (HF21.out.trans hf)
  have HH22 := Hd (HH21.out.keepP hf0 (by simp))
  have HD22 := Hd (HD21.out.trans (Dp.refl HD21.out.wd))
  have hb22 := HB22.out.lt
  have hp22 := HH22.out.lt
  clear hf HH21 HB21 HF21 HD21
  clear hf0
  cases ht : CM.is [115, 101, 108, 101, 99, 116] s.l with
  |true =>
   have HTi := Hd ht
   clear ht
   have hle23 : s.l.length <= n := by have := HD22.out.len; omega
   go_wp2_with fail
   refine (selected_any n P s _ HH22.out HD22.out.wd hle23).mono ?_
   rintro e w23 ⟨y, sx, hy, h, hst, hd, hf⟩
   obtain ⟨kind, table, name, join, a3, a4, a5, a6, a8, a9, a10, a12, l3, l4, l5, l6, l8, l9, l10, l12, c3, c4, c5, c6, c8, c9, c10, c12, desc, rfl, hsr⟩ := Px.st_cells hy
   have HSR := Hd (Px.SR.mono (A' := fun b => w.heap.size < b) (fun b hb => by omega) hsr)
   have HSi := Hd hst
   clear hst hy hsr
   have HB23 := Hd (HB22.out.keep hf (by simp; omega))
   have HF23 := Hd (HF22.out.trans hf)
   have HH23 := Hd h
   have HD23 := Hd (HD22.out.trans hd)
   obtain ⟨s23, hs23⟩ : ∃ z, z = sx := ⟨_, rfl⟩
   rw [<- hs23] at HH23 HD23 HSi
   have HQ23 := Hd hs23
   clear hs23
   have hb23 := HB23.out.lt
   have hp23 := HH23.out.lt
   clear hf HH22 HB22 HF22 HD22
   clear h hd
   have HS := Hd (St.at (c := fun d => CM.stmt n d) (c' := selectsW n) (fun _ => stmt_select HTi.out) HSi.out)
   obtain ⟨y0, y1, y2, y3, y4, y5, y6, y7, y8, y9, y10, y11, y12, k0, k1, k2, k3, k4, k5, k6, k7, k8, k9, k10, k11, k12⟩ := c13_of HB23.out
   go_wp2_with fail
   exact bodyPost_ret (ret_cell13 rfl _ w.heap.size rfl _ _ _ _ _ _ _ _ _ _ _ _ _ _ (blkPut13 HB23.out _ _ _ _ _ _ _ _ _ _ _ _ _)) rfl ⟨y, s23, ⟨_, rfl, Px.SR.mono (A' := fun b => w.heap.size <= b) (fun b hb => Nat.le_of_lt hb) (Px.SR.keep (frPut13 (Fr.refl [some w.heap.size] _) (.inl (by simp)) _ _ _ _ _ _ _ _ _ _ _ _ _) (fun b hb => by simp; omega) HSR.out)⟩, HH23.out.keepP (frPut13 (Fr.refl [some w.heap.size] _) (.inl (by simp)) _ _ _ _ _ _ _ _ _ _ _ _ _) (fun g hg => by simp; omega), HS.out, HD23.out, frPut13 HF23.out (.inr (Nat.le_refl _)) _ _ _ _ _ _ _ _ _ _ _ _ _⟩
  |false =>
   have HTs := Hd ht
   clear ht
   go_wp2_with fail
   refine (take_any P [98, 101, 103, 105, 110] s _ HH22.out).mono ?_
   rintro e w23 ⟨rfl, h, hf⟩
   have HFt23 := Hd hf
   have HHt23 := Hd h
   clear h hf
   cases ht : taken [98, 101, 103, 105, 110] s with
   |true =>
    have HT23 := Hd ht
    have hf := HFt23.out
    have hh : RR w23 P (skip s) := by have := HHt23.out; rw [took, ht] at this; exact this
    clear ht HFt23 HHt23
    have hlt23 := skip_lt HT23.out
    have HB23 := Hd (HB22.out.keep hf (by simp; omega))
    have HF23 := Hd (HF22.out.trans hf)
    have HH23 := Hd hh
    have HD23 := Hd (HD22.out.trans (Dp.skip HD22.out.wd))
    obtain ⟨s23, hs23⟩ : ∃ z, z = (skip s) := ⟨_, rfl⟩
    rw [<- hs23] at HH23 HD23 hlt23
    have HQ23 := Hd hs23
    clear hs23
    have hb23 := HB23.out.lt
    have hp23 := HH23.out.lt
    clear hf HH22 HB22 HF22 HD22
    clear hh
    have HS := Hd (St.s_at (n := n) (f := fun _ => CM.ret (PM.St.ofKind 9)) (fun d => stmt_begin) HT23.out HQ23.out (St.ret _ _))
    obtain ⟨y0, y1, y2, y3, y4, y5, y6, y7, y8, y9, y10, y11, y12, k0, k1, k2, k3, k4, k5, k6, k7, k8, k9, k10, k11, k12⟩ := c13_of HB23.out
    go_wp2_with fail
    exact bodyPost_ret (ret_cell13 rfl _ w.heap.size rfl _ _ _ _ _ _ _ _ _ _ _ _ _ _ (blkPut13 HB23.out _ _ _ _ _ _ _ _ _ _ _ _ _)) rfl ⟨PM.St.ofKind 9, s23, ⟨_, rfl, .mk 9 [] [] [] [] [] [] [] [] [] [] false [] _ _ _ _ _ _ _ _ .nil .nil Rep.Es.nil .nil Rep.Es.nil Rep.Es.nil Rep.Es.nil Px.SS.nil⟩, HH23.out.keepP (frPut13 (Fr.refl [some w.heap.size] _) (.inl (by simp)) _ _ _ _ _ _ _ _ _ _ _ _ _) (fun g hg => by simp; omega), HS.out, HD23.out, frPut13 HF23.out (.inr (Nat.le_refl _)) _ _ _ _ _ _ _ _ _ _ _ _ _⟩
   |false =>
    have HT23 := Hd ht
    have hf := HFt23.out
    have hh : RR w23 P s := by have := HHt23.out; rw [took, ht] at this; exact this
    clear ht HFt23 HHt23
    have HB23 := Hd (HB22.out.keep hf (by simp; omega))
    have HF23 := Hd (HF22.out.trans hf)
    have HH23 := Hd hh
    have HD23 := Hd (HD22.out.trans (Dp.refl HD22.out.wd))
    have hb23 := HB23.out.lt
    have hp23 := HH23.out.lt
    clear hf HH22 HB22 HF22 HD22
    clear hh
    go_wp2_with fail
    refine (take_any P [99, 111, 109, 109, 105, 116] s _ HH23.out).mono ?_
    rintro e w24 ⟨rfl, h, hf⟩
    have HFt24 := Hd hf
    have HHt24 := Hd h
    clear h hf
    cases ht : taken [99, 111, 109, 109, 105, 116] s with
    |true =>
     have HT24 := Hd ht
     have hf := HFt24.out
     have hh : RR w24 P (skip s) := by have := HHt24.out; rw [took, ht] at this; exact this
     clear ht HFt24 HHt24
     have hlt24 := skip_lt HT24.out
     have HB24 := Hd (HB23.out.keep hf (by simp; omega))
     have HF24 := Hd (HF23.out.trans hf)
     have HH24 := Hd hh
     have HD24 := Hd (HD23.out.trans (Dp.skip HD23.out.wd))
     obtain ⟨s24, hs24⟩ : ∃ z, z = (skip s) := ⟨_, rfl⟩
     rw [<- hs24] at HH24 HD24 hlt24
     have HQ24 := Hd hs24
     clear hs24
     have hb24 := HB24.out.lt
     have hp24 := HH24.out.lt
     clear hf HH23 HB23 HF23 HD23
     clear hh
     have HS := Hd (St.s_at (n := n) (f := fun _ => CM.ret (PM.St.ofKind 10)) (fun d => stmt_commit) HT24.out HQ24.out (St.ret _ _))
     obtain ⟨y0, y1, y2, y3, y4, y5, y6, y7, y8, y9, y10, y11, y12, k0, k1, k2, k3, k4, k5, k6, k7, k8, k9, k10, k11, k12⟩ := c13_of HB24.out
     go_wp2_with fail
     exact bodyPost_ret (ret_cell13 rfl _ w.heap.size rfl _ _ _ _ _ _ _ _ _ _ _ _ _ _ (blkPut13 HB24.out _ _ _ _ _ _ _ _ _ _ _ _ _)) rfl ⟨PM.St.ofKind 10, s24, ⟨_, rfl, .mk 10 [] [] [] [] [] [] [] [] [] [] false [] _ _ _ _ _ _ _ _ .nil .nil Rep.Es.nil .nil Rep.Es.nil Rep.Es.nil Rep.Es.nil Px.SS.nil⟩, HH24.out.keepP (frPut13 (Fr.refl [some w.heap.size] _) (.inl (by simp)) _ _ _ _ _ _ _ _ _ _ _ _ _) (fun g hg => by simp; omega), HS.out, HD24.out, frPut13 HF24.out (.inr (Nat.le_refl _)) _ _ _ _ _ _ _ _ _ _ _ _ _⟩
    |false =>
     have HT24 := Hd ht
     have hf := HFt24.out
     have hh : RR w24 P s := by have := HHt24.out; rw [took, ht] at this; exact this
     clear ht HFt24 HHt24
     have HB24 := Hd (HB23.out.keep hf (by simp; omega))
     have HF24 := Hd (HF23.out.trans hf)
     have HH24 := Hd hh
     have HD24 := Hd (HD23.out.trans (Dp.refl HD23.out.wd))
     have hb24 := HB24.out.lt
     have hp24 := HH24.out.lt
     clear hf HH23 HB23 HF23 HD23
     clear hh
     go_wp2_with fail
     refine (take_any P [114, 111, 108, 108, 98, 97, 99, 107] s _ HH24.out).mono ?_
     rintro e w25 ⟨rfl, h, hf⟩
     have HFt25 := Hd hf
     have HHt25 := Hd h
     clear h hf
     cases ht : taken [114, 111, 108, 108, 98, 97, 99, 107] s with
     |true =>
      have HT25 := Hd ht
      have hf := HFt25.out
      have hh : RR w25 P (skip s) := by have := HHt25.out; rw [took, ht] at this; exact this
      clear ht HFt25 HHt25
      have hlt25 := skip_lt HT25.out
      have HB25 := Hd (HB24.out.keep hf (by simp; omega))
      have HF25 := Hd (HF24.out.trans hf)
      have HH25 := Hd hh
      have HD25 := Hd (HD24.out.trans (Dp.skip HD24.out.wd))
      obtain ⟨s25, hs25⟩ : ∃ z, z = (skip s) := ⟨_, rfl⟩
      rw [<- hs25] at HH25 HD25 hlt25
      have HQ25 := Hd hs25
      clear hs25
      have hb25 := HB25.out.lt
      have hp25 := HH25.out.lt
      clear hf HH24 HB24 HF24 HD24
      clear hh
      have HS := Hd (St.s_at (n := n) (f := fun _ => CM.ret (PM.St.ofKind 11)) (fun d => stmt_rollback) HT25.out HQ25.out (St.ret _ _))
      obtain ⟨y0, y1, y2, y3, y4, y5, y6, y7, y8, y9, y10, y11, y12, k0, k1, k2, k3, k4, k5, k6, k7, k8, k9, k10, k11, k12⟩ := c13_of HB25.out
      go_wp2_with fail
      exact bodyPost_ret (ret_cell13 rfl _ w.heap.size rfl _ _ _ _ _ _ _ _ _ _ _ _ _ _ (blkPut13 HB25.out _ _ _ _ _ _ _ _ _ _ _ _ _)) rfl ⟨PM.St.ofKind 11, s25, ⟨_, rfl, .mk 11 [] [] [] [] [] [] [] [] [] [] false [] _ _ _ _ _ _ _ _ .nil .nil Rep.Es.nil .nil Rep.Es.nil Rep.Es.nil Rep.Es.nil Px.SS.nil⟩, HH25.out.keepP (frPut13 (Fr.refl [some w.heap.size] _) (.inl (by simp)) _ _ _ _ _ _ _ _ _ _ _ _ _) (fun g hg => by simp; omega), HS.out, HD25.out, frPut13 HF25.out (.inr (Nat.le_refl _)) _ _ _ _ _ _ _ _ _ _ _ _ _⟩
     |false =>
      have HT25 := Hd ht
      have hf := HFt25.out
      have hh : RR w25 P s := by have := HHt25.out; rw [took, ht] at this; exact this
      clear ht HFt25 HHt25
      have HB25 := Hd (HB24.out.keep hf (by simp; omega))
      have HF25 := Hd (HF24.out.trans hf)
      have HH25 := Hd hh
      have HD25 := Hd (HD24.out.trans (Dp.refl HD24.out.wd))
      have hb25 := HB25.out.lt
      have hp25 := HH25.out.lt
      clear hf HH24 HB24 HF24 HD24
      clear hh
      go_wp2_with fail
      refine (take_any P [114, 97, 105, 115, 101] s _ HH25.out).mono ?_
      rintro e w26 ⟨rfl, h, hf⟩
      have HFt26 := Hd hf
      have HHt26 := Hd h
      clear h hf
      cases ht : taken [114, 97, 105, 115, 101] s with
      |true =>
       have HT26 := Hd ht
       have hf := HFt26.out
       have hh : RR w26 P (skip s) := by have := HHt26.out; rw [took, ht] at this; exact this
       clear ht HFt26 HHt26
       have hlt26 := skip_lt HT26.out
       have HB26 := Hd (HB25.out.keep hf (by simp; omega))
       have HF26 := Hd (HF25.out.trans hf)
       have HH26 := Hd hh
       have HD26 := Hd (HD25.out.trans (Dp.skip HD25.out.wd))
       obtain ⟨s26, hs26⟩ : ∃ z, z = (skip s) := ⟨_, rfl⟩
       rw [<- hs26] at HH26 HD26 hlt26
       have HQ26 := Hd hs26
       clear hs26
       have hb26 := HB26.out.lt
       have hp26 := HH26.out.lt
       clear hf HH25 HB25 HF25 HD25
       clear hh
       go_wp2_with fail
       refine (tags_any P s26 _ HH26.out HD26.out.wd).mono ?_
       rintro e w27 ⟨tl, v, sx, rfl, hv, h, hst, hd, hf⟩
       obtain ⟨ta, tn, tc, rfl⟩ := Px.FlatS.form hv
       have HSi := Hd hst
       have HVt := Hd (Px.FlatS.mono (A' := fun b => w.heap.size < b) (fun b hb => by omega) hv)
       clear hst hv
       have HB27 := Hd (HB26.out.keep hf (by simp; omega))
       have HF27 := Hd (HF26.out.trans hf)
       have HH27 := Hd h
       have HD27 := Hd (HD26.out.trans hd)
       obtain ⟨s27, hs27⟩ : ∃ z, z = sx := ⟨_, rfl⟩
       rw [<- hs27] at HH27 HD27 HSi
       have HQ27 := Hd hs27
       clear hs27
       have hb27 := HB27.out.lt
       have hp27 := HH27.out.lt
       clear hf HH26 HB26 HF26 HD26
       clear h hd
       have HS := Hd (St.s_at (n := n) (f := fun _ => CM.raises) (fun d => stmt_raise) HT26.out HQ26.out (St.bnd (d := fun ts _ => CM.ret (PM.St.mk 12 [] [] [] ts [] [] [] [] [] [] false [])) HSi.out (St.ret _ _)))
       obtain ⟨y0, y1, y2, y3, y4, y5, y6, y7, y8, y9, y10, y11, y12, k0, k1, k2, k3, k4, k5, k6, k7, k8, k9, k10, k11, k12⟩ := c13_of HB27.out
       go_wp2_with fail
       exact bodyPost_ret (ret_cell13 rfl _ w.heap.size rfl _ _ _ _ _ _ _ _ _ _ _ _ _ _ (blkPut13 HB27.out _ _ _ _ _ _ _ _ _ _ _ _ _)) rfl ⟨.mk 12 [] [] [] tl [] [] [] [] [] [] false [], s27, ⟨_, rfl, .mk 12 [] [] [] tl [] [] [] [] [] [] false [] _ _ _ _ _ _ _ _ .nil (Px.FlatS.mono (A' := fun b => w.heap.size <= b) (fun b hb => Nat.le_of_lt hb) (Px.FlatS.keep (frPut13 (Fr.refl [some w.heap.size] _) (.inl (by simp)) _ _ _ _ _ _ _ _ _ _ _ _ _) (fun b hb => by simp; omega) HVt.out)) Rep.Es.nil .nil Rep.Es.nil Rep.Es.nil Rep.Es.nil Px.SS.nil⟩, HH27.out.keepP (frPut13 (Fr.refl [some w.heap.size] _) (.inl (by simp)) _ _ _ _ _ _ _ _ _ _ _ _ _) (fun g hg => by simp; omega), HS.out, HD27.out, frPut13 HF27.out (.inr (Nat.le_refl _)) _ _ _ _ _ _ _ _ _ _ _ _ _⟩
      |false =>
       have HT26 := Hd ht
       have hf := HFt26.out
       have hh : RR w26 P s := by have := HHt26.out; rw [took, ht] at this; exact this
       clear ht HFt26 HHt26
       have HB26 := Hd (HB25.out.keep hf (by simp; omega))
       have HF26 := Hd (HF25.out.trans hf)
       have HH26 := Hd hh
       have HD26 := Hd (HD25.out.trans (Dp.refl HD25.out.wd))
       have hb26 := HB26.out.lt
       have hp26 := HH26.out.lt
       clear hf HH25 HB25 HF25 HD25
       clear hh
       go_wp2_with fail
       refine (take_any P [99, 97, 108, 108] s _ HH26.out).mono ?_
       rintro e w27 ⟨rfl, h, hf⟩
       have HFt27 := Hd hf
       have HHt27 := Hd h
       clear h hf
       cases ht : taken [99, 97, 108, 108] s with
       |true =>
        have HT27 := Hd ht
        have hf := HFt27.out
        have hh : RR w27 P (skip s) := by have := HHt27.out; rw [took, ht] at this; exact this
        clear ht HFt27 HHt27
        have hlt27 := skip_lt HT27.out
        have HB27 := Hd (HB26.out.keep hf (by simp; omega))
        have HF27 := Hd (HF26.out.trans hf)
        have HH27 := Hd hh
        have HD27 := Hd (HD26.out.trans (Dp.skip HD26.out.wd))
        obtain ⟨s27, hs27⟩ : ∃ z, z = (skip s) := ⟨_, rfl⟩
        rw [<- hs27] at HH27 HD27 hlt27
        have HQ27 := Hd hs27
        clear hs27
        have hb27 := HB27.out.lt
        have hp27 := HH27.out.lt
        clear hf HH26 HB26 HF26 HD26
        clear hh
        go_wp2_with fail
        refine (name_any P s27 _ HH27.out).mono ?_
        rintro e w28 ⟨m28, rfl, h, hst, hf⟩
        have HS28 := Hd hst
        clear hst
        have HB28 := Hd (HB27.out.keep hf (by simp; omega))
        have HF28 := Hd (HF27.out.trans hf)
        have HH28 := Hd h
        have HD28 := Hd (HD27.out.trans (Dp.worded HD27.out.wd 1))
        obtain ⟨s28, hs28⟩ : ∃ z, z = (worded 1 s27) := ⟨_, rfl⟩
        rw [<- hs28] at HH28 HD28 HS28
        have HQ28 := Hd hs28
        clear hs28
        have hb28 := HB28.out.lt
        have hp28 := HH28.out.lt
        clear hf HH27 HB27 HF27 HD27
        clear h
        have HS := Hd (St.s_at (n := n) (f := fun _ => CM.calls) (fun d => stmt_call) HT27.out HQ27.out (St.bnd (d := fun m _ => CM.ret (PM.St.mk 13 [] m [] [] [] [] [] [] [] [] false [])) HS28.out (St.ret _ _)))
        obtain ⟨y0, y1, y2, y3, y4, y5, y6, y7, y8, y9, y10, y11, y12, k0, k1, k2, k3, k4, k5, k6, k7, k8, k9, k10, k11, k12⟩ := c13_of HB28.out
        go_wp2_with fail
        exact bodyPost_ret (ret_cell13 rfl _ w.heap.size rfl _ _ _ _ _ _ _ _ _ _ _ _ _ _ (blkPut13 HB28.out _ _ _ _ _ _ _ _ _ _ _ _ _)) rfl ⟨.mk 13 [] m28 [] [] [] [] [] [] [] [] false [], s28, ⟨_, rfl, .mk 13 [] m28 [] [] [] [] [] [] [] [] false [] _ _ _ _ _ _ _ _ .nil .nil Rep.Es.nil .nil Rep.Es.nil Rep.Es.nil Rep.Es.nil Px.SS.nil⟩, HH28.out.keepP (frPut13 (Fr.refl [some w.heap.size] _) (.inl (by simp)) _ _ _ _ _ _ _ _ _ _ _ _ _) (fun g hg => by simp; omega), HS.out, HD28.out, frPut13 HF28.out (.inr (Nat.le_refl _)) _ _ _ _ _ _ _ _ _ _ _ _ _⟩
       |false =>
        have HT27 := Hd ht
        have hf := HFt27.out
        have hh : RR w27 P s := by have := HHt27.out; rw [took, ht] at this; exact this
        clear ht HFt27 HHt27
        have HB27 := Hd (HB26.out.keep hf (by simp; omega))
        have HF27 := Hd (HF26.out.trans hf)
        have HH27 := Hd hh
        have HD27 := Hd (HD26.out.trans (Dp.refl HD26.out.wd))
        have hb27 := HB27.out.lt
        have hp27 := HH27.out.lt
        clear hf HH26 HB26 HF26 HD26
        clear hh
        have hle28 : s.l.length <= n := by have := HD27.out.len; omega
        go_wp2_with fail
        refine (writes_any n P s _ HH27.out HD27.out.wd hle28).mono ?_
        rintro e w28 ⟨y, sx, hy, h, hst, hd, hf⟩
        obtain ⟨kind, table, name, join, a3, a4, a5, a6, a8, a9, a10, a12, l3, l4, l5, l6, l8, l9, l10, l12, c3, c4, c5, c6, c8, c9, c10, c12, desc, rfl, hsr⟩ := Px.st_cells hy
        have HSR := Hd (Px.SR.mono (A' := fun b => w.heap.size < b) (fun b hb => by omega) hsr)
        have HSi := Hd hst
        clear hst hy hsr
        have HB28 := Hd (HB27.out.keep hf (by simp; omega))
        have HF28 := Hd (HF27.out.trans hf)
        have HH28 := Hd h
        have HD28 := Hd (HD27.out.trans hd)
        obtain ⟨s28, hs28⟩ : ∃ z, z = sx := ⟨_, rfl⟩
        rw [<- hs28] at HH28 HD28 HSi
        have HQ28 := Hd hs28
        clear hs28
        have hb28 := HB28.out.lt
        have hp28 := HH28.out.lt
        clear hf HH27 HB27 HF27 HD27
        clear h hd
        have HS := Hd (St.at (c := fun d => CM.stmt n d) (c' := fun d => CM.writes n d (CM.err 5)) (fun _ => stmt_else (taken_not HT21.out HE0.out) (HTs.out) (taken_not HT23.out HE0.out) (taken_not HT24.out HE0.out) (taken_not HT25.out HE0.out) (taken_not HT26.out HE0.out) (taken_not HT27.out HE0.out)) HSi.out)
        obtain ⟨y0, y1, y2, y3, y4, y5, y6, y7, y8, y9, y10, y11, y12, k0, k1, k2, k3, k4, k5, k6, k7, k8, k9, k10, k11, k12⟩ := c13_of HB28.out
        go_wp2_with fail
        exact bodyPost_ret (ret_cell13 rfl _ w.heap.size rfl _ _ _ _ _ _ _ _ _ _ _ _ _ _ (blkPut13 HB28.out _ _ _ _ _ _ _ _ _ _ _ _ _)) rfl ⟨y, s28, ⟨_, rfl, Px.SR.mono (A' := fun b => w.heap.size <= b) (fun b hb => Nat.le_of_lt hb) (Px.SR.keep (frPut13 (Fr.refl [some w.heap.size] _) (.inl (by simp)) _ _ _ _ _ _ _ _ _ _ _ _ _) (fun b hb => by simp; omega) HSR.out)⟩, HH28.out.keepP (frPut13 (Fr.refl [some w.heap.size] _) (.inl (by simp)) _ _ _ _ _ _ _ _ _ _ _ _ _) (fun g hg => by simp; omega), HS.out, HD28.out, frPut13 HF28.out (.inr (Nat.le_refl _)) _ _ _ _ _ _ _ _ _ _ _ _ _⟩
end Rf
end Go.Proofs.YtmdnhinpaflamaaGreatDoor
