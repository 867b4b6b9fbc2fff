/- How the document shows tags, a where, expressions. -/
import Derived.Test.YtmdnhinpaflamaaGreatDoorShB
import Derived.Test.YtmdnhinpaflamaaGreatDoorGaE
import Derived.Test.YtmdnhinpaflamaaGreatDoorShJ
set_option maxRecDepth 100000
set_option maxHeartbeats 2000000
namespace Go.Proofs.YtmdnhinpaflamaaGreatDoor
open Go.RowKit
set_option linter.unusedVariables false
set_option linter.unusedSimpArgs false
namespace Sh
open PM (Ex B)
open CM (Pr Qs Wr Sel Im Co Cl)
open Gn (sh)
open Px (SR SS ItS TagS ColS)
theorem jn_len {α : Type} (f : α -> B) : ∀ l : List α, 2 * l.length <= (jn f l).length + 2
 |[] => by simp
 |x :: r => by
  have key : ∀ r : List α, 2 * r.length <= (r.flatMap (fun y => 44 :: 32 :: f y)).length := fun r => by
   induction r with
   |nil => simp
   |cons y r ih => simp only [List.flatMap_cons, List.length_append, List.length_cons] at ih ⊢; omega
  have := key r
  simp only [jn, List.length_append, List.length_cons]
  omega
theorem tags_take (l : List Nat) (k : Nat) (h : k < l.length) : tagsT (l.take (k + 1)) = tagsT (l.take k) ++ (if k = 0 then [] else [44]) ++ 32 :: Lib.decDigits l[k] := by
 have h1 : (l.take (k + 1)).isEmpty = false := by
  cases l with
  |nil => simp at h
  |cons => rfl
 unfold tagsT
 rw [h1, jn_take _ _ _ h]
 cases k with
 |zero => simp [jn]
 |succ k =>
  have h2 : (l.take (k + 1)).isEmpty = false := by
   cases l with
   |nil => simp at h
   |cons => rfl
  rw [h2]
  simp
theorem tags_le (l : List Nat) (k : Nat) : (tagsT (l.take k)).length <= (tagsT l).length := by
 have := jn_le Lib.decDigits l k
 unfold tagsT
 cases l with
 |nil => simp
 |cons x r =>
  cases k with
  |zero => simp
  |succ k => simpa using this
theorem tags_any (l : List Nat) (hok : ∀ t ∈ l, t <= 65535) (hlen : (tagsT l).length <= 60000) (A : Nat -> Prop) (w : World) (v : Value) (h : Px.TagS A w v (l.map CM.tagI)) :
  Calls Tryz.prog 32 #[v] w fun e w' => e = .returned (.string (bt (tagsT l))) /\ Fr [] w w' := by
 obtain ⟨a, cap, rfl, hc⟩ := Gn.flat_cells (size := 1) (fun x => rfl) (by decide) h
 have HC := Hd hc
 have HOK := Hd hok
 have HLE := Hd hlen
 have hl : l.length <= 60000 := by
  have := jn_len Lib.decDigits l
  unfold tagsT at hlen
  cases l with
  |nil => simp
  |cons x r => simp at hlen this ⊢; omega
 rw [List.length_map]
 clear hc hok hlen h
 go_enter Tryz.func32, Tryz.ntmps32
 go_wp2_with fail
 go_loopw [3, 4] (fun s u wr => ∃ (k : Nat) (o : ByteArray), s = .string o /\ u = .int .i64 k /\ k <= l.length /\ (o.size : Int) <= 60000 /\ Hid (o = bt (tagsT (l.take k))) /\ Hid (Fr [] w wr)) (fun _ u _ => l.length - (intOf u).toNat)
 case atStart => exact ⟨0, _, rfl, rfl, Nat.zero_le _, by decide, Hd rfl, Hd (Fr.refl [] w)⟩
 case round =>
  obtain ⟨k, o, rfl, rfl, hk, ho, HO, HF⟩ := hrel
  have hli : (l.length : Int) <= 60000 := by omega
  by_cases hkl : k < l.length
  ·have hkl' : (k : Int) < l.length := by omega
   obtain ⟨g, off, rfl, _, hg, hcap, hcell⟩ := HC.out k (by simpa using hkl)
   have c0 := (HF.out.cell (p := ⟨g, off + k * 1 + 0, none⟩) hg (by simp)).trans (hcell 0 (by decide))
   obtain ⟨t, ht⟩ : ∃ t, l[k] = t := ⟨_, rfl⟩
   have HT := Hd ht
   have htl : t <= 65535 := by rw [<- ht]; exact HOK.out _ (List.getElem_mem _)
   simp only [Nat.mul_one, Nat.add_zero, List.getElem_map, ht, CM.tagI, Px.u16C, List.getD_cons_zero] at c0
   have HR := Hd (fun w => rshow_any (t : Int) w (ok_iff.2 (by omega)))
   have hi : Lib.itoa (t : Int) = Lib.decDigits t := by rw [Lib.itoa, if_neg (by omega)]; simp
   rw [hi] at HR
   have hdl : ((bt (Lib.decDigits t)).size : Int) <= 21 := by rw [bt_size]; have := Gn.dec_len (v := t) (by omega); omega
   have HST : Hid (o ++ (if k = 0 then bt [] else bt [44]) ++ (bt [32] ++ bt (Lib.decDigits t)) = bt (tagsT (l.take (k + 1)))) := Hd (by
    rw [HO.out, tags_take l k hkl, HT.out]
    split <;> simp only [bt_cat] <;> simp)
   have hnl : (bt (tagsT (l.take (k + 1)))).size <= 60000 := by rw [bt_size]; exact Nat.le_trans (tags_le l (k + 1)) HLE.out
   have hcl : (l.length : Int) <= cap := by simp at hcap; omega
   clear hcell ht hi HO
   change Hid (∀ w, Calls Tryz.prog _ _ w fun e w' => e = .returned (.string (bt (Lib.decDigits t))) /\ _) at HR
   generalize bt (Lib.decDigits t) = d at HR HST hdl
   by_cases hk0 : k = 0
   ·subst hk0
    simp only [Nat.zero_mul, Nat.add_zero] at c0
    have HS0 : Hid (o ++ ⟨#[32]⟩ ++ d = bt (tagsT (l.take (0 + 1)))) := Hd (by
     rw [<- HST.out, if_pos rfl]
     apply ByteArray.ext
     simp only [ByteArray.data_append]
     simp)
    go_wp2_with fail
    refine (HR.out _).mono ?_
    rintro e w3 ⟨rfl, hf3⟩
    go_wp2_with fail
    go_roundw
    case rel => exact ⟨0 + 1, _, congrArg Value.string HS0.out, by go_num, by omega, by omega, Hd rfl, Hd (HF.out.trans hf3)⟩
    case measure => simp only [intOf]; omega
   ·have hk1 : (0 : Int) < k := by omega
    have HS1 : Hid (o ++ ⟨#[44]⟩ ++ ⟨#[32]⟩ ++ d = bt (tagsT (l.take (k + 1)))) := Hd (by
     rw [<- HST.out, if_neg hk0]
     apply ByteArray.ext
     simp only [ByteArray.data_append, Array.append_assoc])
    go_wp2_with fail
    refine (HR.out _).mono ?_
    rintro e w3 ⟨rfl, hf3⟩
    go_wp2_with fail
    go_roundw
    case rel => exact ⟨k + 1, _, congrArg Value.string HS1.out, by go_num, by omega, by omega, Hd rfl, Hd (HF.out.trans hf3)⟩
    case measure => simp only [intOf]; omega
  ·obtain rfl : k = l.length := by omega
   go_wp2_with fail
   go_ret
   refine ⟨?_, HF.out⟩
   have e := HO.out
   rw [List.take_length] at e
   subst e
   rfl
theorem exprs_le (l : List Pr) (k : Nat) : (exprsT (l.take k)).length <= (exprsT l).length := jn_le sh l k
theorem exprs_any (l : List Pr) (hok : ∀ p ∈ l, p.ok = true) (hlen : (exprsT l).length <= 60000) (A : Nat -> Prop) (w : World) (v : Value) (h : Rep.Es 82 A w (l.map Pr.ex) v) :
  Calls Tryz.prog 33 #[v] w fun e w' => e = .returned (.string (bt (exprsT l))) /\ Fr [] w w' := by
 have HOK := Hd hok
 have HLE := Hd hlen
 have HES := Hd h
 have hl : l.length <= 60001 := by
  have := jn_len sh l
  unfold exprsT at hlen
  omega
 obtain ⟨a, n, cap, rfl⟩ := Rep.Es.form h
 have hn : n = l.length := by have := Px.es_len h; rwa [List.length_map] at this
 subst hn
 clear hok hlen h
 go_enter Tryz.func33, Tryz.ntmps33
 go_wp2_with fail
 go_loopw [3, 4] (fun s u wr => ∃ (k : Nat) (o : ByteArray), s = .string o /\ u = .int .i64 k /\ k <= l.length /\ (o.size : Int) <= 60000 /\ Hid (o = bt (exprsT (l.take k))) /\ Hid (Fr [] w wr)) (fun _ u _ => l.length - (intOf u).toNat)
 case atStart => exact ⟨0, _, rfl, rfl, Nat.zero_le _, by decide, Hd rfl, Hd (Fr.refl [] w)⟩
 case round =>
  obtain ⟨k, o, rfl, rfl, hk, ho, HO, HF⟩ := hrel
  have hli : (l.length : Int) <= 60001 := by omega
  by_cases hkl : k < l.length
  ·have hkl' : (k : Int) < l.length := by omega
   have KA := Rep.Es.keep HF.out (by simp) HES.out
   obtain ⟨g, off, cp, ys, e1, hcap, -, hy, hcy⟩ := KA.at k (by simpa using hkl)
   simp only [Value.slice.injEq] at e1
   obtain ⟨rfl, hx, rfl⟩ := e1
   rw [List.getElem_map] at hy
   obtain ⟨p, hp⟩ : ∃ p, l[k] = p := ⟨_, rfl⟩
   have HP := Hd hp
   rw [hp] at hy
   have hpok : p.ok = true := by rw [<- hp]; exact HOK.out _ (List.getElem_mem _)
   have HY := Hd hy
   obtain ⟨op, kind, int, text, table, name, args, b1, m1, d1, _, rfl, _⟩ := Sm.e_cells hy
   have a0 := hcy 0 _ rfl
   have a1 := hcy 1 _ rfl
   have a2 := hcy 2 _ rfl
   have a3 := hcy 3 _ rfl
   have a4 := hcy 4 _ rfl
   have a5 := hcy 5 _ rfl
   have a6 := hcy 6 _ rfl
   simp only [Nat.add_zero] at a0
   have hst : exprsT (l.take (k + 1)) = exprsT (l.take k) ++ (if k = 0 then [] else [44, 32]) ++ sh p := by unfold exprsT; rw [jn_take _ _ _ hkl, hp]
   have hnl : (exprsT (l.take (k + 1))).length <= 60000 := Nat.le_trans (exprs_le l (k + 1)) HLE.out
   have hpl : (sh p).length <= 60000 := by rw [hst, List.length_append] at hnl; omega
   have HE := Hd (shown_any p hpok hpl _ _ _ HY.out)
   have HST : Hid (o ++ (if k = 0 then bt [] else bt [44, 32]) ++ bt (sh p) = bt (exprsT (l.take (k + 1)))) := Hd (by
    rw [HO.out, hst]
    split <;> simp only [bt_cat])
   have hnb : ((bt (exprsT (l.take (k + 1)))).size : Int) <= 60000 := by rw [bt_size]; omega
   have hds : ((bt (sh p)).size : Int) <= 60000 := by rw [bt_size]; omega
   have hcl : (l.length : Int) <= cap := by rw [List.length_map] at hcap; omega
   clear hcy KA hy hst hnl hpl hp HO hx hcap hpok
   generalize bt (sh p) = d at HE HST hds
   by_cases hk0 : k = 0
   ·subst hk0
    simp only [Nat.zero_mul, Nat.add_zero] at a0 a1 a2 a3 a4 a5 a6
    have HS0 : Hid (o ++ d = bt (exprsT (l.take (0 + 1)))) := Hd (by
     rw [<- HST.out, if_pos rfl]
     apply ByteArray.ext
     simp only [ByteArray.data_append]
     simp)
    go_wp2_with fail
    refine HE.out.mono ?_
    rintro e w3 ⟨rfl, hf3⟩
    go_wp2_with fail
    go_roundw
    case rel => exact ⟨0 + 1, _, congrArg Value.string HS0.out, by go_num, by omega, by omega, Hd rfl, Hd (HF.out.trans hf3)⟩
    case measure => simp only [intOf]; omega
   ·have hk1 : (0 : Int) < k := by omega
    have HS1 : Hid (o ++ ⟨#[44, 32]⟩ ++ d = bt (exprsT (l.take (k + 1)))) := Hd (by
     rw [<- HST.out, if_neg hk0])
    go_wp2_with fail
    refine HE.out.mono ?_
    rintro e w3 ⟨rfl, hf3⟩
    go_wp2_with fail
    go_roundw
    case rel => exact ⟨k + 1, _, congrArg Value.string HS1.out, by go_num, by omega, by omega, Hd rfl, Hd (HF.out.trans hf3)⟩
    case measure => simp only [intOf]; omega
  ·obtain rfl : k = l.length := by omega
   go_wp2_with fail
   go_ret
   refine ⟨?_, HF.out⟩
   have e := HO.out
   rw [List.take_length] at e
   subst e
   rfl
theorem where_any (o : Option Pr) (hok : ∀ p, o = some p -> p.ok = true) (hlen : (whereT o).length <= 60000) (A : Nat -> Prop) (w : World) (v : Value) (h : Rep.Es 82 A w (CM.whE o) v) :
  Calls Tryz.prog 36 #[v] w fun e w' => e = .returned (.string (bt (whereT o))) /\ Fr [] w w' := by
 obtain ⟨a, n, cap, rfl⟩ := Rep.Es.form h
 have hn := Px.es_len h
 cases o with
 |none =>
  obtain rfl : n = 0 := hn
  clear h hok hlen
  go_enter Tryz.func36, Tryz.ntmps36
  go_wp2_with fail
  go_ret
  exact ⟨rfl, Fr.refl _ _⟩
 |some p =>
  obtain ⟨g, off, ys, rfl, rfl, hc, hg, hE, hcell⟩ := one_at h
  obtain ⟨op, kind, int, text, table, name, args, b1, m1, d1, _, rfl, _⟩ := Sm.e_cells hE
  obtain ⟨y0, y1, y2, y3, y4, y5, y6⟩ := sev hcell
  have hl : (sh p).length <= 60000 := by
   simp only [whereT, List.length_append] at hlen
   omega
  have HE := Hd (shown_any p (hok p rfl) hl _ _ _ hE)
  have HST : Hid (bt [32, 119, 104, 101, 114, 101, 32] ++ bt (sh p) = bt (whereT (some p))) := Hd (by rw [bt_cat]; rfl)
  have hds : ((bt (sh p)).size : Int) <= 60000 := by rw [bt_size]; omega
  have hcl : (1 : Int) <= cap := by omega
  clear h hE hcell hl hok hlen hn
  generalize bt (sh p) = d at HE HST hds
  go_enter Tryz.func36, Tryz.ntmps36
  go_wp2_with fail
  refine HE.out.mono ?_
  rintro e w3 ⟨rfl, hf3⟩
  go_wp2_with fail
  go_ret
  exact ⟨congrArg (fun z => Ending.returned (.string z)) HST.out, hf3⟩
end Sh
end Go.Proofs.YtmdnhinpaflamaaGreatDoor
