/- How the document shows a value, a column. -/
import Derived.Test.YtmdnhinpaflamaaGreatDoorGaD
import Derived.Deep.RegionHeld3
import Derived.Test.YtmdnhinpaflamaaGreatDoorLex
import Derived.Test.YtmdnhinpaflamaaGreatDoorPlA
import Derived.Test.YtmdnhinpaflamaaGreatDoorShelf
import Derived.Lib.LaidTab
import Derived.Lib.ItoaLen
import Derived.Lib.ReplaceLaws
namespace Go.Proofs.YtmdnhinpaflamaaGreatDoor
open Go.RowKit
set_option linter.unusedVariables false
namespace Sh
open PM (Ex B)
open CM (Pr)
open Gn (sh)
abbrev bt (l : B) : ByteArray := ⟨l.toArray⟩
theorem bt_cat (a b : B) : bt a ++ bt b = bt (a ++ b) := by
 apply ByteArray.ext
 rw [ByteArray.data_append]
 simp
theorem bt_size (a : B) : (bt a).size = a.length := by simp [ByteArray.size]
def colT (t n : B) : B := if t.isEmpty then n else t ++ [46] ++ n
theorem colT_one (n : B) : colT [] n = sh (.col n) := by rw [Gn.sh_col]; rfl
theorem colT_two {t n : B} (h : t ≠ []) : colT t n = sh (.tcol t n) := by
 rw [Gn.sh_tcol]
 cases t with
 |nil => exact absurd rfl h
 |cons => rfl
end Sh
end Go.Proofs.YtmdnhinpaflamaaGreatDoor
namespace Go.Proofs.YtmdnhinpaflamaaGreatDoor
open Go.RowKit
set_option linter.unusedVariables false
namespace Sh
open PM (Ex B)
open CM (Pr)
open Gn (sh opB)
theorem bs {s : ByteArray} {l : B} {n : Nat} (h : bt l = s) (hl : l.length <= n) : (s.size : Int) <= n := by rw [<- h, bt_size]; omega
theorem okName_len {t : B} (h : Pc.okName t = true) : t.length <= 16 := by
 simp only [Pc.okName, Bool.and_eq_true, decide_eq_true_eq] at h
 exact h.2
theorem okName_ne {t : B} (h : Pc.okName t = true) : t ≠ [] := by
 rintro rfl
 rw [show Pc.okName [] = false from by decide] at h
 cases h
end Sh
end Go.Proofs.YtmdnhinpaflamaaGreatDoor
namespace Go.Proofs.YtmdnhinpaflamaaGreatDoor
open Go.RowKit
namespace Pc
open LexM (Tok)
theorem head_app {l : B} (r : B) (h : l ≠ []) : (l ++ r).headD 0 = l.headD 0 := by
 cases l with
 |nil => exact absurd rfl h
 |cons => rfl
end Pc
end Go.Proofs.YtmdnhinpaflamaaGreatDoor
namespace Go.Proofs.YtmdnhinpaflamaaGreatDoor
open Go.RowKit
set_option linter.unusedVariables false
namespace Sh
open PM (Ex B)
open CM (Pr Qs Wr Sel Im Co Cl)
open Gn (sh)
variable {α : Type}
def jn (f : α -> B) : List α -> B
 |[] => []
 |x :: r => f x ++ r.flatMap (fun y => 44 :: 32 :: f y)
theorem co_gap1 (c : Co) : Pc.render (c.line 1) = 32 :: Pc.render (c.line 0) := rfl
theorem tg_gap1 (t : Nat) : Pc.render (CM.Tg 1 t) = 32 :: Pc.render (CM.Tg 0 t) := rfl
def clT (c : Cl) : B := Pc.render (c.line 0)
def imT (x : Im) : B := Pc.render (x.line 0)
def coT (c : Co) : B := Pc.render (c.line 0)
def exprsT (l : List Pr) : B := jn sh l
def itemsT (l : List Im) : B := if l.isEmpty then [42] else jn imT l
def tagsT (l : List Nat) : B := if l.isEmpty then [] else 32 :: jn Lib.decDigits l
def whereT (o : Option Pr) : B := match o with | none => [] | some p => [32, 119, 104, 101, 114, 101, 32] ++ sh p
def joinT (o : Option (B × Cl × Cl)) : B := match o with | none => [] | some (j, a, b) => [32, 106, 111, 105, 110, 32] ++ j ++ [32, 111, 110, 32] ++ clT a ++ [32, 61, 32] ++ clT b
def orderT (o : Option (Cl × Bool)) : B := match o with | none => [] | some (c, d) => [32, 111, 114, 100, 101, 114, 32, 98, 121, 32] ++ clT c ++ (if d then [32, 100, 101, 115, 99] else [])
def selT (s : Sel) : B := [115, 101, 108, 101, 99, 116, 32] ++ itemsT s.items ++ [32, 102, 114, 111, 109, 32] ++ s.table ++ joinT s.join ++ whereT s.wher ++ orderT s.order
def wrT : Wr -> B
 |.insert t x r => [105, 110, 115, 101, 114, 116, 32, 105, 110, 116, 111, 32] ++ t ++ [32, 118, 97, 108, 117, 101, 115, 40] ++ exprsT (x :: r) ++ [41]
 |.update t m x wh => [117, 112, 100, 97, 116, 101, 32] ++ t ++ [32, 115, 101, 116, 32] ++ m ++ [32, 61, 32] ++ sh x ++ whereT wh
 |.delete t wh => [100, 101, 108, 101, 116, 101, 32, 102, 114, 111, 109, 32] ++ t ++ whereT wh
def qsT : Qs -> B
 |.table m c r => [99, 114, 101, 97, 116, 101, 32, 116, 97, 98, 108, 101, 32] ++ m ++ [40] ++ jn coT (c :: r) ++ [41]
 |.index t m => [99, 114, 101, 97, 116, 101, 32, 105, 110, 100, 101, 120, 32, 111, 110, 32] ++ t ++ [40] ++ m ++ [41]
 |.view m tags s => [99, 114, 101, 97, 116, 101, 32, 118, 105, 101, 119, 32] ++ m ++ [32, 115, 116, 114, 105, 112] ++ tagsT tags ++ [32, 97, 115, 32] ++ selT s
 |.closure m tags s => [99, 114, 101, 97, 116, 101, 32, 99, 108, 111, 115, 117, 114, 101, 32] ++ m ++ [32, 115, 116, 114, 105, 112] ++ tagsT tags ++ [32, 97, 115, 32] ++ wrT s
 |.select s => selT s
 |.write s => wrT s
 |.plain k => CM.plainW k
 |.raise t r => [114, 97, 105, 115, 101] ++ tagsT (t :: r)
 |.call m => [99, 97, 108, 108, 32] ++ m
end Sh
end Go.Proofs.YtmdnhinpaflamaaGreatDoor
namespace Go.Proofs.YtmdnhinpaflamaaGreatDoor
open Go.RowKit
set_option linter.unusedVariables false
set_option linter.unusedSimpArgs false
namespace Sw
open PM (Ex B)
open CM (Pr)
open Gn (sh opB)
open Sh (bt bt_cat bt_size colT bs)
theorem rep_skip {c : UInt8} (h : c ≠ 39) : ∀ (k : Nat) (r : B), Lib.replaceK [39] [39, 39] k (c :: r) = c :: Lib.replaceK [39] [39, 39] k r
 |0, r => rfl
 |k + 1, r => by
  have hp : ([39] : List UInt8).isPrefixOf (c :: r) = false := by simp [List.isPrefixOf, Ne.symm h]
  have hix : Lib.index (c :: r) [39] = if Lib.index r [39] == -1 then -1 else Lib.index r [39] + 1 := by rw [Lib.index, hp]; simp
  by_cases hm : Lib.index r [39] = -1
  ·have h2 : Lib.index (c :: r) [39] = -1 := by rw [hix, if_pos (beq_iff_eq.2 hm)]
   rw [Lib.replaceK, Lib.replaceK, if_pos (beq_iff_eq.2 hm), if_pos (beq_iff_eq.2 h2)]
  ·have hge := Lib.index_ge r [39]
   obtain ⟨j, hj⟩ : ∃ j : Nat, Lib.index r [39] = j := ⟨(Lib.index r [39]).toNat, by omega⟩
   have hix' : Lib.index (c :: r) [39] = ((j + 1 : Nat) : Int) := by rw [hix, if_neg (fun e => hm (beq_iff_eq.1 e)), hj]; omega
   rw [Lib.replaceK_hit _ _ _ _ j hj, Lib.replaceK_hit _ _ _ _ (j + 1) hix']
   rw [show j + 1 + ([39] : List UInt8).length = (j + ([39] : List UInt8).length) + 1 by simp, List.drop_succ_cons, List.take_succ_cons]
   simp
theorem rep_quo : ∀ t : B, Lib.replaceK [39] [39, 39] (Lib.count t [39]) t = Pc.quo t
 |[] => by rw [Lib.count_one]; rfl
 |c :: r => by
  have ih := rep_quo r
  by_cases h : c = 39
  ·subst h
   have hi : Lib.index (39 :: r) [39] = ((0 : Nat) : Int) := by rw [Lib.index]; simp [List.isPrefixOf]
   rw [Lib.count_cons_eq, Nat.add_comm, Lib.replaceK_hit _ _ _ _ 0 hi]
   simp [Pc.quo, ih]
  ·rw [Lib.count_cons_ne _ _ _ h, rep_skip h, ih]
   simp [Pc.quo, h]
theorem rep_all (t : B) : Lib.replaceAll t [39] [39, 39] = Pc.quo t := by
 rw [<- rep_quo, Lib.replaceAll, Lib.replace, if_neg (by decide), Lib.replaceNum, if_pos (.inl (by decide))]
theorem quo_len : ∀ t : B, (Pc.quo t).length <= 2 * t.length
 |[] => by simp [Pc.quo]
 |c :: r => by
  have := quo_len r
  simp only [Pc.quo]
  split <;> simp <;> omega
structure Env (w : World) : Prop where
 tab : Lib.TabIs Tryz.prog w "internal/strconv.uint64pow10" .u64 Lib.pow10Tab
 mx : ∃ m, w.cell? ⟨1, 0, none⟩ = some (.int .i64 m)
theorem Env.keep {w w' : World} (h : Env w) (hf : Fr [] w w') : Env w' :=
 ⟨Lib.tabBelow_of_tabIs h.tab w' hf.below, by obtain ⟨m, hm⟩ := h.mx; exact ⟨m, (hf.cell (World.block_lt_of_cell? w _ hm) (by simp)).trans hm⟩⟩
open Go.Sort in
theorem fr_grow (w : World) (k : Nat) (os : Array Obj) : Fr [] w (grow (w.drewN k) os) :=
 ⟨rfl, rfl, rfl, by simp [World.drewN], fun i hi _ => heap_grow_old (w.drewN k) os hi⟩
set_option maxRecDepth 100000 in
set_option maxHeartbeats 2000000 in
theorem sign_any (op : Int) (o : Nat) (h : op = 5 + o) (ho : o < 11) (w : World) :
  Calls Tryz.prog 84 #[.int .i64 op] w fun e w' => e = .returned (.string (bt (opB o))) /\ Fr [] w w' := by
 rcases (by omega : o = 0 \/ o = 1 \/ o = 2 \/ o = 3 \/ o = 4 \/ o = 5 \/ o = 6 \/ o = 7 \/ o = 8 \/ o = 9 \/ o = 10) with rfl | rfl | rfl | rfl | rfl | rfl | rfl | rfl | rfl | rfl | rfl
 all_goals
  simp at h
  subst h
  clear ho
  go_enter Tryz.func84, Tryz.ntmps84
  go_wp2_with fail
  go_ret
  exact ⟨rfl, Fr.refl _ _⟩
set_option maxRecDepth 100000 in
set_option maxHeartbeats 2000000 in
theorem column_any (t n : B) (ht : t.length <= 1000) (hn : n.length <= 1000) (w : World) :
  Calls Tryz.prog 83 #[.string ⟨t.toArray⟩, .string ⟨n.toArray⟩] w fun e w' => e = .returned (.string (bt (colT t n))) /\ Fr [] w w' := by
 show Calls Tryz.prog _ #[.string (bt t), .string (bt n)] w _
 have hs1 : ((bt t).size : Int) <= 1000 := by rw [bt_size]; omega
 have hs2 : ((bt n).size : Int) <= 1000 := by rw [bt_size]; omega
 by_cases h0 : t = []
 ·subst h0
  go_enter Tryz.func83, Tryz.ntmps83
  go_wp2_with fail
  go_ret
  exact ⟨rfl, Fr.refl _ _⟩
 ·have hne : (bt t).toList.isEmpty = false := by
   have h1 : ((bt t).toList == (⟨#[]⟩ : ByteArray).toList) = false := by
    rw [Lib.bytes_beq_false_iff]
    exact fun h => h0 (by have := congrArg (fun z => z.data.toList) h; simpa using this)
   rw [(by kernel_rfl : (⟨#[]⟩ : ByteArray).toList = [])] at h1
   cases h2 : (bt t).toList with
   |nil => rw [h2] at h1; cases h1
   |cons => rfl
  have HR : Hid (bt t ++ ⟨#[46]⟩ ++ bt n = bt (colT t n)) := Hd (by
   show bt t ++ bt [46] ++ bt n = _
   have : t.isEmpty = false := by cases t with | nil => exact absurd rfl h0 | cons => rfl
   unfold colT
   rw [if_neg (by rw [this]; decide), bt_cat, bt_cat])
  generalize bt t = s at hs1 hne HR ⊢
  generalize bt n = u at hs2 HR ⊢
  go_enter Tryz.func83, Tryz.ntmps83
  go_wp2_with fail
  go_ret
  exact ⟨congrArg (fun z => Ending.returned (.string z)) HR.out, Fr.refl _ _⟩
set_option maxRecDepth 100000 in
set_option maxHeartbeats 2000000 in
theorem literal_int (v : Nat) (hv : v <= 9223372036854775807) (w : World) (hE : Env w) :
  Calls Tryz.prog 82 #[.agg #[.int .i64 1, .int .i64 v, .string ⟨#[]⟩]] w fun e w' => e = .returned (.string (bt (sh (.int v)))) /\ Fr [] w w' := by
 have hf0 := (Fr.refl [] w).alloc (.cells #[.int .i64 1, .int .i64 v, .string ⟨#[]⟩] 80)
 have HR := Hd (Tryz.strconv_FormatInt_10 (v : Int) (by omega) (by omega) (w.alloc (.cells #[.int .i64 1, .int .i64 v, .string ⟨#[]⟩] 80)) (hE.keep hf0).tab)
 have hi : Lib.itoa (v : Int) = Lib.decDigits v := by rw [Lib.itoa, if_neg (by omega)]; simp
 rw [Gn.sh_int, <- hi]
 have hv0 : (0 : Int) <= v := by omega
 have HF := Hd hf0
 clear hi hE hf0
 go_enter Tryz.func82, Tryz.ntmps82
 go_wp2_with fail
 refine HR.out.mono ?_
 rintro e w1 ⟨rfl, k, os, rfl⟩
 go_wp2_with fail
 go_ret
 exact ⟨rfl, HF.out.trans (fr_grow _ k os)⟩
set_option maxRecDepth 100000 in
set_option maxHeartbeats 2000000 in
theorem literal_text (t : B) (ht : t.length <= 1000) (w : World) (hE : Env w) :
  Calls Tryz.prog 82 #[.agg #[.int .i64 2, .int .i64 0, .string ⟨t.toArray⟩]] w fun e w' => e = .returned (.string (bt (sh (.text t)))) /\ Fr [] w w' := by
 have hf0 := (Fr.refl [] w).alloc (.cells #[.int .i64 2, .int .i64 0, .string ⟨t.toArray⟩] 80)
 obtain ⟨m, hm⟩ := (hE.keep hf0).mx
 have HR := Hd (Tryz.strings_ReplaceAll (bt t) ⟨#[39]⟩ ⟨#[39, 39]⟩ m (w.alloc (.cells #[.int .i64 2, .int .i64 0, .string ⟨t.toArray⟩] 80)) (by rw [bt_size]; omega) hm (by decide) (by
  have h1 := Lib.countB_le ⟨#[39]⟩ (by decide) (bt t).size (bt t) (Nat.le_refl _)
  rw [bt_size] at h1 ⊢
  show t.length + Lib.countB (bt t) ⟨#[39]⟩ * 2 <= _
  omega))
 rw [show ∀ x : B, (bt x).data.toList = x from fun x => by simp, show (⟨#[39]⟩ : ByteArray).data.toList = [39] from rfl, show (⟨#[39, 39]⟩ : ByteArray).data.toList = [39, 39] from rfl, rep_all] at HR
 have hq := quo_len t
 have hqs : ((bt (Pc.quo t)).size : Int) <= 2000 := by rw [bt_size]; omega
 have HS : Hid (⟨#[39]⟩ ++ bt (Pc.quo t) ++ ⟨#[39]⟩ = bt (sh (.text t))) := Hd (by
  rw [Gn.sh_text, show (⟨#[39]⟩ : ByteArray) = bt [39] from rfl, bt_cat, bt_cat]
  rfl)
 have HF := Hd hf0
 change Hid (Calls _ _ _ _ fun e w' => e = .returned (.string (bt (Pc.quo t))) /\ _) at HR
 change Calls _ _ #[.agg #[.int .i64 2, .int .i64 0, .string (bt t)]] _ _
 generalize bt (Pc.quo t) = d at HR hqs HS
 clear hE hf0 hm hq
 go_enter Tryz.func82, Tryz.ntmps82
 go_wp2_with fail
 refine HR.out.mono ?_
 rintro e w1 ⟨rfl, hf⟩
 have HF1 := Hd (HF.out.trans (Fr.of_below (S := []) hf))
 clear hf
 go_wp2_with fail
 go_ret
 exact ⟨congrArg (fun z => Ending.returned (.string z)) HS.out, HF1.out⟩
end Sw
end Go.Proofs.YtmdnhinpaflamaaGreatDoor
namespace Go.Proofs.YtmdnhinpaflamaaGreatDoor
open Go.RowKit
set_option linter.unusedVariables false
namespace Sh
open PM (Ex B)
open Px (SR SS SL ItS TagS ColS)
theorem sr_all {A : Nat -> Prop} {w : World} {kind : Int} {table name join : B} {cols : List PM.Col} {tags : List Int} {values on wher order : List Ex} {items : List PM.It} {desc : Bool} {inner : List PM.St} {cs : List Value} (h : SR A w (.mk kind table name cols tags values items join on wher order desc inner) cs) :
  ∃ (a3 a4 a5 a6 a8 a9 a10 a12 : Option Addr) (l3 l4 l5 l6 l8 l9 l10 l12 c3 c4 c5 c6 c8 c9 c10 c12 : Nat), cs = [.int .i64 kind, .string ⟨table.toArray⟩, .string ⟨name.toArray⟩, .slice a3 l3 c3, .slice a4 l4 c4, .slice a5 l5 c5, .slice a6 l6 c6, .string ⟨join.toArray⟩, .slice a8 l8 c8, .slice a9 l9 c9, .slice a10 l10 c10, .bool desc, .slice a12 l12 c12] /\
   ColS A w (.slice a3 l3 c3) cols /\ TagS A w (.slice a4 l4 c4) tags /\ Rep.Es 82 A w values (.slice a5 l5 c5) /\ ItS A w (.slice a6 l6 c6) items /\ Rep.Es 82 A w on (.slice a8 l8 c8) /\ Rep.Es 82 A w wher (.slice a9 l9 c9) /\ Rep.Es 82 A w order (.slice a10 l10 c10) /\ SS A w inner (.slice a12 l12 c12) := by
 cases h with
 |mk _ _ _ _ _ _ _ _ _ _ _ _ _ v3 v4 v5 v6 v8 v9 v10 v12 h3 h4 h5 h6 h8 h9 h10 h12 =>
  obtain ⟨a3, l3, c3, rfl⟩ := Px.FlatS.form h3
  obtain ⟨a4, l4, c4, rfl⟩ := Px.FlatS.form h4
  obtain ⟨a5, l5, c5, rfl⟩ := Rep.Es.form h5
  obtain ⟨a6, l6, c6, rfl⟩ := Px.FlatS.form h6
  obtain ⟨a8, l8, c8, rfl⟩ := Rep.Es.form h8
  obtain ⟨a9, l9, c9, rfl⟩ := Rep.Es.form h9
  obtain ⟨a10, l10, c10, rfl⟩ := Rep.Es.form h10
  obtain ⟨a12, l12, c12, rfl⟩ := Px.SS.form h12
  exact ⟨_, _, _, _, _, _, _, _, _, _, _, _, _, _, _, _, _, _, _, _, _, _, _, _, rfl, h3, h4, h5, h6, h8, h9, h10, h12⟩
theorem flat_getD {α : Type} {cells : α -> List Value} {size : Nat} (hs : ∀ x, (cells x).length = size) : ∀ {l : List α} {k i : Nat} (hk : k < l.length) (hi : i < size), (l.flatMap cells).getD (k * size + i) undef = (cells l[k]).getD i undef
 |[], _, _, hk, _ => by simp at hk
 |x :: l, 0, i, _, hi => by
  rw [List.flatMap_cons, Nat.zero_mul, Nat.zero_add, List.getD_eq_getElem?_getD, List.getElem?_append_left (by rw [hs]; exact hi), <- List.getD_eq_getElem?_getD]
  rfl
 |x :: l, k + 1, i, hk, hi => by
  have ih := flat_getD hs (l := l) (k := k) (i := i) (by simpa using hk) hi
  have hx := hs x
  have e : (k + 1) * size = k * size + size := Nat.succ_mul ..
  rw [List.flatMap_cons, List.getD_eq_getElem?_getD, List.getElem?_append_right (by omega), hx, show (k + 1) * size + i - size = k * size + i by omega, <- List.getD_eq_getElem?_getD, ih]
  rfl
theorem flat_form {α : Type} {T : TypeId} {cells : α -> List Value} {size : Nat} (hs : ∀ x, (cells x).length = size) {A : Nat -> Prop} {w : World} {a : Option Addr} {n c : Nat} {l : List α} (h : Px.FlatS T cells size A w (.slice a n c) l) : n = l.length /\ l.length <= maxLen /\ ∀ k, (hk : k < l.length) -> ∃ g off, a = some ⟨g, off, none⟩ /\ A g /\ g < w.heap.size /\ l.length <= c /\ ∀ i u, (cells l[k])[i]? = some u -> w.cell? ⟨g, off + k * size + i, none⟩ = some u := by
 obtain ⟨h, hA⟩ := h
 rcases h.form with ⟨h1, h0, _⟩ | ⟨g, off, cap, h1, hc, hm⟩
 ·simp only [Value.slice.injEq] at h1
  obtain ⟨rfl, rfl, rfl⟩ := h1
  refine ⟨h0.symm, by omega, fun k hk => by omega⟩
 ·simp only [Value.slice.injEq] at h1
  obtain ⟨rfl, rfl, rfl⟩ := h1
  refine ⟨rfl, by omega, fun k hk => ⟨g, off, rfl, hA g rfl, h.block_lt rfl, hc, fun i u hi => ?_⟩⟩
  have hil : i < size := by have := (List.getElem?_eq_some_iff.1 hi).1; rw [hs] at this; exact this
  have hlt : k * size + i < (l.flatMap cells).length := by
   have h1 := h.1
   rw [h1]
   calc k * size + i < k * size + size := by omega
    _ = (k + 1) * size := (Nat.succ_mul ..).symm
    _ <= l.length * size := Nat.mul_le_mul_right _ hk
  rw [Nat.add_assoc, h.cells (k * size + i) hlt]
  congr 1
  rw [flat_getD hs hk hil, List.getD_eq_getElem?_getD, hi]
  rfl
theorem SL.at {A : Nat -> Prop} {w : World} {l : List PM.St} {xs : List Value} (h : SL A w l xs) (k : Nat) (hk : k < l.length) : ∃ ys, SR A w l[k] ys /\ ∀ i, i < 13 -> xs[k * 13 + i]? = ys[i]? := by
 induction l generalizing xs k with
 |nil => simp at hk
 |cons d r ih =>
  cases h with
  |cons _ _ xs ys h1 h2 =>
   cases k with
   |zero => exact ⟨xs, h1, fun i hi => by rw [List.getElem?_append_left (by rw [h1.length]; omega)]; simp⟩
   |succ k =>
    obtain ⟨zs, g1, g2⟩ := ih h2 k (by simpa using hk)
    refine ⟨zs, g1, fun i hi => ?_⟩
    rw [List.getElem?_append_right (by rw [h1.length]; omega), h1.length, show (k + 1) * 13 + i - 13 = k * 13 + i by omega]
    exact g2 i hi
theorem ss_at {A : Nat -> Prop} {w : World} {l : List PM.St} {a : Option Addr} {n c : Nat} (h : SS A w l (.slice a n c)) : n = l.length /\ l.length <= maxLen /\ ∀ k, (hk : k < l.length) -> ∃ g off ys, a = some ⟨g, off, none⟩ /\ l.length <= c /\ A g /\ g < w.heap.size /\ SR A w l[k] ys /\ ∀ i u, ys[i]? = some u -> w.cell? ⟨g, off + k * 13 + i, none⟩ = some u := by
 cases h with
 |mk _ _ xs hl hr hb =>
  rcases hr.form with ⟨h1, h0, _⟩ | ⟨g, off, cap, h1, hc, hm⟩
  ·simp only [Value.slice.injEq] at h1
   obtain ⟨rfl, rfl, rfl⟩ := h1
   refine ⟨h0.symm, by omega, fun k hk => by omega⟩
  ·simp only [Value.slice.injEq] at h1
   obtain ⟨rfl, rfl, rfl⟩ := h1
   refine ⟨rfl, by omega, fun k hk => ?_⟩
   obtain ⟨ys, k1, k2⟩ := SL.at hl k hk
   refine ⟨g, off, ys, rfl, hc, hb g rfl, hr.block_lt rfl, k1, fun i u hi => ?_⟩
   have hi13 : i < 13 := by have := (List.getElem?_eq_some_iff.1 hi).1; rw [k1.length] at this; exact this
   have hx := (k2 i hi13).trans hi
   have hlt := (List.getElem?_eq_some_iff.1 hx).1
   rw [Nat.add_assoc, hr.cells _ hlt, List.getD_eq_getElem?_getD, hx]
   rfl
end Sh
end Go.Proofs.YtmdnhinpaflamaaGreatDoor
