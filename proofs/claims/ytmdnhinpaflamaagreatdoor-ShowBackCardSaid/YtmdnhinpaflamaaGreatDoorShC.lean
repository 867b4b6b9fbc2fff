/- How the document shows tags, a where, expressions. -/
import Derived.Test.YtmdnhinpaflamaaGreatDoorShA
import Derived.Test.YtmdnhinpaflamaaGreatDoorGaB
import Derived.Test.YtmdnhinpaflamaaGreatDoorSwB
import Derived.Deep.RegionHeld3
import Derived.Test.YtmdnhinpaflamaaGreatDoorSeq3
import Derived.Deep.CutRange
namespace Go.Proofs.YtmdnhinpaflamaaGreatDoor
open Go.RowKit
set_option linter.unusedVariables false
set_option linter.unusedSimpArgs false
namespace Sh
open PM (Ex B)
open CM (Pr Qs Wr Sel Im Co Cl)
open Gn (sh)
open Px (SR SS ItS TagS ColS)
theorem jn_len {α : Type} (f : α -> B) : ∀ l : List α, 2 * l.length <= (jn f l).length + 2
 |[] => by simp
 |x :: r => by
  have key : ∀ r : List α, 2 * r.length <= (r.flatMap (fun y => 44 :: 32 :: f y)).length := fun r => by
   induction r with
   |nil => simp
   |cons y r ih => simp only [List.flatMap_cons, List.length_append, List.length_cons] at ih ⊢; omega
  have := key r
  simp only [jn, List.length_append, List.length_cons]
  omega
end Sh
end Go.Proofs.YtmdnhinpaflamaaGreatDoor
namespace Go.Proofs.YtmdnhinpaflamaaGreatDoor
open Go.RowKit
set_option linter.unusedVariables false
set_option linter.unusedSimpArgs false
namespace Sw
open PM (Ex B)
open CM (Pr Qs Wr Sel Im Co Cl)
open Gn (sh opB Gr)
open Sh (bt bt_cat bt_size colT bs okName_len colT_one colT_two okName_ne jn tagsT coT imT clT whereT)
open Px (SR SS ItS TagS ColS)
theorem mem_two {α : Type} {x a b : α} (h : x ∈ [a, b]) : x = a \/ x = b := by simpa using h
theorem jn_join {α : Type} (f : α -> B) (l : List α) : Lib.join (l.map f) [44, 32] = jn f l := by
 cases l with
 |nil => rfl
 |cons x r =>
  rw [List.map_cons, Lib.join_cons]
  simp only [jn, Lib.joinTail, List.map_map, List.flatMap]
  rfl
theorem jn_elem {α : Type} (f : α -> B) (l : List α) {x : α} (h : x ∈ l) : (f x).length <= (jn f l).length := by
 rw [<- jn_join]
 exact join_elem _ _ _ (List.mem_map_of_mem h)
theorem run_ex (w : World) (v : Value) : Sem.run Tryz.prog (callFunc 38 #[v]) w = .ok (.enter 38 #[v]) w := by kernel_rfl
theorem run_col (w : World) (v : Value) : Sem.run Tryz.prog (callFunc 40 #[v]) w = .ok (.enter 40 #[v]) w := by kernel_rfl
theorem run_it (w : World) (v : Value) : Sem.run Tryz.prog (callFunc 88 #[v]) w = .ok (.enter 88 #[v]) w := by kernel_rfl
theorem run_tag (w : World) (v : Value) : Sem.run Tryz.prog (callFunc 90 #[v]) w = .ok (.enter 90 #[v]) w := by kernel_rfl
theorem run_st (w : World) (v : Value) : Sem.run Tryz.prog (callFunc 17 #[v]) w = .ok (.enter 17 #[v]) w := by kernel_rfl
def ShownW (p : Pr) : Prop := p.ok = true -> (sh p).length <= 60000 -> ∀ (A : Nat -> Prop) (w : World) (cs : List Value), Env w -> Rep.E 82 A w p.ex cs ->
 Calls Tryz.prog 38 #[.agg cs.toArray] w fun e w' => e = .returned (.string (bt (sh p))) /\ Fr [] w w'
theorem el_ex {A : Nat -> Prop} {w : World} {a : Option Addr} {n cap : Nat} (l : List Pr) (hS : ∀ p ∈ l, ShownW p) (hok : ∀ p ∈ l, p.ok = true) (hlen : ∀ p ∈ l, (sh p).length <= 60000) (hE : Env w) (h : Rep.Es 82 A w (l.map Pr.ex) (.slice a n cap)) :
  n = l.length /\ ∀ j, (hj : j < (l.map sh).length) -> El_ex 38 w a (l.map sh).length cap j (l.map sh)[j] := by
 have hn : n = l.length := by have := Px.es_len h; rwa [List.length_map] at this
 subst hn
 refine ⟨rfl, fun j hj => ?_⟩
 have hj' : j < l.length := by simpa using hj
 obtain ⟨g, off, cp, ys, e1, hcap, -, hy, hcy⟩ := h.at j (by simpa using hj)
 simp only [Value.slice.injEq] at e1
 obtain ⟨rfl, _, rfl⟩ := e1
 rw [List.getElem_map] at hy ⊢
 obtain ⟨op, kind, int, text, tbl, nme, args, b1, m1, d1, _, rfl, _⟩ := Sm.e_cells hy
 have hm : l[j] ∈ l := List.getElem_mem _
 refine ⟨g, off, op, kind, int, text, tbl, nme, b1, m1, d1, rfl, by rw [List.length_map] at hcap ⊢; omega, World.block_lt_of_cell? w _ (hcy 0 _ rfl), hcy, fun W hW => ?_⟩
 exact hS _ hm (hok _ hm) (hlen _ hm) _ W _ (hE.keep hW) (Rep.E.keep hW (by simp) hy)
set_option maxRecDepth 100000 in
set_option maxHeartbeats 4000000 in
theorem shown_int (v : Nat) : ShownW (.int v) := by
 intro hok hlen A w cs hE h
 obtain ⟨op, kind, int, text, table, name, args, a, n, c, hx, rfl, _⟩ := Sm.e_cells h
 simp only [Pr.ex, Ex.mk.injEq] at hx
 obtain ⟨rfl, rfl, rfl, rfl, rfl, rfl, rfl⟩ := hx
 have hv : v <= 9223372036854775807 := of_decide_eq_true hok
 have HV := Hd (fun o => literal_int v hv (w.alloc o) (hE.keep ((Fr.refl [] w).alloc o)))
 clear h hok hlen hv hE
 go_enter Tryz.func38, Tryz.ntmps38
 go_wp2_with fail
 refine (HV.out _).mono ?_
 rintro e w1 ⟨rfl, hf⟩
 have HF := Hd (((Fr.refl [] w).alloc _).trans hf)
 clear hf
 go_wp2_with fail
 go_ret
 exact ⟨rfl, HF.out⟩
set_option maxRecDepth 100000 in
set_option maxHeartbeats 4000000 in
theorem shown_text (t : B) : ShownW (.text t) := by
 intro hok hlen A w cs hE h
 obtain ⟨op, kind, int, text, table, name, args, a, n, c, hx, rfl, _⟩ := Sm.e_cells h
 simp only [Pr.ex, Ex.mk.injEq] at hx
 obtain ⟨rfl, rfl, rfl, rfl, rfl, rfl, rfl⟩ := hx
 have hv : t.length <= 1000 := by
  simp only [Pr.ok, Pc.okText, Bool.and_eq_true, decide_eq_true_eq] at hok
  omega
 have HV := Hd (fun o => literal_text t hv (w.alloc o) (hE.keep ((Fr.refl [] w).alloc o)))
 clear h hok hlen hv hE
 go_enter Tryz.func38, Tryz.ntmps38
 go_wp2_with fail
 refine (HV.out _).mono ?_
 rintro e w1 ⟨rfl, hf⟩
 have HF := Hd (((Fr.refl [] w).alloc _).trans hf)
 clear hf
 go_wp2_with fail
 go_ret
 exact ⟨rfl, HF.out⟩
set_option maxRecDepth 100000 in
set_option maxHeartbeats 4000000 in
theorem shown_colx (t nm : B) (p : Pr) (hp : p.ex = PM.colEx t nm) (h1 : t.length <= 1000) (h2 : nm.length <= 1000) (hs : colT t nm = sh p) : ShownW p := by
 intro hok hlen A w cs hE h
 rw [hp] at h
 obtain ⟨op, kind, int, text, table, name, args, a, n, c, hx, rfl, _⟩ := Sm.e_cells h
 simp only [PM.colEx, Ex.mk.injEq] at hx
 obtain ⟨rfl, rfl, rfl, rfl, rfl, rfl, rfl⟩ := hx
 have HV := Hd (fun w => column_any t nm h1 h2 w)
 rw [<- hs]
 clear h hok hlen hs hE
 go_enter Tryz.func38, Tryz.ntmps38
 go_wp2_with fail
 refine (HV.out _).mono ?_
 rintro e w1 ⟨rfl, hf⟩
 have HF := Hd (((Fr.refl [] w).alloc _).trans hf)
 clear hf
 go_wp2_with fail
 go_ret
 exact ⟨rfl, HF.out⟩
theorem shown_col (n : B) : ShownW (.col n) := fun hok => shown_colx [] n _ rfl (by simp) (by have := okName_len hok; omega) (colT_one n) hok
theorem shown_tcol (t n : B) : ShownW (.tcol t n) := fun hok => by
 have h : (Pc.okName t && Pc.okName n) = true := hok
 simp only [Bool.and_eq_true] at h
 exact shown_colx t n _ rfl (by have := okName_len h.1; omega) (by have := okName_len h.2; omega) (colT_two (okName_ne h.1)) hok
set_option maxRecDepth 100000 in
set_option maxHeartbeats 4000000 in
theorem shown_neg (p : Pr) (ih : ShownW p) : ShownW (.neg p) := by
 intro hok hlen A w cs hE h
 obtain ⟨op, kind, int, text, table, name, args, a, n, c, hx, rfl, hes⟩ := Sm.e_cells h
 simp only [Pr.ex, PM.un, Ex.mk.injEq] at hx
 obtain ⟨rfl, rfl, rfl, rfl, rfl, rfl, rfl⟩ := hx
 have hl : (sh p).length <= 60000 := by have := hlen; rw [Gn.sh_neg] at this; simp at this; omega
 obtain rfl : n = 1 := Px.es_len hes
 have HC := Hd (fun o => one_ex 38 (sh p) hl a c (w.alloc o) run_ex ((el_ex [p] (fun q hq => by obtain rfl := List.mem_singleton.1 hq; exact ih) (fun q hq => by obtain rfl := List.mem_singleton.1 hq; exact hok) (fun q hq => by obtain rfl := List.mem_singleton.1 hq; exact hl) (hE.keep ((Fr.refl [] w).alloc o)) (Rep.Es.keep ((Fr.refl [] w).alloc o) (by simp) hes)).2 0 (by simp)))
 have hsz : ((bt (sh p)).size : Int) <= 60000 := by rw [bt_size]; omega
 have HS : Hid (⟨#[40, 45]⟩ ++ bt (sh p) ++ ⟨#[41]⟩ = bt (sh (.neg p))) := Hd (by rw [show ⟨#[40, 45]⟩ = bt [40, 45] from rfl, show ⟨#[41]⟩ = bt [41] from rfl, bt_cat, bt_cat, Gn.sh_neg])
 change Hid (∀ o, Calls _ _ _ _ fun e w' => e = .returned (.string (bt (sh p))) /\ _) at HC
 generalize bt (sh p) = s at HC hsz HS
 clear h hes hok hlen hl ih hE
 go_enter Tryz.func38, Tryz.ntmps38
 go_wp2_with fail
 refine (HC.out _).mono ?_
 rintro e w1 ⟨rfl, hf⟩
 have HF := Hd (((Fr.refl [] w).alloc _).trans hf)
 clear hf
 go_wp2_with fail
 go_ret
 exact ⟨congrArg (fun z => Ending.returned (.string z)) HS.out, HF.out⟩
set_option maxRecDepth 100000 in
set_option maxHeartbeats 4000000 in
theorem shown_not (p : Pr) (ih : ShownW p) : ShownW (.not p) := by
 intro hok hlen A w cs hE h
 obtain ⟨op, kind, int, text, table, name, args, a, n, c, hx, rfl, hes⟩ := Sm.e_cells h
 simp only [Pr.ex, PM.un, Ex.mk.injEq] at hx
 obtain ⟨rfl, rfl, rfl, rfl, rfl, rfl, rfl⟩ := hx
 have hl : (sh p).length <= 60000 := by have := hlen; rw [Gn.sh_not] at this; simp at this; omega
 obtain rfl : n = 1 := Px.es_len hes
 have HC := Hd (fun o => one_ex 38 (sh p) hl a c (w.alloc o) run_ex ((el_ex [p] (fun q hq => by obtain rfl := List.mem_singleton.1 hq; exact ih) (fun q hq => by obtain rfl := List.mem_singleton.1 hq; exact hok) (fun q hq => by obtain rfl := List.mem_singleton.1 hq; exact hl) (hE.keep ((Fr.refl [] w).alloc o)) (Rep.Es.keep ((Fr.refl [] w).alloc o) (by simp) hes)).2 0 (by simp)))
 have hsz : ((bt (sh p)).size : Int) <= 60000 := by rw [bt_size]; omega
 have HS : Hid (⟨#[40, 110, 111, 116, 32]⟩ ++ bt (sh p) ++ ⟨#[41]⟩ = bt (sh (.not p))) := Hd (by rw [show ⟨#[40, 110, 111, 116, 32]⟩ = bt [40, 110, 111, 116, 32] from rfl, show ⟨#[41]⟩ = bt [41] from rfl, bt_cat, bt_cat, Gn.sh_not])
 change Hid (∀ o, Calls _ _ _ _ fun e w' => e = .returned (.string (bt (sh p))) /\ _) at HC
 generalize bt (sh p) = s at HC hsz HS
 clear h hes hok hlen hl ih hE
 go_enter Tryz.func38, Tryz.ntmps38
 go_wp2_with fail
 refine (HC.out _).mono ?_
 rintro e w1 ⟨rfl, hf⟩
 have HF := Hd (((Fr.refl [] w).alloc _).trans hf)
 clear hf
 go_wp2_with fail
 go_ret
 exact ⟨congrArg (fun z => Ending.returned (.string z)) HS.out, HF.out⟩
set_option maxRecDepth 4000000 in
set_option maxHeartbeats 8000000 in
theorem shown_bin (o : Nat) (p q : Pr) (ihp : ShownW p) (ihq : ShownW q) : ShownW (.bin o p q) := by
  intro hok hlen A w cs hE h
  obtain ⟨op, kind, int, text, table, name, args, a, n, c, hx, rfl, hes⟩ := Sm.e_cells h
  simp only [Pr.ex, PM.two, Ex.mk.injEq] at hx
  obtain ⟨rfl, rfl, rfl, rfl, rfl, rfl, rfl⟩ := hx
  obtain rfl : n = 2 := Px.es_len hes
  simp only [Pr.ok, Bool.and_eq_true, decide_eq_true_eq] at hok
  obtain ⟨⟨ho, hp⟩, hq⟩ := hok
  have hl := hlen
  rw [Gn.sh_bin] at hl
  simp only [List.length_append, List.length_cons, List.length_nil] at hl
  have hj : Lib.join [sh p, sh q] ([32] ++ opB o ++ [32]) = sh p ++ [32] ++ opB o ++ [32] ++ sh q := by rw [Lib.join_cons]; simp [Lib.joinTail]
  have HJw : Hid (∀ W, Fr [] w W -> Calls Tryz.prog 42 #[.slice a 2 c, .string (bt ([32] ++ opB o ++ [32])), .func (.func 38) #[] #[]] W fun e w'' => e = .returned (.string (bt (sh p ++ [32] ++ opB o ++ [32] ++ sh q))) /\ Fr [] W w'') := Hd (fun W hW => by
    have h1 := (el_ex [p, q] (fun x hx => by rcases mem_two hx with rfl | rfl; exact ihp; exact ihq) (fun x hx => by rcases mem_two hx with rfl | rfl; exact hp; exact hq) (fun x hx => by rcases mem_two hx with rfl | rfl <;> omega) (hE.keep hW) (Rep.Es.keep hW (by simp) hes)).2
    have h2 := joined_ex 38 ([32] ++ opB o ++ [32]) [sh p, sh q] (by simp) (by rw [hj]; simp only [List.length_append, List.length_cons, List.length_nil]; omega) a c W run_ex h1
    rw [hj] at h2
    exact h2)
  have HGw : Hid (∀ W, Fr [] w W -> Calls Tryz.prog 84 #[.int .i64 (5 + o)] W fun e w'' => e = .returned (.string (bt (opB o))) /\ Fr [] W w'') := Hd (fun W _ => sign_any _ o rfl ho W)
  have HS : Hid (⟨#[40]⟩ ++ bt (sh p ++ [32] ++ opB o ++ [32] ++ sh q) ++ ⟨#[41]⟩ = bt (sh (.bin o p q))) := Hd (by rw [show (⟨#[40]⟩ : ByteArray) = bt [40] from rfl, show (⟨#[41]⟩ : ByteArray) = bt [41] from rfl, bt_cat, bt_cat, Gn.sh_bin]; simp only [List.append_assoc])
  have hds : ((bt (sh p ++ [32] ++ opB o ++ [32] ++ sh q)).size : Int) <= 60000 := by rw [bt_size]; simp only [List.length_append, List.length_cons, List.length_nil]; omega
  have hrs : ((bt (opB o)).size : Int) <= 3 := by rw [bt_size]; have := Gn.opB_len o; omega
  rw [show bt ([32] ++ opB o ++ [32]) = ⟨#[32]⟩ ++ bt (opB o) ++ ⟨#[32]⟩ by rw [show (⟨#[32]⟩ : ByteArray) = bt [32] from rfl, bt_cat, bt_cat]] at HJw
  generalize bt (sh p ++ [32] ++ opB o ++ [32] ++ sh q) = d at HJw HS hds
  generalize bt (opB o) = r at HJw HGw hrs
  have HB := Hd (Blk.new w 82 [.int .i64 (5 + o), .int .i64 0, .int .i64 0, .string ⟨#[]⟩, .string ⟨#[]⟩, .string ⟨#[]⟩, .slice a 2 c])
  have HF0 : Hid (Fr [] w (w.alloc (.cells #[.int .i64 (5 + o), .int .i64 0, .int .i64 0, .string ⟨#[]⟩, .string ⟨#[]⟩, .string ⟨#[]⟩, .slice a 2 c] 82))) := Hd ((Fr.refl [] w).alloc _)
  have ss0 : ¬ 9223372036854775807 < 1 + r.size := by omega
  have ss1 : ¬ 9223372036854775807 < 1 + r.size + 1 := by omega
  have ss2 : ¬ 9223372036854775807 < 1 + d.size := by omega
  have ss3 : ¬ 9223372036854775807 < 1 + d.size + 1 := by omega
  have ho0 : (0 : Int) <= o := by omega
  have ho11 : (o : Int) < 11 := by omega
  clear h hes hlen hl ihp ihq hp hq hE hj
  go_enter Tryz.func38, Tryz.ntmps38
  go_upto_region 10 with fail
  generalize w.alloc (.cells #[.int .i64 (5 + o), .int .i64 0, .int .i64 0, .string ⟨#[]⟩, .string ⟨#[]⟩, .string ⟨#[]⟩, .slice a 2 c] 82) = w0 at HB HF0 ⊢
  have HJ : Hid (∀ W, Fr [] w0 W -> Calls Tryz.prog 42 #[.slice a 2 c, .string (⟨#[32]⟩ ++ r ++ ⟨#[32]⟩), .func (.func 38) #[] #[]] W fun e w'' => e = .returned (.string d) /\ Fr [] W w'') := Hd (fun W hf => HJw.out W (HF0.out.trans hf))
  have HG : Hid (∀ W, Fr [] w0 W -> Calls Tryz.prog 84 #[.int .i64 (5 + o)] W fun e w'' => e = .returned (.string r) /\ Fr [] W w'') := Hd (fun W hf => HGw.out W (HF0.out.trans hf))
  have HKEY : Hid (∀ W, Fr [] w0 W -> W.cell? ⟨w.heap.size, 0, none⟩ = some (.int .i64 (5 + o)) /\ W.cell? ⟨w.heap.size, 6, none⟩ = some (.slice a 2 c)) := Hd fun W hW => ⟨(HB.out.keep hW (by simp)).cell 0, (HB.out.keep hW (by simp)).cell 6⟩
  have HFa : Hid (Fr [] w0 w0) := Hd (Fr.refl [] w0)
  go_region_held3 (fun W => W.cell? ⟨w.heap.size, 0, none⟩ = some (.int .i64 (5 + o)) /\ W.cell? ⟨w.heap.size, 6, none⟩ = some (.slice a 2 c))
    ((refine HKEY.out _ ?_; repeat (first | with_reducible exact HFa.out | with_reducible refine Fr.drew ?_ | with_reducible refine Fr.alloc ?_ _)))
    (first
      | (go_at_call 84
         with_reducible refine Calls.mono (HG.out _ ?hf0) ?_
         case hf0 => (repeat (first | with_reducible exact HFa.out | with_reducible refine Fr.drew ?_ | with_reducible refine Fr.alloc ?_ _))
         rintro e wz ⟨rfl, hf⟩
         replace HFa : Hid (Fr [] w0 wz) := Hd (Fr.trans (b := _) (by repeat (first | with_reducible exact HFa.out | with_reducible refine Fr.drew ?_ | with_reducible refine Fr.alloc ?_ _)) hf)
         clear hf)
      | (go_at_call 42
         with_reducible refine Calls.mono (HJ.out _ ?hf0) ?_
         case hf0 => (repeat (first | with_reducible exact HFa.out | with_reducible refine Fr.drew ?_ | with_reducible refine Fr.alloc ?_ _))
         rintro e wz ⟨rfl, hf⟩
         replace HFa : Hid (Fr [] w0 wz) := Hd (Fr.trans (b := _) (by repeat (first | with_reducible exact HFa.out | with_reducible refine Fr.drew ?_ | with_reducible refine Fr.alloc ?_ _)) hf)
         clear hf))
  all_goals
    go_wp2_with fail
    go_ret
    exact ⟨congrArg (fun z => Ending.returned (.string z)) HS.out, HF0.out.trans (by repeat (first | with_reducible exact HFa.out | with_reducible refine Fr.drew ?_ | with_reducible refine Fr.alloc ?_ _))⟩
theorem shown_any : ∀ p : Pr, ShownW p
 |.int v => shown_int v
 |.text t => shown_text t
 |.col n => shown_col n
 |.tcol t n => shown_tcol t n
 |.neg a => shown_neg a (shown_any a)
 |.not a => shown_not a (shown_any a)
 |.bin o a b => shown_bin o a b (shown_any a) (shown_any b)
theorem jn_cnt {α : Type} {f : α -> B} {l : List α} (h : (jn f l).length <= 60000) : l.length <= 60000 := by
 have := Sh.jn_len f l
 omega
set_option maxRecDepth 100000 in
set_option maxHeartbeats 4000000 in
theorem tag_any (t : Nat) (ht : t <= 65535) (w : World) (hE : Env w) :
  Calls Tryz.prog 90 #[.int .u16 t] w fun e w' => e = .returned (.string (bt (Lib.decDigits t))) /\ Fr [] w w' := by
 have HR := Hd (fun w (h : Lib.TabIs Tryz.prog w "internal/strconv.uint64pow10" .u64 Lib.pow10Tab) => Tryz.strconv_Itoa (t : Int) (by omega) (by omega) w h)
 have hi : Lib.itoa (t : Int) = Lib.decDigits t := by rw [Lib.itoa, if_neg (by omega)]; simp
 rw [hi] at HR
 have ht0 : (0 : Int) <= t := by omega
 have ht1 : (t : Int) <= 65535 := by omega
 have HE := Hd hE
 clear hi ht hE
 go_enter Tryz.func90, Tryz.ntmps90
 go_wp2_with fail
 refine (HR.out _ HE.out.tab).mono ?_
 rintro e w1 ⟨rfl, k, os, rfl⟩
 go_wp2_with fail
 go_ret
 exact ⟨rfl, fr_grow _ k os⟩
theorem el_tag {A : Nat -> Prop} {w : World} {a : Option Addr} {n cap : Nat} (l : List Nat) (hok : ∀ t ∈ l, t <= 65535) (hE : Env w) (h : TagS A w (.slice a n cap) (l.map CM.tagI)) :
  n = l.length /\ ∀ j, (hj : j < (l.map Lib.decDigits).length) -> El_tag 90 w a (l.map Lib.decDigits).length cap j (l.map Lib.decDigits)[j] := by
 obtain ⟨h1, h2, h3⟩ := Sh.flat_form (cells := Px.u16C) (size := 1) (fun _ => rfl) h
 rw [List.length_map] at h1
 subst h1
 refine ⟨rfl, fun j hj => ?_⟩
 have hj' : j < l.length := by simpa using hj
 obtain ⟨g, off, rfl, _, hg, hcap, hcell⟩ := h3 j (by simpa using hj)
 rw [List.length_map] at hcap
 rw [List.getElem_map] at hcell ⊢
 refine ⟨g, off, (l[j] : Int), rfl, by rw [List.length_map]; exact hcap, hg, hcell, fun W hW => tag_any _ (hok _ (List.getElem_mem _)) W (hE.keep hW)⟩
set_option maxRecDepth 100000 in
set_option maxHeartbeats 4000000 in
theorem tags_any (l : List Nat) (hok : ∀ t ∈ l, t <= 65535) (hlen : (jn Lib.decDigits l).length <= 60000) (A : Nat -> Prop) (w : World) (a : Option Addr) (n cap : Nat) (hE : Env w) (h : TagS A w (.slice a n cap) (l.map CM.tagI)) :
  Calls Tryz.prog 46 #[.slice a n cap] w fun e w' => e = .returned (.string (bt (jn Lib.decDigits l))) /\ Fr [] w w' := by
 obtain ⟨rfl, h2⟩ := el_tag l hok hE h
 have HJ := joined_tag 90 [44, 32] (l.map Lib.decDigits) (by rw [List.length_map]; exact jn_cnt hlen) (by rw [jn_join]; exact hlen) a cap w run_tag h2
 rw [jn_join, List.length_map] at HJ
 change Calls _ _ #[_, .string ⟨#[44, 32]⟩, _] _ _ at HJ
 have HX := Hd HJ
 clear HJ h2 h hE hok hlen
 go_enter Tryz.func46, Tryz.ntmps46
 go_wp2_with fail
 refine HX.out.mono ?_
 rintro e w1 ⟨rfl, hf⟩
 have HF := Hd hf
 clear hf
 go_wp2_with fail
 go_ret
 exact ⟨rfl, HF.out⟩
set_option maxRecDepth 100000 in
set_option maxHeartbeats 4000000 in
theorem where_any (o : Option Pr) (hok : ∀ p, o = some p -> p.ok = true) (hlen : (whereT o).length <= 60000) (A : Nat -> Prop) (w : World) (v : Value) (hE : Env w) (h : Rep.Es 82 A w (CM.whE o) v) :
  Calls Tryz.prog 45 #[v] w fun e w' => e = .returned (.string (bt (whereT o))) /\ Fr [] w w' := by
 obtain ⟨a, n, cap, rfl⟩ := Rep.Es.form h
 have hn := Px.es_len h
 cases o with
 |none =>
  obtain rfl : n = 0 := hn
  clear h hok hlen hE
  go_enter Tryz.func45, Tryz.ntmps45
  go_wp2_with fail
  go_ret
  exact ⟨rfl, Fr.refl _ _⟩
 |some p =>
  obtain rfl : n = 1 := hn
  have hl : (sh p).length <= 60000 := by
   simp only [whereT, List.length_append] at hlen
   omega
  have HX := Hd (one_ex 38 (sh p) hl a cap w run_ex ((el_ex [p] (fun q hq => shown_any q) (fun q hq => by obtain rfl := List.mem_singleton.1 hq; exact hok _ rfl) (fun q hq => by obtain rfl := List.mem_singleton.1 hq; exact hl) hE h).2 0 (by simp)))
  have HST : Hid (bt [32, 119, 104, 101, 114, 101, 32] ++ bt (sh p) = bt (whereT (some p))) := Hd (by rw [bt_cat]; rfl)
  have hds : ((bt (sh p)).size : Int) <= 60000 := by rw [bt_size]; omega
  change Hid (Calls _ _ _ _ fun e w' => e = .returned (.string (bt (sh p))) /\ _) at HX
  clear h hl hok hlen hE
  generalize bt (sh p) = d at HX HST hds
  go_enter Tryz.func45, Tryz.ntmps45
  go_wp2_with fail
  refine HX.out.mono ?_
  rintro e w3 ⟨rfl, hf3⟩
  go_wp2_with fail
  go_ret
  exact ⟨congrArg (fun z => Ending.returned (.string z)) HST.out, hf3⟩
theorem coT_eq' (x : Co) : coT x = x.name ++ [32] ++ (if x.text then [116, 101, 120, 116] else [105, 110, 116]) ++ (if x.ref.isEmpty then [] else [32, 114, 101, 102, 32] ++ x.ref) := by
 obtain ⟨n, t, r⟩ := x
 cases t <;> cases r <;> simp [coT, Co.line, Pc.render, Pc.blanks, Pc.Pc.bytes]
theorem bt_empty' (l : B) : (bt l).toList.isEmpty = l.isEmpty := by
 cases l with
 |nil => kernel_rfl
 |cons c r =>
  have h1 : ((bt (c :: r)).toList == (⟨#[]⟩ : ByteArray).toList) = false := by
   rw [Lib.bytes_beq_false_iff]
   exact fun h => by have := congrArg (fun z => z.data.toList) h; simp at this
  rw [(by kernel_rfl : (⟨#[]⟩ : ByteArray).toList = [])] at h1
  cases h2 : (bt (c :: r)).toList with
  |nil => rw [h2] at h1; cases h1
  |cons => rfl
set_option maxRecDepth 100000 in
set_option maxHeartbeats 4000000 in
theorem col_any (x : Co) (hok : x.ok = true) (w : World) :
  Calls Tryz.prog 40 #[.agg (Px.colC x.col).toArray] w fun e w' => e = .returned (.string (bt (coT x))) /\ Fr [] w w' := by
 obtain ⟨xn, xt, xr⟩ := x
 have HR : Hid (bt (xn ++ [32] ++ (if xt = true then [116, 101, 120, 116] else [105, 110, 116]) ++ (if xr.isEmpty = true then [] else [32, 114, 101, 102, 32] ++ xr)) = bt (coT ⟨xn, xt, xr⟩)) := Hd (by rw [coT_eq'])
 generalize bt (coT ⟨xn, xt, xr⟩) = RES at HR ⊢
 simp only [Co.ok, Bool.and_eq_true] at hok
 have hnl := okName_len hok.1
 have hrl : xr.length <= 16 := by
  rcases hxr : xr with _ | ⟨a, b⟩
  ·simp
  ·have := hok.2; rw [hxr] at this; simp only [Bool.or_eq_true] at this; rcases this with h | h; cases h; exact okName_len h
 clear hok
 have hrn := bt_empty' xr
 have hrz : ((bt xr).size : Int) <= 16 := by rw [bt_size]; omega
 have hnz : ((bt xn).size : Int) <= 16 := by rw [bt_size]; omega
 cases xt
 ·cases hre : xr.isEmpty
  ·
   have HS : Hid (bt xn ++ ⟨#[32, 105, 110, 116]⟩ ++ (⟨#[32, 114, 101, 102, 32]⟩ ++ bt xr) = RES) := Hd (by rw [<- HR.out, hre, show ⟨#[32, 105, 110, 116]⟩ = bt [32, 105, 110, 116] from rfl, show ⟨#[32, 114, 101, 102, 32]⟩ = bt [32, 114, 101, 102, 32] from rfl, bt_cat, bt_cat, bt_cat]; simp)
   rw [hre] at hrn
   change Calls _ _ #[.agg #[.string (bt xn), .int .i64 1, .string (bt xr)]] _ _
   clear hre hrl hnl HR
   generalize bt xn = nb at HS hnz ⊢
   generalize bt xr = rb at HS hrz hrn ⊢
   go_enter Tryz.func40, Tryz.ntmps40
   go_wp2_with fail
   go_ret
   exact ⟨congrArg (fun z => Ending.returned (.string z)) HS.out, (Fr.refl [] w).alloc _⟩
  ·
   obtain rfl : xr = [] := by simpa using hre
   have HS : Hid (bt xn ++ ⟨#[32, 105, 110, 116]⟩ = RES) := Hd (by rw [<- HR.out, show ⟨#[32, 105, 110, 116]⟩ = bt [32, 105, 110, 116] from rfl, bt_cat]; simp)
   change Calls _ _ #[.agg #[.string (bt xn), .int .i64 1, .string ⟨#[]⟩]] _ _
   clear hre hrn hrz hrl hnl HR
   generalize bt xn = nb at HS hnz ⊢
   go_enter Tryz.func40, Tryz.ntmps40
   go_wp2_with fail
   go_ret
   exact ⟨congrArg (fun z => Ending.returned (.string z)) HS.out, (Fr.refl [] w).alloc _⟩
 ·cases hre : xr.isEmpty
  ·
   have HS : Hid (bt xn ++ ⟨#[32, 116, 101, 120, 116]⟩ ++ (⟨#[32, 114, 101, 102, 32]⟩ ++ bt xr) = RES) := Hd (by rw [<- HR.out, hre, show ⟨#[32, 116, 101, 120, 116]⟩ = bt [32, 116, 101, 120, 116] from rfl, show ⟨#[32, 114, 101, 102, 32]⟩ = bt [32, 114, 101, 102, 32] from rfl, bt_cat, bt_cat, bt_cat]; simp)
   rw [hre] at hrn
   change Calls _ _ #[.agg #[.string (bt xn), .int .i64 2, .string (bt xr)]] _ _
   clear hre hrl hnl HR
   generalize bt xn = nb at HS hnz ⊢
   generalize bt xr = rb at HS hrz hrn ⊢
   go_enter Tryz.func40, Tryz.ntmps40
   go_wp2_with fail
   go_ret
   exact ⟨congrArg (fun z => Ending.returned (.string z)) HS.out, (Fr.refl [] w).alloc _⟩
  ·
   obtain rfl : xr = [] := by simpa using hre
   have HS : Hid (bt xn ++ ⟨#[32, 116, 101, 120, 116]⟩ = RES) := Hd (by rw [<- HR.out, show ⟨#[32, 116, 101, 120, 116]⟩ = bt [32, 116, 101, 120, 116] from rfl, bt_cat]; simp)
   change Calls _ _ #[.agg #[.string (bt xn), .int .i64 2, .string ⟨#[]⟩]] _ _
   clear hre hrn hrz hrl hnl HR
   generalize bt xn = nb at HS hnz ⊢
   go_enter Tryz.func40, Tryz.ntmps40
   go_wp2_with fail
   go_ret
   exact ⟨congrArg (fun z => Ending.returned (.string z)) HS.out, (Fr.refl [] w).alloc _⟩
theorem el_col {A : Nat -> Prop} {w : World} {a : Option Addr} {n cap : Nat} (l : List Co) (hok : ∀ x ∈ l, x.ok = true) (h : ColS A w (.slice a n cap) (l.map Co.col)) :
  n = l.length /\ ∀ j, (hj : j < (l.map coT).length) -> El_col 40 w a (l.map coT).length cap j (l.map coT)[j] := by
 obtain ⟨h1, h2, h3⟩ := Sh.flat_form (cells := Px.colC) (size := 3) (fun _ => rfl) h
 rw [List.length_map] at h1
 subst h1
 refine ⟨rfl, fun j hj => ?_⟩
 have hj' : j < l.length := by simpa using hj
 obtain ⟨g, off, rfl, _, hg, hcap, hcell⟩ := h3 j (by simpa using hj)
 rw [List.length_map] at hcap
 rw [List.getElem_map] at hcell ⊢
 exact ⟨g, off, _, _, _, rfl, by rw [List.length_map]; exact hcap, hg, hcell, fun W hW => col_any _ (hok _ (List.getElem_mem _)) W⟩
theorem clT_col' {c : Cl} (h : c.ok = true) : colT c.table c.name = clT c := by
 unfold clT Cl.line colT
 cases ht : c.table with
 |nil => simp [Pc.render, Pc.blanks, Pc.Pc.bytes]
 |cons => simp [Pc.render, Pc.blanks, Pc.Pc.bytes]
theorem cl_lens' {c : Cl} (h : c.ok = true) : c.table.length <= 16 /\ c.name.length <= 16 := by
 simp only [Cl.ok, Bool.and_eq_true, Bool.or_eq_true] at h
 have h2 := okName_len h.2
 refine ⟨?_, by omega⟩
 rcases h.1 with h1 | h1
 ·cases ht : c.table with
  |nil => simp
  |cons => rw [ht] at h1; cases h1
 ·have := okName_len h1; omega
theorem colT_le {t m : B} (h1 : t.length <= 16) (h2 : m.length <= 16) : (colT t m).length <= 33 := by
 unfold colT
 split
 ·omega
 ·simp; omega
theorem imT_agg' (k : Nat) (c : Cl) : imT (.agg k c) = CM.aggW k ++ [40] ++ clT c ++ [41] := by
 simp [imT, Im.line, Pc.render, Gn.render_app, Pc.blanks, Pc.Pc.bytes, clT]
set_option maxRecDepth 100000 in
set_option maxHeartbeats 4000000 in
theorem item_cl (c : Cl) (hok : c.ok = true) (w : World) :
  Calls Tryz.prog 88 #[.agg #[.int .i64 0, .string ⟨c.table.toArray⟩, .string ⟨c.name.toArray⟩]] w fun e w' => e = .returned (.string (bt (clT c))) /\ Fr [] w w' := by
 have hl := cl_lens' hok
 have HC := Hd (fun w => column_any c.table c.name (by omega) (by omega) w)
 rw [<- clT_col' hok]
 clear hl hok
 go_enter Tryz.func88, Tryz.ntmps88
 go_wp2_with fail
 refine (HC.out _).mono ?_
 rintro e w1 ⟨rfl, hf⟩
 have HF := Hd (((Fr.refl [] w).alloc _).trans hf)
 clear hf
 go_wp2_with fail
 go_ret
 exact ⟨congrArg (fun z => Ending.returned (.string z)) rfl, HF.out⟩
set_option maxRecDepth 100000 in
set_option maxHeartbeats 4000000 in
theorem item_agg (k : Nat) (hk : k < 3) (c : Cl) (hok : c.ok = true) (w : World) :
  Calls Tryz.prog 88 #[.agg #[.int .i64 (2 + (k : Int)), .string ⟨c.table.toArray⟩, .string ⟨c.name.toArray⟩]] w fun e w' => e = .returned (.string (bt (imT (.agg k c)))) /\ Fr [] w w' := by
 have hl := cl_lens' hok
 have HC := Hd (fun w => column_any c.table c.name (by omega) (by omega) w)
 have hcl := colT_le hl.1 hl.2
 have hds : ((bt (colT c.table c.name)).size : Int) <= 33 := by rw [bt_size]; omega
 have HS0 : Hid (bt (CM.aggW k) ++ ⟨#[40]⟩ ++ bt (colT c.table c.name) ++ ⟨#[41]⟩ = bt (imT (.agg k c))) := Hd (by rw [imT_agg', <- clT_col' hok, show (⟨#[40]⟩ : ByteArray) = bt [40] from rfl, show (⟨#[41]⟩ : ByteArray) = bt [41] from rfl]; simp only [bt_cat])
 change Hid (∀ w, Calls _ _ _ _ fun e w' => e = .returned (.string (bt (colT c.table c.name))) /\ _) at HC
 generalize bt (colT c.table c.name) = d at HC hds HS0
 generalize bt (imT (.agg k c)) = RES at HS0 ⊢
 clear hl hok hcl
 rcases (by omega : k = 0 \/ k = 1 \/ k = 2) with rfl | rfl | rfl
 ·
  have HS : Hid (⟨#[115, 117, 109, 40]⟩ ++ d ++ ⟨#[41]⟩ = RES) := Hd (by rw [<- HS0.out]; rfl)
  change Calls _ _ #[.agg #[.int .i64 2, _, _]] _ _
  clear HS0 hk
  go_enter Tryz.func88, Tryz.ntmps88
  go_wp2_with fail
  refine (HC.out _).mono ?_
  rintro e w1 ⟨rfl, hf⟩
  have HF := Hd (((Fr.refl [] w).alloc _).trans hf)
  clear hf
  go_wp2_with fail
  go_ret
  exact ⟨congrArg (fun z => Ending.returned (.string z)) HS.out, HF.out⟩
 ·
  have HS : Hid (⟨#[109, 105, 110, 40]⟩ ++ d ++ ⟨#[41]⟩ = RES) := Hd (by rw [<- HS0.out]; rfl)
  change Calls _ _ #[.agg #[.int .i64 3, _, _]] _ _
  clear HS0 hk
  go_enter Tryz.func88, Tryz.ntmps88
  go_wp2_with fail
  refine (HC.out _).mono ?_
  rintro e w1 ⟨rfl, hf⟩
  have HF := Hd (((Fr.refl [] w).alloc _).trans hf)
  clear hf
  go_wp2_with fail
  go_ret
  exact ⟨congrArg (fun z => Ending.returned (.string z)) HS.out, HF.out⟩
 ·
  have HS : Hid (⟨#[109, 97, 120, 40]⟩ ++ d ++ ⟨#[41]⟩ = RES) := Hd (by rw [<- HS0.out]; rfl)
  change Calls _ _ #[.agg #[.int .i64 4, _, _]] _ _
  clear HS0 hk
  go_enter Tryz.func88, Tryz.ntmps88
  go_wp2_with fail
  refine (HC.out _).mono ?_
  rintro e w1 ⟨rfl, hf⟩
  have HF := Hd (((Fr.refl [] w).alloc _).trans hf)
  clear hf
  go_wp2_with fail
  go_ret
  exact ⟨congrArg (fun z => Ending.returned (.string z)) HS.out, HF.out⟩
set_option maxRecDepth 100000 in
set_option maxHeartbeats 4000000 in
theorem item_count (w : World) :
  Calls Tryz.prog 88 #[.agg #[.int .i64 1, .string ⟨#[]⟩, .string ⟨#[]⟩]] w fun e w' => e = .returned (.string (bt (imT .count))) /\ Fr [] w w' := by
 go_enter Tryz.func88, Tryz.ntmps88
 go_wp2_with fail
 go_ret
 exact ⟨rfl, (Fr.refl [] w).alloc _⟩
theorem item_any (x : Im) (hok : x.ok = true) (w : World) :
  Calls Tryz.prog 88 #[.agg (Px.itC x.it).toArray] w fun e w' => e = .returned (.string (bt (imT x))) /\ Fr [] w w' := by
 cases x with
 |col c => exact item_cl c hok w
 |count => exact item_count w
 |agg k c =>
  have h : (decide (k < 3) && c.ok) = true := hok
  simp only [Bool.and_eq_true, decide_eq_true_eq] at h
  exact item_agg k h.1 c h.2 w
theorem el_it {A : Nat -> Prop} {w : World} {a : Option Addr} {n cap : Nat} (l : List Im) (hok : ∀ x ∈ l, x.ok = true) (h : ItS A w (.slice a n cap) (l.map Im.it)) :
  n = l.length /\ ∀ j, (hj : j < (l.map imT).length) -> El_it 88 w a (l.map imT).length cap j (l.map imT)[j] := by
 obtain ⟨h1, h2, h3⟩ := Sh.flat_form (cells := Px.itC) (size := 3) (fun _ => rfl) h
 rw [List.length_map] at h1
 subst h1
 refine ⟨rfl, fun j hj => ?_⟩
 have hj' : j < l.length := by simpa using hj
 obtain ⟨g, off, rfl, _, hg, hcap, hcell⟩ := h3 j (by simpa using hj)
 rw [List.length_map] at hcap
 rw [List.getElem_map] at hcell ⊢
 exact ⟨g, off, _, _, _, rfl, by rw [List.length_map]; exact hcap, hg, hcell, fun W hW => item_any _ (hok _ (List.getElem_mem _)) W⟩
end Sw
end Go.Proofs.YtmdnhinpaflamaaGreatDoor
namespace Go.Proofs.YtmdnhinpaflamaaGreatDoor
open Go.RowKit
set_option linter.unusedVariables false
set_option linter.unusedSimpArgs false
namespace Sh
open PM (Ex B)
open CM (Pr Qs Wr Sel Im Co Cl)
open Gn (sh)
open Px (SR SS ItS TagS ColS)
def clPr (c : Cl) : Pr := if c.table.isEmpty then .col c.name else .tcol c.table c.name
theorem clPr_ex (c : Cl) : (clPr c).ex = c.ex := by
 obtain ⟨t, n⟩ := c
 unfold clPr Cl.ex
 cases t <;> rfl
theorem clPr_ok {c : Cl} (h : c.ok = true) : (clPr c).ok = true := by
 obtain ⟨t, n⟩ := c
 simp only [Cl.ok, Bool.and_eq_true, Bool.or_eq_true] at h
 unfold clPr
 cases t with
 |nil => exact h.2
 |cons a r =>
  have h1 : Pc.okName (a :: r) = true := by rcases h.1 with h1 | h1; cases h1; exact h1
  show (Pc.okName (a :: r) && Pc.okName n) = true
  rw [h1, h.2]; rfl
theorem clPr_sh (c : Cl) : sh (clPr c) = clT c := by
 obtain ⟨t, n⟩ := c
 unfold clPr clT Cl.line sh
 cases t <;> rfl
theorem clT_le {c : Cl} (h : c.ok = true) : (clT c).length <= 40 := by
 simp only [Cl.ok, Bool.and_eq_true, Bool.or_eq_true] at h
 have h2 := okName_len h.2
 unfold clT
 rcases h.1 with h1 | h1
 ·unfold Cl.line
  rw [if_pos h1]
  simp [Pc.render, Pc.blanks, Pc.Pc.bytes]
  omega
 ·have := okName_len h1
  unfold Cl.line
  split <;> simp [Pc.render, Pc.blanks, Pc.Pc.bytes] <;> omega
theorem bt_empty (l : B) : (bt l).toList.isEmpty = l.isEmpty := by
 cases l with
 |nil => kernel_rfl
 |cons c r =>
  have h1 : ((bt (c :: r)).toList == (⟨#[]⟩ : ByteArray).toList) = false := by
   rw [Lib.bytes_beq_false_iff]
   exact fun h => by have := congrArg (fun z => z.data.toList) h; simp at this
  rw [(by kernel_rfl : (⟨#[]⟩ : ByteArray).toList = [])] at h1
  cases h2 : (bt (c :: r)).toList with
  |nil => rw [h2] at h1; cases h1
  |cons => rfl
theorem P0_ok (l : List Im) : ([115, 101, 108, 101, 99, 116, 32] ++ (if l.isEmpty then [42] else []) : B) ++ jn imT l = [115, 101, 108, 101, 99, 116, 32] ++ itemsT l := by
 unfold itemsT
 cases l with
 |nil => rfl
 |cons x r => simp
theorem sel_le {s : Sel} (h : (selT s).length <= 60000) : ([115, 101, 108, 101, 99, 116, 32] ++ itemsT s.items ++ [32, 102, 114, 111, 109, 32] ++ s.table : B).length <= 60000 /\ ([115, 101, 108, 101, 99, 116, 32] ++ itemsT s.items ++ [32, 102, 114, 111, 109, 32] ++ s.table ++ joinT s.join : B).length <= 60000 /\ ([115, 101, 108, 101, 99, 116, 32] ++ itemsT s.items ++ [32, 102, 114, 111, 109, 32] ++ s.table ++ joinT s.join ++ whereT s.wher : B).length <= 60000 /\ (whereT s.wher).length <= 60000 /\ ([115, 101, 108, 101, 99, 116, 32] ++ itemsT s.items : B).length <= 60000 := by
 unfold selT at h
 simp only [List.length_append] at h ⊢
 omega
end Sh
end Go.Proofs.YtmdnhinpaflamaaGreatDoor
