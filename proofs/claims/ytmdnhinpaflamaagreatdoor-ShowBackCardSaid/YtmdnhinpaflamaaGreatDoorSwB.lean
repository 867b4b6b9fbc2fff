/- How show joins texts of things: joined, at each type; one. -/
import Derived.Test.YtmdnhinpaflamaaGreatDoorShA
import Derived.Test.YtmdnhinpaflamaaGreatDoorGaB
namespace Go.Proofs.YtmdnhinpaflamaaGreatDoor
open Go.RowKit
set_option linter.unusedVariables false
set_option linter.unusedSimpArgs false
namespace Sw
open PM (Ex B)
open CM (Pr)
open Gn (sh opB Gr)
open Sh (bt bt_cat bt_size colT bs)
def sC (b : B) : List Value := [.string ⟨b.toArray⟩]
def kS : Px.Kd B := Px.kFlat sC 1 (fun _ => rfl) (fun _ => by simp [sC, Value.oneCell'])
theorem info_str : (Tryz.prog.info? 9).map (fun i => (i.zero, i.size, i.bytes)) = some (some (.string ⟨#[]⟩), 1, 16) := by kernel_rfl
theorem lim16 {n : Nat} (h : n <= 60001) : n + 1 <= maxLen /\ (n + 1) * 16 <= 140737488355328 := by
 refine ⟨by unfold maxLen; omega, by omega⟩
theorem join_elem (sep : B) : ∀ (L : List B) (x : B), x ∈ L -> x.length <= (Lib.join L sep).length
 |[], x, h => by simp at h
 |y :: r, x, h => by
  rw [Lib.join_cons, List.length_append]
  rcases List.mem_cons.1 h with rfl | h
  ·omega
  ·have key : ∀ r : List B, x ∈ r -> x.length <= (Lib.joinTail sep r).length := fun r => by
    induction r with
    |nil => simp
    |cons z r ih =>
     intro h
     simp only [Lib.joinTail, List.map_cons, List.flatten_cons, List.length_append] at ih ⊢
     rcases List.mem_cons.1 h with rfl | h
     ·omega
     ·have := ih h; omega
   have := key r h
   omega
theorem bts_map (L : List B) : (L.map bt).map (·.data.toList) = L := by
 induction L with
 |nil => rfl
 |cons x r ih => simp only [List.map_cons, ih]
set_option maxRecDepth 100000 in
set_option maxHeartbeats 2000000 in
theorem join_end (L : List B) (sep : B) (hL : L.length <= 60000) (hlen : (Lib.join L sep).length <= 60000) (b0 : Nat) (w : World) (v : Value) (h : Gr kS 9 b0 w v L) :
  Calls Tryz.prog 85 #[v, .string (bt sep)] w fun e w' => e = .returned (.string (bt (Lib.join L sep))) /\ Fr [] w w' := by
 have hF := Gr.flat h
 obtain ⟨a, n, cap, rfl⟩ := Px.FlatS.form hF
 obtain ⟨rfl, _, hc⟩ := Sh.flat_form (cells := sC) (size := 1) (fun _ => rfl) hF
 by_cases h0 : L = []
 ·subst h0
  refine (Tryz.strings_Join_none a cap (bt sep) w).mono ?_
  rintro e w' ⟨rfl, rfl⟩
  exact ⟨rfl, Fr.refl _ _⟩
 ·obtain ⟨g, off, rfl, _, hg, hcap, _⟩ := hc 0 (List.length_pos_iff.2 h0)
  have hJ := Tryz.strings_Join g off cap (L.map bt) (bt sep) w (fun j x hx => by
   rw [List.getElem?_map] at hx
   obtain ⟨y, hy, rfl⟩ := Option.map_eq_some_iff.1 hx
   obtain ⟨hj, rfl⟩ := List.getElem?_eq_some_iff.1 hy
   obtain ⟨g', off', e, _, _, _, hc'⟩ := hc j hj
   cases e
   have := hc' 0 _ rfl
   simpa using this) hg (by rw [List.length_map]; omega) (by rw [List.length_map]; exact hcap) (by rw [bts_map]; show (Lib.join L sep).length <= _; omega)
  rw [bts_map, List.length_map] at hJ
  refine hJ.mono ?_
  rintro e w' ⟨rfl, hf⟩
  exact ⟨rfl, Fr.of_below hf⟩
def El_ex (k : Nat) (w : World) (a : Option Addr) (n cap : Nat) (j : Nat) (x : B) : Prop := ∃ (g off : Nat) (op kind int : Int) (text tbl nme : B) (b1 : Option Addr) (m1 d1 : Nat), a = some ⟨g, off, none⟩ /\ n <= cap /\ g < w.heap.size /\ (∀ (i : Nat) u, ([.int .i64 op, .int .i64 kind, .int .i64 int, .string ⟨text.toArray⟩, .string ⟨tbl.toArray⟩, .string ⟨nme.toArray⟩, .slice b1 m1 d1] : List Value)[i]? = some u -> w.cell? ⟨g, off + j * 7 + i, none⟩ = some u) /\ ∀ W, Fr [] w W -> Calls Tryz.prog k #[.agg #[.int .i64 op, .int .i64 kind, .int .i64 int, .string ⟨text.toArray⟩, .string ⟨tbl.toArray⟩, .string ⟨nme.toArray⟩, .slice b1 m1 d1]] W fun e w' => e = .returned (.string (bt x)) /\ Fr [] W w'
set_option maxRecDepth 100000 in
set_option maxHeartbeats 4000000 in
theorem joined_ex (k : Nat) (sep : B) (L : List B) (hL : L.length <= 60000) (hlen : (Lib.join L sep).length <= 60000) (a : Option Addr) (cap : Nat) (w : World)
  (hrun : ∀ (w : World) v, Sem.run Tryz.prog (callFunc k #[v]) w = .ok (.enter k #[v]) w) (hE : ∀ j, (hj : j < L.length) -> El_ex k w a L.length cap j L[j]) :
  Calls Tryz.prog 42 #[.slice a L.length cap, .string (bt sep), .func (.func k) #[] #[]] w fun e w' => e = .returned (.string (bt (Lib.join L sep))) /\ Fr [] w w' := by
 have HE := Hd hE
 have HRUN := Hd hrun
 have hel : ∀ x ∈ L, ((bt x).size : Int) <= 60000 := fun x hx => by have := join_elem sep L x hx; rw [bt_size]; omega
 have HEL := Hd hel
 have HJ := Hd (join_end L sep hL hlen)
 obtain ⟨i0, hi, hz0, hz1, hz2⟩ := info_parts info_str
 have hli : (L.length : Int) <= 60000 := by omega
 change Calls _ _ #[_, .string (bt sep), _] _ _
 generalize bt sep = sp at HJ ⊢
 generalize bt (Lib.join L sep) = RES at HJ ⊢
 clear hrun hE hel hlen hL
 go_enter Tryz.func42, Tryz.ntmps42
 go_wp2_with fail
 go_loopw [7, 12] (fun v i wr => ∃ (j : Nat), i = .int .i64 j /\ j <= L.length /\ Hid (Gr kS 9 w.heap.size wr v (L.take j)) /\ Hid (Fr [] w wr)) (fun _ i _ => L.length - (intOf i).toNat)
 case atStart => exact ⟨0, rfl, Nat.zero_le _, Hd Gr.nil, Hd (Fr.refl [] w)⟩
 case round =>
  obtain ⟨j, rfl, hj, HG, HF⟩ := hrel
  by_cases hjl : j < L.length
  ·have hjl' : (j : Int) < L.length := by omega
   obtain ⟨g, off, op, kind, int, text, tbl, nme, b1, m1, d1, rfl, hcap, hg, hcell, hC⟩ := HE.out j hjl
   have HC := Hd (fun o => hC (wr.alloc o) (HF.out.alloc o))
   have c0 := (HF.out.cell (p := ⟨g, off + j * 7, none⟩) hg (by simp)).trans (hcell 0 _ rfl)
   have c1 := (HF.out.cell (p := ⟨g, off + j * 7 + 1, none⟩) hg (by simp)).trans (hcell 1 _ rfl)
   have c2 := (HF.out.cell (p := ⟨g, off + j * 7 + 2, none⟩) hg (by simp)).trans (hcell 2 _ rfl)
   have c3 := (HF.out.cell (p := ⟨g, off + j * 7 + 3, none⟩) hg (by simp)).trans (hcell 3 _ rfl)
   have c4 := (HF.out.cell (p := ⟨g, off + j * 7 + 4, none⟩) hg (by simp)).trans (hcell 4 _ rfl)
   have c5 := (HF.out.cell (p := ⟨g, off + j * 7 + 5, none⟩) hg (by simp)).trans (hcell 5 _ rfl)
   have c6 := (HF.out.cell (p := ⟨g, off + j * 7 + 6, none⟩) hg (by simp)).trans (hcell 6 _ rfl)
   have hds := HEL.out _ (List.getElem_mem hjl)
   have hcl : (L.length : Int) <= cap := by omega
   obtain ⟨d, hd⟩ : ∃ d, L[j] = d := ⟨_, rfl⟩
   rw [hd] at HC hds
   have HD := Hd hd
   clear hcell hC hd hcap
   go_wp2_with fail
   rw [HRUN.out, Oper.upon_enter]
   refine (HC.out _).mono ?_
   rintro e w3 ⟨rfl, hf3⟩
   have HF3 := Hd ((HF.out.alloc _).trans hf3)
   have HG3 := Hd (HG.out.keep (((Fr.refl [] wr).alloc _).trans hf3) (fun g hg => by simp))
   have hsz := HF3.out.size
   clear hf3 HC
   obtain ⟨⟨cs, hRL, hROW⟩, hOWN⟩ := HG3.out
   have HRL := Hd hRL
   have HROW := Hd hROW
   have HOWN := Hd hOWN
   have hlt : (L.take j).length = j := by rw [List.length_take]; omega
   rw [hlt] at hROW
   change Row w3 9 1 _ _ _ at hROW
   have HROW3 := Hd (hROW.keep ((Fr.refl [] w3).alloc (.cells #[.string (bt d)] 9)) (by simp))
   obtain ⟨hmx, hby⟩ := lim16 (n := j) (by omega)
   have HLT := Hd hlt
   clear hRL hROW hOWN HG3 hlt
   go_wp2_with (at_builtin; refine wpList_append_row rfl _ _ 65 rfl 9 i0 (.string ⟨#[]⟩) 1 16 Tryz.underlying65 hi hz0 hz1 hz2 rfl (by decide) u7 j cs rfl HROW3.out ⟨w3.heap.size, 0, none⟩ 1 1 [.string (bt d)] rfl rfl ?c1 ?c2 hmx hby ?_)
   case c1 => exact Lx.four_new w3 9 [.string (bt d)]
   case c2 => simp [Value.oneCell']
   intro v' w4 hr' hf' hb'
   have hx : kS.E (fun b => w.heap.size <= b /\ u7.ownBlock ≠ some b) w3 d [.string (bt d)] := rfl
   obtain ⟨st1, st2⟩ := Gr.push (x := d) HRL.out HROW.out HOWN.out (by omega) hx (by rw [HLT.out]; exact hr') hf' hb'
   have HG4 : Hid (Gr kS 9 w.heap.size w4 v' (L.take (j + 1))) := Hd (by rw [List.take_succ_eq_append_getElem hjl, HD.out]; exact st1)
   have HF4 : Hid (Fr [] w w4) := Hd (st2 (Nat.le_refl _) HF3.out)
   clear hr' hf' hb' st1 st2 HROW3 HRL HROW HOWN hx
   go_wp2_with fail
   go_roundw
   case rel => exact ⟨j + 1, by go_num, by omega, HG4, HF4⟩
   case measure => simp only [intOf]; omega
  ·obtain rfl : j = L.length := by omega
   have HG2 := Hd (by have := HG.out; rw [List.take_length] at this; exact this)
   have HJ2 := Hd (HJ.out _ _ _ HG2.out)
   clear HG HG2 HJ
   go_wp2_with fail
   refine HJ2.out.mono ?_
   rintro e w3 ⟨rfl, hf3⟩
   have HF3 := Hd (HF.out.trans hf3)
   clear hf3
   go_wp2_with fail
   go_ret
   exact ⟨rfl, HF3.out⟩
def El_col (k : Nat) (w : World) (a : Option Addr) (n cap : Nat) (j : Nat) (x : B) : Prop := ∃ (g off : Nat) (nme : B) (kind : Int) (ref : B), a = some ⟨g, off, none⟩ /\ n <= cap /\ g < w.heap.size /\ (∀ (i : Nat) u, ([.string ⟨nme.toArray⟩, .int .i64 kind, .string ⟨ref.toArray⟩] : List Value)[i]? = some u -> w.cell? ⟨g, off + j * 3 + i, none⟩ = some u) /\ ∀ W, Fr [] w W -> Calls Tryz.prog k #[.agg #[.string ⟨nme.toArray⟩, .int .i64 kind, .string ⟨ref.toArray⟩]] W fun e w' => e = .returned (.string (bt x)) /\ Fr [] W w'
set_option maxRecDepth 100000 in
set_option maxHeartbeats 4000000 in
theorem joined_col (k : Nat) (sep : B) (L : List B) (hL : L.length <= 60000) (hlen : (Lib.join L sep).length <= 60000) (a : Option Addr) (cap : Nat) (w : World)
  (hrun : ∀ (w : World) v, Sem.run Tryz.prog (callFunc k #[v]) w = .ok (.enter k #[v]) w) (hE : ∀ j, (hj : j < L.length) -> El_col k w a L.length cap j L[j]) :
  Calls Tryz.prog 39 #[.slice a L.length cap, .string (bt sep), .func (.func k) #[] #[]] w fun e w' => e = .returned (.string (bt (Lib.join L sep))) /\ Fr [] w w' := by
 have HE := Hd hE
 have HRUN := Hd hrun
 have hel : ∀ x ∈ L, ((bt x).size : Int) <= 60000 := fun x hx => by have := join_elem sep L x hx; rw [bt_size]; omega
 have HEL := Hd hel
 have HJ := Hd (join_end L sep hL hlen)
 obtain ⟨i0, hi, hz0, hz1, hz2⟩ := info_parts info_str
 have hli : (L.length : Int) <= 60000 := by omega
 change Calls _ _ #[_, .string (bt sep), _] _ _
 generalize bt sep = sp at HJ ⊢
 generalize bt (Lib.join L sep) = RES at HJ ⊢
 clear hrun hE hel hlen hL
 go_enter Tryz.func39, Tryz.ntmps39
 go_wp2_with fail
 go_loopw [7, 12] (fun v i wr => ∃ (j : Nat), i = .int .i64 j /\ j <= L.length /\ Hid (Gr kS 9 w.heap.size wr v (L.take j)) /\ Hid (Fr [] w wr)) (fun _ i _ => L.length - (intOf i).toNat)
 case atStart => exact ⟨0, rfl, Nat.zero_le _, Hd Gr.nil, Hd (Fr.refl [] w)⟩
 case round =>
  obtain ⟨j, rfl, hj, HG, HF⟩ := hrel
  by_cases hjl : j < L.length
  ·have hjl' : (j : Int) < L.length := by omega
   obtain ⟨g, off, nme, kind, ref, rfl, hcap, hg, hcell, hC⟩ := HE.out j hjl
   have HC := Hd (fun o => hC (wr.alloc o) (HF.out.alloc o))
   have c0 := (HF.out.cell (p := ⟨g, off + j * 3, none⟩) hg (by simp)).trans (hcell 0 _ rfl)
   have c1 := (HF.out.cell (p := ⟨g, off + j * 3 + 1, none⟩) hg (by simp)).trans (hcell 1 _ rfl)
   have c2 := (HF.out.cell (p := ⟨g, off + j * 3 + 2, none⟩) hg (by simp)).trans (hcell 2 _ rfl)
   have hds := HEL.out _ (List.getElem_mem hjl)
   have hcl : (L.length : Int) <= cap := by omega
   obtain ⟨d, hd⟩ : ∃ d, L[j] = d := ⟨_, rfl⟩
   rw [hd] at HC hds
   have HD := Hd hd
   clear hcell hC hd hcap
   go_wp2_with fail
   rw [HRUN.out, Oper.upon_enter]
   refine (HC.out _).mono ?_
   rintro e w3 ⟨rfl, hf3⟩
   have HF3 := Hd ((HF.out.alloc _).trans hf3)
   have HG3 := Hd (HG.out.keep (((Fr.refl [] wr).alloc _).trans hf3) (fun g hg => by simp))
   have hsz := HF3.out.size
   clear hf3 HC
   obtain ⟨⟨cs, hRL, hROW⟩, hOWN⟩ := HG3.out
   have HRL := Hd hRL
   have HROW := Hd hROW
   have HOWN := Hd hOWN
   have hlt : (L.take j).length = j := by rw [List.length_take]; omega
   rw [hlt] at hROW
   change Row w3 9 1 _ _ _ at hROW
   have HROW3 := Hd (hROW.keep ((Fr.refl [] w3).alloc (.cells #[.string (bt d)] 9)) (by simp))
   obtain ⟨hmx, hby⟩ := lim16 (n := j) (by omega)
   have HLT := Hd hlt
   clear hRL hROW hOWN HG3 hlt
   go_wp2_with (at_builtin; refine wpList_append_row rfl _ _ 65 rfl 9 i0 (.string ⟨#[]⟩) 1 16 Tryz.underlying65 hi hz0 hz1 hz2 rfl (by decide) u7 j cs rfl HROW3.out ⟨w3.heap.size, 0, none⟩ 1 1 [.string (bt d)] rfl rfl ?c1 ?c2 hmx hby ?_)
   case c1 => exact Lx.four_new w3 9 [.string (bt d)]
   case c2 => simp [Value.oneCell']
   intro v' w4 hr' hf' hb'
   have hx : kS.E (fun b => w.heap.size <= b /\ u7.ownBlock ≠ some b) w3 d [.string (bt d)] := rfl
   obtain ⟨st1, st2⟩ := Gr.push (x := d) HRL.out HROW.out HOWN.out (by omega) hx (by rw [HLT.out]; exact hr') hf' hb'
   have HG4 : Hid (Gr kS 9 w.heap.size w4 v' (L.take (j + 1))) := Hd (by rw [List.take_succ_eq_append_getElem hjl, HD.out]; exact st1)
   have HF4 : Hid (Fr [] w w4) := Hd (st2 (Nat.le_refl _) HF3.out)
   clear hr' hf' hb' st1 st2 HROW3 HRL HROW HOWN hx
   go_wp2_with fail
   go_roundw
   case rel => exact ⟨j + 1, by go_num, by omega, HG4, HF4⟩
   case measure => simp only [intOf]; omega
  ·obtain rfl : j = L.length := by omega
   have HG2 := Hd (by have := HG.out; rw [List.take_length] at this; exact this)
   have HJ2 := Hd (HJ.out _ _ _ HG2.out)
   clear HG HG2 HJ
   go_wp2_with fail
   refine HJ2.out.mono ?_
   rintro e w3 ⟨rfl, hf3⟩
   have HF3 := Hd (HF.out.trans hf3)
   clear hf3
   go_wp2_with fail
   go_ret
   exact ⟨rfl, HF3.out⟩
def El_it (k : Nat) (w : World) (a : Option Addr) (n cap : Nat) (j : Nat) (x : B) : Prop := ∃ (g off : Nat) (agg : Int) (tbl nme : B), a = some ⟨g, off, none⟩ /\ n <= cap /\ g < w.heap.size /\ (∀ (i : Nat) u, ([.int .i64 agg, .string ⟨tbl.toArray⟩, .string ⟨nme.toArray⟩] : List Value)[i]? = some u -> w.cell? ⟨g, off + j * 3 + i, none⟩ = some u) /\ ∀ W, Fr [] w W -> Calls Tryz.prog k #[.agg #[.int .i64 agg, .string ⟨tbl.toArray⟩, .string ⟨nme.toArray⟩]] W fun e w' => e = .returned (.string (bt x)) /\ Fr [] W w'
set_option maxRecDepth 100000 in
set_option maxHeartbeats 4000000 in
theorem joined_it (k : Nat) (sep : B) (L : List B) (hL : L.length <= 60000) (hlen : (Lib.join L sep).length <= 60000) (a : Option Addr) (cap : Nat) (w : World)
  (hrun : ∀ (w : World) v, Sem.run Tryz.prog (callFunc k #[v]) w = .ok (.enter k #[v]) w) (hE : ∀ j, (hj : j < L.length) -> El_it k w a L.length cap j L[j]) :
  Calls Tryz.prog 87 #[.slice a L.length cap, .string (bt sep), .func (.func k) #[] #[]] w fun e w' => e = .returned (.string (bt (Lib.join L sep))) /\ Fr [] w w' := by
 have HE := Hd hE
 have HRUN := Hd hrun
 have hel : ∀ x ∈ L, ((bt x).size : Int) <= 60000 := fun x hx => by have := join_elem sep L x hx; rw [bt_size]; omega
 have HEL := Hd hel
 have HJ := Hd (join_end L sep hL hlen)
 obtain ⟨i0, hi, hz0, hz1, hz2⟩ := info_parts info_str
 have hli : (L.length : Int) <= 60000 := by omega
 change Calls _ _ #[_, .string (bt sep), _] _ _
 generalize bt sep = sp at HJ ⊢
 generalize bt (Lib.join L sep) = RES at HJ ⊢
 clear hrun hE hel hlen hL
 go_enter Tryz.func87, Tryz.ntmps87
 go_wp2_with fail
 go_loopw [7, 12] (fun v i wr => ∃ (j : Nat), i = .int .i64 j /\ j <= L.length /\ Hid (Gr kS 9 w.heap.size wr v (L.take j)) /\ Hid (Fr [] w wr)) (fun _ i _ => L.length - (intOf i).toNat)
 case atStart => exact ⟨0, rfl, Nat.zero_le _, Hd Gr.nil, Hd (Fr.refl [] w)⟩
 case round =>
  obtain ⟨j, rfl, hj, HG, HF⟩ := hrel
  by_cases hjl : j < L.length
  ·have hjl' : (j : Int) < L.length := by omega
   obtain ⟨g, off, agg, tbl, nme, rfl, hcap, hg, hcell, hC⟩ := HE.out j hjl
   have HC := Hd (fun o => hC (wr.alloc o) (HF.out.alloc o))
   have c0 := (HF.out.cell (p := ⟨g, off + j * 3, none⟩) hg (by simp)).trans (hcell 0 _ rfl)
   have c1 := (HF.out.cell (p := ⟨g, off + j * 3 + 1, none⟩) hg (by simp)).trans (hcell 1 _ rfl)
   have c2 := (HF.out.cell (p := ⟨g, off + j * 3 + 2, none⟩) hg (by simp)).trans (hcell 2 _ rfl)
   have hds := HEL.out _ (List.getElem_mem hjl)
   have hcl : (L.length : Int) <= cap := by omega
   obtain ⟨d, hd⟩ : ∃ d, L[j] = d := ⟨_, rfl⟩
   rw [hd] at HC hds
   have HD := Hd hd
   clear hcell hC hd hcap
   go_wp2_with fail
   rw [HRUN.out, Oper.upon_enter]
   refine (HC.out _).mono ?_
   rintro e w3 ⟨rfl, hf3⟩
   have HF3 := Hd ((HF.out.alloc _).trans hf3)
   have HG3 := Hd (HG.out.keep (((Fr.refl [] wr).alloc _).trans hf3) (fun g hg => by simp))
   have hsz := HF3.out.size
   clear hf3 HC
   obtain ⟨⟨cs, hRL, hROW⟩, hOWN⟩ := HG3.out
   have HRL := Hd hRL
   have HROW := Hd hROW
   have HOWN := Hd hOWN
   have hlt : (L.take j).length = j := by rw [List.length_take]; omega
   rw [hlt] at hROW
   change Row w3 9 1 _ _ _ at hROW
   have HROW3 := Hd (hROW.keep ((Fr.refl [] w3).alloc (.cells #[.string (bt d)] 9)) (by simp))
   obtain ⟨hmx, hby⟩ := lim16 (n := j) (by omega)
   have HLT := Hd hlt
   clear hRL hROW hOWN HG3 hlt
   go_wp2_with (at_builtin; refine wpList_append_row rfl _ _ 65 rfl 9 i0 (.string ⟨#[]⟩) 1 16 Tryz.underlying65 hi hz0 hz1 hz2 rfl (by decide) u7 j cs rfl HROW3.out ⟨w3.heap.size, 0, none⟩ 1 1 [.string (bt d)] rfl rfl ?c1 ?c2 hmx hby ?_)
   case c1 => exact Lx.four_new w3 9 [.string (bt d)]
   case c2 => simp [Value.oneCell']
   intro v' w4 hr' hf' hb'
   have hx : kS.E (fun b => w.heap.size <= b /\ u7.ownBlock ≠ some b) w3 d [.string (bt d)] := rfl
   obtain ⟨st1, st2⟩ := Gr.push (x := d) HRL.out HROW.out HOWN.out (by omega) hx (by rw [HLT.out]; exact hr') hf' hb'
   have HG4 : Hid (Gr kS 9 w.heap.size w4 v' (L.take (j + 1))) := Hd (by rw [List.take_succ_eq_append_getElem hjl, HD.out]; exact st1)
   have HF4 : Hid (Fr [] w w4) := Hd (st2 (Nat.le_refl _) HF3.out)
   clear hr' hf' hb' st1 st2 HROW3 HRL HROW HOWN hx
   go_wp2_with fail
   go_roundw
   case rel => exact ⟨j + 1, by go_num, by omega, HG4, HF4⟩
   case measure => simp only [intOf]; omega
  ·obtain rfl : j = L.length := by omega
   have HG2 := Hd (by have := HG.out; rw [List.take_length] at this; exact this)
   have HJ2 := Hd (HJ.out _ _ _ HG2.out)
   clear HG HG2 HJ
   go_wp2_with fail
   refine HJ2.out.mono ?_
   rintro e w3 ⟨rfl, hf3⟩
   have HF3 := Hd (HF.out.trans hf3)
   clear hf3
   go_wp2_with fail
   go_ret
   exact ⟨rfl, HF3.out⟩
def El_tag (k : Nat) (w : World) (a : Option Addr) (n cap : Nat) (j : Nat) (x : B) : Prop := ∃ (g off : Nat) (t : Int), a = some ⟨g, off, none⟩ /\ n <= cap /\ g < w.heap.size /\ (∀ (i : Nat) u, ([.int .u16 t] : List Value)[i]? = some u -> w.cell? ⟨g, off + j * 1 + i, none⟩ = some u) /\ ∀ W, Fr [] w W -> Calls Tryz.prog k #[.int .u16 t] W fun e w' => e = .returned (.string (bt x)) /\ Fr [] W w'
set_option maxRecDepth 100000 in
set_option maxHeartbeats 4000000 in
theorem joined_tag (k : Nat) (sep : B) (L : List B) (hL : L.length <= 60000) (hlen : (Lib.join L sep).length <= 60000) (a : Option Addr) (cap : Nat) (w : World)
  (hrun : ∀ (w : World) v, Sem.run Tryz.prog (callFunc k #[v]) w = .ok (.enter k #[v]) w) (hE : ∀ j, (hj : j < L.length) -> El_tag k w a L.length cap j L[j]) :
  Calls Tryz.prog 89 #[.slice a L.length cap, .string (bt sep), .func (.func k) #[] #[]] w fun e w' => e = .returned (.string (bt (Lib.join L sep))) /\ Fr [] w w' := by
 have HE := Hd hE
 have HRUN := Hd hrun
 have hel : ∀ x ∈ L, ((bt x).size : Int) <= 60000 := fun x hx => by have := join_elem sep L x hx; rw [bt_size]; omega
 have HEL := Hd hel
 have HJ := Hd (join_end L sep hL hlen)
 obtain ⟨i0, hi, hz0, hz1, hz2⟩ := info_parts info_str
 have hli : (L.length : Int) <= 60000 := by omega
 change Calls _ _ #[_, .string (bt sep), _] _ _
 generalize bt sep = sp at HJ ⊢
 generalize bt (Lib.join L sep) = RES at HJ ⊢
 clear hrun hE hel hlen hL
 go_enter Tryz.func89, Tryz.ntmps89
 go_wp2_with fail
 go_loopw [7, 12] (fun v i wr => ∃ (j : Nat), i = .int .i64 j /\ j <= L.length /\ Hid (Gr kS 9 w.heap.size wr v (L.take j)) /\ Hid (Fr [] w wr)) (fun _ i _ => L.length - (intOf i).toNat)
 case atStart => exact ⟨0, rfl, Nat.zero_le _, Hd Gr.nil, Hd (Fr.refl [] w)⟩
 case round =>
  obtain ⟨j, rfl, hj, HG, HF⟩ := hrel
  by_cases hjl : j < L.length
  ·have hjl' : (j : Int) < L.length := by omega
   obtain ⟨g, off, t, rfl, hcap, hg, hcell, hC⟩ := HE.out j hjl
   have HC := Hd (hC wr HF.out)
   have c0 := (HF.out.cell (p := ⟨g, off + j * 1, none⟩) hg (by simp)).trans (hcell 0 _ rfl)
   simp only [Nat.mul_one] at c0
   have hds := HEL.out _ (List.getElem_mem hjl)
   have hcl : (L.length : Int) <= cap := by omega
   obtain ⟨d, hd⟩ : ∃ d, L[j] = d := ⟨_, rfl⟩
   rw [hd] at HC hds
   have HD := Hd hd
   clear hcell hC hd hcap
   go_wp2_with fail
   rw [HRUN.out, Oper.upon_enter]
   refine HC.out.mono ?_
   rintro e w3 ⟨rfl, hf3⟩
   have HF3 := Hd (HF.out.trans hf3)
   have HG3 := Hd (HG.out.keep hf3 (fun g hg => by simp))
   have hsz := HF3.out.size
   clear hf3 HC
   obtain ⟨⟨cs, hRL, hROW⟩, hOWN⟩ := HG3.out
   have HRL := Hd hRL
   have HROW := Hd hROW
   have HOWN := Hd hOWN
   have hlt : (L.take j).length = j := by rw [List.length_take]; omega
   rw [hlt] at hROW
   change Row w3 9 1 _ _ _ at hROW
   have HROW3 := Hd (hROW.keep ((Fr.refl [] w3).alloc (.cells #[.string (bt d)] 9)) (by simp))
   obtain ⟨hmx, hby⟩ := lim16 (n := j) (by omega)
   have HLT := Hd hlt
   clear hRL hROW hOWN HG3 hlt
   go_wp2_with (at_builtin; refine wpList_append_row rfl _ _ 65 rfl 9 i0 (.string ⟨#[]⟩) 1 16 Tryz.underlying65 hi hz0 hz1 hz2 rfl (by decide) u7 j cs rfl HROW3.out ⟨w3.heap.size, 0, none⟩ 1 1 [.string (bt d)] rfl rfl ?c1 ?c2 hmx hby ?_)
   case c1 => exact Lx.four_new w3 9 [.string (bt d)]
   case c2 => simp [Value.oneCell']
   intro v' w4 hr' hf' hb'
   have hx : kS.E (fun b => w.heap.size <= b /\ u7.ownBlock ≠ some b) w3 d [.string (bt d)] := rfl
   obtain ⟨st1, st2⟩ := Gr.push (x := d) HRL.out HROW.out HOWN.out (by omega) hx (by rw [HLT.out]; exact hr') hf' hb'
   have HG4 : Hid (Gr kS 9 w.heap.size w4 v' (L.take (j + 1))) := Hd (by rw [List.take_succ_eq_append_getElem hjl, HD.out]; exact st1)
   have HF4 : Hid (Fr [] w w4) := Hd (st2 (Nat.le_refl _) HF3.out)
   clear hr' hf' hb' st1 st2 HROW3 HRL HROW HOWN hx
   go_wp2_with fail
   go_roundw
   case rel => exact ⟨j + 1, by go_num, by omega, HG4, HF4⟩
   case measure => simp only [intOf]; omega
  ·obtain rfl : j = L.length := by omega
   have HG2 := Hd (by have := HG.out; rw [List.take_length] at this; exact this)
   have HJ2 := Hd (HJ.out _ _ _ HG2.out)
   clear HG HG2 HJ
   go_wp2_with fail
   refine HJ2.out.mono ?_
   rintro e w3 ⟨rfl, hf3⟩
   have HF3 := Hd (HF.out.trans hf3)
   clear hf3
   go_wp2_with fail
   go_ret
   exact ⟨rfl, HF3.out⟩
def El_st (k : Nat) (w : World) (a : Option Addr) (n cap : Nat) (j : Nat) (x : B) : Prop := ∃ (g off : Nat) (yk : Int) (yt yn yj : B) (ya3 ya4 ya5 ya6 ya8 ya9 ya10 ya12 : Option Addr) (yl3 yc3 yl4 yc4 yl5 yc5 yl6 yc6 yl8 yc8 yl9 yc9 yl10 yc10 yl12 yc12 : Nat) (yd : Bool), a = some ⟨g, off, none⟩ /\ n <= cap /\ g < w.heap.size /\ (∀ (i : Nat) u, ([.int .i64 yk, .string ⟨yt.toArray⟩, .string ⟨yn.toArray⟩, .slice ya3 yl3 yc3, .slice ya4 yl4 yc4, .slice ya5 yl5 yc5, .slice ya6 yl6 yc6, .string ⟨yj.toArray⟩, .slice ya8 yl8 yc8, .slice ya9 yl9 yc9, .slice ya10 yl10 yc10, .bool yd, .slice ya12 yl12 yc12] : List Value)[i]? = some u -> w.cell? ⟨g, off + j * 13 + i, none⟩ = some u) /\ ∀ W, Fr [] w W -> Calls Tryz.prog k #[.agg #[.int .i64 yk, .string ⟨yt.toArray⟩, .string ⟨yn.toArray⟩, .slice ya3 yl3 yc3, .slice ya4 yl4 yc4, .slice ya5 yl5 yc5, .slice ya6 yl6 yc6, .string ⟨yj.toArray⟩, .slice ya8 yl8 yc8, .slice ya9 yl9 yc9, .slice ya10 yl10 yc10, .bool yd, .slice ya12 yl12 yc12]] W fun e w' => e = .returned (.string (bt x)) /\ Fr [] W w'
set_option maxRecDepth 100000 in
set_option maxHeartbeats 4000000 in
theorem joined_st (k : Nat) (sep : B) (L : List B) (hL : L.length <= 60000) (hlen : (Lib.join L sep).length <= 60000) (a : Option Addr) (cap : Nat) (w : World)
  (hrun : ∀ (w : World) v, Sem.run Tryz.prog (callFunc k #[v]) w = .ok (.enter k #[v]) w) (hE : ∀ j, (hj : j < L.length) -> El_st k w a L.length cap j L[j]) :
  Calls Tryz.prog 127 #[.slice a L.length cap, .string (bt sep), .func (.func k) #[] #[]] w fun e w' => e = .returned (.string (bt (Lib.join L sep))) /\ Fr [] w w' := by
 have HE := Hd hE
 have HRUN := Hd hrun
 have hel : ∀ x ∈ L, ((bt x).size : Int) <= 60000 := fun x hx => by have := join_elem sep L x hx; rw [bt_size]; omega
 have HEL := Hd hel
 have HJ := Hd (join_end L sep hL hlen)
 obtain ⟨i0, hi, hz0, hz1, hz2⟩ := info_parts info_str
 have hli : (L.length : Int) <= 60000 := by omega
 change Calls _ _ #[_, .string (bt sep), _] _ _
 generalize bt sep = sp at HJ ⊢
 generalize bt (Lib.join L sep) = RES at HJ ⊢
 clear hrun hE hel hlen hL
 go_enter Tryz.func127, Tryz.ntmps127
 go_wp2_with fail
 go_loopw [7, 12] (fun v i wr => ∃ (j : Nat), i = .int .i64 j /\ j <= L.length /\ Hid (Gr kS 9 w.heap.size wr v (L.take j)) /\ Hid (Fr [] w wr)) (fun _ i _ => L.length - (intOf i).toNat)
 case atStart => exact ⟨0, rfl, Nat.zero_le _, Hd Gr.nil, Hd (Fr.refl [] w)⟩
 case round =>
  obtain ⟨j, rfl, hj, HG, HF⟩ := hrel
  by_cases hjl : j < L.length
  ·have hjl' : (j : Int) < L.length := by omega
   obtain ⟨g, off, yk, yt, yn, yj, ya3, ya4, ya5, ya6, ya8, ya9, ya10, ya12, yl3, yc3, yl4, yc4, yl5, yc5, yl6, yc6, yl8, yc8, yl9, yc9, yl10, yc10, yl12, yc12, yd, rfl, hcap, hg, hcell, hC⟩ := HE.out j hjl
   have HC := Hd (fun o => hC (wr.alloc o) (HF.out.alloc o))
   have c0 := (HF.out.cell (p := ⟨g, off + j * 13, none⟩) hg (by simp)).trans (hcell 0 _ rfl)
   have c1 := (HF.out.cell (p := ⟨g, off + j * 13 + 1, none⟩) hg (by simp)).trans (hcell 1 _ rfl)
   have c2 := (HF.out.cell (p := ⟨g, off + j * 13 + 2, none⟩) hg (by simp)).trans (hcell 2 _ rfl)
   have c3 := (HF.out.cell (p := ⟨g, off + j * 13 + 3, none⟩) hg (by simp)).trans (hcell 3 _ rfl)
   have c4 := (HF.out.cell (p := ⟨g, off + j * 13 + 4, none⟩) hg (by simp)).trans (hcell 4 _ rfl)
   have c5 := (HF.out.cell (p := ⟨g, off + j * 13 + 5, none⟩) hg (by simp)).trans (hcell 5 _ rfl)
   have c6 := (HF.out.cell (p := ⟨g, off + j * 13 + 6, none⟩) hg (by simp)).trans (hcell 6 _ rfl)
   have c7 := (HF.out.cell (p := ⟨g, off + j * 13 + 7, none⟩) hg (by simp)).trans (hcell 7 _ rfl)
   have c8 := (HF.out.cell (p := ⟨g, off + j * 13 + 8, none⟩) hg (by simp)).trans (hcell 8 _ rfl)
   have c9 := (HF.out.cell (p := ⟨g, off + j * 13 + 9, none⟩) hg (by simp)).trans (hcell 9 _ rfl)
   have c10 := (HF.out.cell (p := ⟨g, off + j * 13 + 10, none⟩) hg (by simp)).trans (hcell 10 _ rfl)
   have c11 := (HF.out.cell (p := ⟨g, off + j * 13 + 11, none⟩) hg (by simp)).trans (hcell 11 _ rfl)
   have c12 := (HF.out.cell (p := ⟨g, off + j * 13 + 12, none⟩) hg (by simp)).trans (hcell 12 _ rfl)
   have hds := HEL.out _ (List.getElem_mem hjl)
   have hcl : (L.length : Int) <= cap := by omega
   obtain ⟨d, hd⟩ : ∃ d, L[j] = d := ⟨_, rfl⟩
   rw [hd] at HC hds
   have HD := Hd hd
   clear hcell hC hd hcap
   go_wp2_with fail
   rw [HRUN.out, Oper.upon_enter]
   refine (HC.out _).mono ?_
   rintro e w3 ⟨rfl, hf3⟩
   have HF3 := Hd ((HF.out.alloc _).trans hf3)
   have HG3 := Hd (HG.out.keep (((Fr.refl [] wr).alloc _).trans hf3) (fun g hg => by simp))
   have hsz := HF3.out.size
   clear hf3 HC
   obtain ⟨⟨cs, hRL, hROW⟩, hOWN⟩ := HG3.out
   have HRL := Hd hRL
   have HROW := Hd hROW
   have HOWN := Hd hOWN
   have hlt : (L.take j).length = j := by rw [List.length_take]; omega
   rw [hlt] at hROW
   change Row w3 9 1 _ _ _ at hROW
   have HROW3 := Hd (hROW.keep ((Fr.refl [] w3).alloc (.cells #[.string (bt d)] 9)) (by simp))
   obtain ⟨hmx, hby⟩ := lim16 (n := j) (by omega)
   have HLT := Hd hlt
   clear hRL hROW hOWN HG3 hlt
   go_wp2_with (at_builtin; refine wpList_append_row rfl _ _ 65 rfl 9 i0 (.string ⟨#[]⟩) 1 16 Tryz.underlying65 hi hz0 hz1 hz2 rfl (by decide) u7 j cs rfl HROW3.out ⟨w3.heap.size, 0, none⟩ 1 1 [.string (bt d)] rfl rfl ?c1 ?c2 hmx hby ?_)
   case c1 => exact Lx.four_new w3 9 [.string (bt d)]
   case c2 => simp [Value.oneCell']
   intro v' w4 hr' hf' hb'
   have hx : kS.E (fun b => w.heap.size <= b /\ u7.ownBlock ≠ some b) w3 d [.string (bt d)] := rfl
   obtain ⟨st1, st2⟩ := Gr.push (x := d) HRL.out HROW.out HOWN.out (by omega) hx (by rw [HLT.out]; exact hr') hf' hb'
   have HG4 : Hid (Gr kS 9 w.heap.size w4 v' (L.take (j + 1))) := Hd (by rw [List.take_succ_eq_append_getElem hjl, HD.out]; exact st1)
   have HF4 : Hid (Fr [] w w4) := Hd (st2 (Nat.le_refl _) HF3.out)
   clear hr' hf' hb' st1 st2 HROW3 HRL HROW HOWN hx
   go_wp2_with fail
   go_roundw
   case rel => exact ⟨j + 1, by go_num, by omega, HG4, HF4⟩
   case measure => simp only [intOf]; omega
  ·obtain rfl : j = L.length := by omega
   have HG2 := Hd (by have := HG.out; rw [List.take_length] at this; exact this)
   have HJ2 := Hd (HJ.out _ _ _ HG2.out)
   clear HG HG2 HJ
   go_wp2_with fail
   refine HJ2.out.mono ?_
   rintro e w3 ⟨rfl, hf3⟩
   have HF3 := Hd (HF.out.trans hf3)
   clear hf3
   go_wp2_with fail
   go_ret
   exact ⟨rfl, HF3.out⟩
set_option maxRecDepth 100000 in
set_option maxHeartbeats 4000000 in
theorem one_ex (k : Nat) (x : B) (hx : x.length <= 60000) (a : Option Addr) (cap : Nat) (w : World)
  (hrun : ∀ (w : World) v, Sem.run Tryz.prog (callFunc k #[v]) w = .ok (.enter k #[v]) w) (hE : El_ex k w a 1 cap 0 x) :
  Calls Tryz.prog 44 #[.slice a 1 cap, .func (.func k) #[] #[]] w fun e w' => e = .returned (.string (bt x)) /\ Fr [] w w' := by
 have HJ := joined_ex k [] [x] (by simp) (by rw [Lib.join_one]; exact hx) a cap w hrun (fun j hj => by obtain rfl : j = 0 := (by simpa using hj); exact hE)
 rw [Lib.join_one] at HJ
 change Calls _ _ #[.slice a 1 cap, .string ⟨#[]⟩, _] _ _ at HJ
 have hcl : (1 : Int) <= cap := by obtain ⟨_, _, _, _, _, _, _, _, _, _, _, _, h, _⟩ := hE; omega
 have HX := Hd HJ
 clear HJ hE hx hrun
 go_enter Tryz.func44, Tryz.ntmps44
 go_wp2_with fail
 refine HX.out.mono ?_
 rintro e w1 ⟨rfl, hf⟩
 have HF := Hd hf
 clear hf
 go_wp2_with fail
 go_ret
 exact ⟨rfl, HF.out⟩
set_option maxRecDepth 100000 in
set_option maxHeartbeats 4000000 in
theorem one_st (k : Nat) (x : B) (hx : x.length <= 60000) (a : Option Addr) (cap : Nat) (w : World)
  (hrun : ∀ (w : World) v, Sem.run Tryz.prog (callFunc k #[v]) w = .ok (.enter k #[v]) w) (hE : El_st k w a 1 cap 0 x) :
  Calls Tryz.prog 86 #[.slice a 1 cap, .func (.func k) #[] #[]] w fun e w' => e = .returned (.string (bt x)) /\ Fr [] w w' := by
 have HJ := joined_st k [] [x] (by simp) (by rw [Lib.join_one]; exact hx) a cap w hrun (fun j hj => by obtain rfl : j = 0 := (by simpa using hj); exact hE)
 rw [Lib.join_one] at HJ
 change Calls _ _ #[.slice a 1 cap, .string ⟨#[]⟩, _] _ _ at HJ
 have hcl : (1 : Int) <= cap := by obtain ⟨_, _, _, _, _, _, _, _, _, _, _, _, _, _, _, _, _, _, _, _, _, _, _, _, _, _, _, _, _, _, _, _, h, _⟩ := hE; omega
 have HX := Hd HJ
 clear HJ hE hx hrun
 go_enter Tryz.func86, Tryz.ntmps86
 go_wp2_with fail
 refine HX.out.mono ?_
 rintro e w1 ⟨rfl, hf⟩
 have HF := Hd hf
 clear hf
 go_wp2_with fail
 go_ret
 exact ⟨rfl, HF.out⟩
end Sw
end Go.Proofs.YtmdnhinpaflamaaGreatDoor
