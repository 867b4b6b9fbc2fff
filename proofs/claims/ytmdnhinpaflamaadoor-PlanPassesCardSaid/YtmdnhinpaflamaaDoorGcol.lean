/- A table's columns: what they are called, and their kinds. -/
import Derived.Test.YtmdnhinpaflamaaDoorBas
import Derived.Deep.RegionHeldLaw
import Derived.RegionTactic
namespace Go.Proofs.YtmdnhinpaflamaaDoor
open Go.RowKit
set_option linter.unusedVariables false
namespace Gn
/-- APPEND, at a step of a region that draws its order -/
theorem step_append_row {P : Program} {w : World} {ops : Array Oper} {o : Oper} {a : Act} {K : Act → World → Prop} {Q : Exit → Act → World → Prop} {E : Prop} (hgd : o.guard = none) (s x : Operand) (t : TypeId)
    (ho : o.op = .call { callee := .builtin .append, args := #[s, x], argTypes := #[t, t] })
    (e : TypeId) (i : TypeInfo) (z : Value) (size bytes : Nat) (ht : P.underlying t = some (.slice e)) (hi : P.info? e = some i) (hz : i.zero = some z)
    (hsize : i.size = size) (hby : i.bytes = bytes) (hzs : z.cells.size = size) (hsz : 0 < size)
    (v : Value) (n : Nat) (xs : List Value) (hs : a.eval s = v) (hrow : Row w e size v n xs)
    (ad : Addr) (m c : Nat) (news : List Value) (hx : a.eval x = .slice (some ad) m c) (hl : news.length = m * size) (hnews : ∀ j u, news[j]? = some u → w.cell? (ad.add j) = some u) (h1 : ∀ u ∈ news, u.oneCell' = true)
    (h63 : n + m ≤ maxLen) (hbytes : (n + m) * bytes ≤ 140737488355328)
    (h : ∀ v' w', Row w' e size v' (n + m) (xs ++ news) → Fr [v.ownBlock] w w' → (v'.ownBlock = v.ownBlock ∨ ∃ k, w.heap.size ≤ k ∧ v'.ownBlock = some k) → K (a.put o.dst v') w') :
    if Region.wanted o (yielded ops a.tmps) = true then Oper.wp P o a w K Q else E := by
  have hw : Region.wanted o (yielded ops a.tmps) = true := by simp [Region.wanted, hgd]
  rw [if_pos hw]
  obtain ⟨v', w', hr, h2, h3, h4, _⟩ := run_append_row (P := P) t o.type e i z size bytes ht hi hz hsize hby hzs hsz v n xs hrow ad m c news hl hnews h1 h63 hbytes
  unfold Oper.wp execOp
  simp only [ho, resolve, invoke, builtin, Sem.run_bind, Sem.run_pure, Result.andThen_ok, List.map_toArray, List.map_cons, List.map_nil, hs, hx, hr]
  exact h v' w' h2 h3 h4
theorem col_info : (Tryd.prog.info? 75).map (fun i => (i.zero, i.size, i.bytes)) = some (some (.agg #[.int .i64 0, .string ⟨#[]⟩, .string ⟨#[]⟩]), 3, 40) := by kernel_rfl
theorem int_info : (Tryd.prog.info? 3).map (fun i => (i.zero, i.size, i.bytes)) = some (some (.int .i64 0), 1, 8) := by kernel_rfl
theorem info_parts' {o : Option TypeInfo} {z : Value} {s b : Nat} (h : o.map (fun i => (i.zero, i.size, i.bytes)) = some (some z, s, b)) : ∃ i, o = some i ∧ i.zero = some z ∧ i.size = s ∧ i.bytes = b := by
  cases o with
  | none => cases h
  | some i => simp only [Option.map_some, Option.some.injEq, Prod.mk.injEq] at h; exact ⟨i, rfl, h.1, h.2.1, h.2.2⟩
theorem blk_cells {w : World} {b : Nat} {T : TypeId} {cs : List Value} (h : Blk w b T cs) : ∀ j u, cs[j]? = some u → w.cell? ((⟨b, 0, none⟩ : Addr).add j) = some u := fun j u hu => by
  have hadd : (⟨b, 0, none⟩ : Addr).add j = ⟨b, j, none⟩ := by unfold Addr.add; split <;> simp_all
  rw [hadd, h.cell j, hu]
theorem blk_at {w : World} {b : Nat} {T : TypeId} {xs : List Value} (h : b = w.heap.size) : Blk (w.alloc (.cells xs.toArray T)) b T xs := h ▸ Blk.new w T xs
/-- what an item of a column lies as; its kind -/
def ic (tn : List UInt8) (c : List UInt8 × Int) : List Value := [.int .i64 0, .string ⟨tn.toArray⟩, .string ⟨c.1.toArray⟩]
def kc (c : List UInt8 × Int) : List Value := [.int .i64 c.2]
theorem take_flat {α β : Type} (f : α → List β) (l : List α) (k : Nat) (h : k < l.length) : (l.take (k + 1)).flatMap f = (l.take k).flatMap f ++ f l[k] := by
  rw [List.take_succ_eq_append_getElem h, List.flatMap_append]
  simp
/-- two lists that grow side by side: what holds of them all along -/
structure AS (T1 T2 : TypeId) (s1 s2 : Nat) (wr : World) (u4 u5 : Value) (W : World) (v4 v5 : Value) (n4 n5 : Nat) (c4 c5 : List Value) : Prop where
  r4 : Row W T1 s1 v4 n4 c4
  r5 : Row W T2 s2 v5 n5 c5
  o4 : v4.ownBlock = u4.ownBlock ∨ ∃ j, wr.heap.size ≤ j ∧ v4.ownBlock = some j
  o5 : v5.ownBlock = u5.ownBlock ∨ ∃ j, wr.heap.size ≤ j ∧ v5.ownBlock = some j
  d : ∀ b, v4.ownBlock = some b → v5.ownBlock ≠ some b
  f : Fr [u4.ownBlock, u5.ownBlock] wr W
section
variable {T1 T2 : TypeId} {s1 s2 : Nat} {wr W W' : World} {u4 u5 v4 v5 v' : Value} {n4 n5 n' : Nat} {c4 c5 c' : List Value}
theorem AS.move (h : AS T1 T2 s1 s2 wr u4 u5 W v4 v5 n4 n5 c4 c5) (hf : Fr [] W W') : AS T1 T2 s1 s2 wr u4 u5 W' v4 v5 n4 n5 c4 c5 :=
  ⟨h.r4.keep hf (by simp), h.r5.keep hf (by simp), h.o4, h.o5, h.d, h.f.trans' hf (by simp)⟩
theorem AS.app4 (h : AS T1 T2 s1 s2 wr u4 u5 W v4 v5 n4 n5 c4 c5) (hr : Row W' T1 s1 v' n' c') (hf : Fr [v4.ownBlock] W W') (hb : v'.ownBlock = v4.ownBlock ∨ ∃ k, W.heap.size ≤ k ∧ v'.ownBlock = some k) : AS T1 T2 s1 s2 wr u4 u5 W' v' v5 n' n5 c' c5 := by
  have hs := h.f.size
  refine ⟨hr, h.r5.keep hf (fun b hb hm => ?_), ?_, h.o5, fun b hv => ?_, h.f.trans' hf (fun i hi => ?_)⟩
  · simp only [List.mem_singleton] at hm
    exact h.d b hm.symm hb
  · rcases hb with hb | ⟨k, hk, hb⟩
    · rw [hb]; exact h.o4
    · exact .inr ⟨k, by omega, hb⟩
  · rcases hb with hb | ⟨k, hk, hb⟩
    · exact h.d b (hb ▸ hv)
    · intro h5
      have := h.r5.block_lt h5
      rw [hb] at hv
      simp only [Option.some.injEq] at hv
      omega
  · simp only [List.mem_singleton] at hi
    rcases h.o4 with ho | ⟨j, hj, ho⟩
    · left; rw [hi, ho]; simp
    · right; rw [ho] at hi; simp only [Option.some.injEq] at hi; omega
theorem AS.app5 (h : AS T1 T2 s1 s2 wr u4 u5 W v4 v5 n4 n5 c4 c5) (hr : Row W' T2 s2 v' n' c') (hf : Fr [v5.ownBlock] W W') (hb : v'.ownBlock = v5.ownBlock ∨ ∃ k, W.heap.size ≤ k ∧ v'.ownBlock = some k) : AS T1 T2 s1 s2 wr u4 u5 W' v4 v' n4 n' c4 c' := by
  have hs := h.f.size
  refine ⟨h.r4.keep hf (fun b hb hm => ?_), hr, h.o4, ?_, fun b hv => ?_, h.f.trans' hf (fun i hi => ?_)⟩
  · simp only [List.mem_singleton] at hm
    exact h.d b hb hm.symm
  · rcases hb with hb | ⟨k, hk, hb⟩
    · rw [hb]; exact h.o5
    · exact .inr ⟨k, by omega, hb⟩
  · rcases hb with hb | ⟨k, hk, hb⟩
    · rw [hb]; exact h.d b hv
    · intro h5
      have := h.r4.block_lt hv
      rw [hb] at h5
      simp only [Option.some.injEq] at h5
      omega
  · simp only [List.mem_singleton] at hi
    rcases h.o5 with ho | ⟨j, hj, ho⟩
    · left; rw [hi, ho]; simp
    · right; rw [ho] at hi; simp only [Option.some.injEq] at hi; omega
end
set_option maxRecDepth 100000 in
set_option maxHeartbeats 4000000 in
theorem cols_row (tn : List UInt8) (L : List (List UInt8 × Int)) (hL : L.length ≤ 10) (g off cap : Nat) (hcap : L.length ≤ cap) (ia : Option Addr) (il ik : Nat) (w : World) (hg : g < w.heap.size)
    (hc : ∀ j, (hj : j < L.length) → w.cell? ⟨g, off + j * 3, none⟩ = some (.string ⟨L[j].1.toArray⟩) ∧ w.cell? ⟨g, off + j * 3 + 1, none⟩ = some (.int .i64 L[j].2)) :
    Calls Tryd.prog 9 #[.agg #[.string ⟨tn.toArray⟩, .slice (some ⟨g, off, none⟩) L.length cap, .slice ia il ik]] w fun e w' => ∃ vc vk, e = .returned (.tuple #[vc, vk]) ∧ Row w' 75 3 vc L.length (L.flatMap (ic tn)) ∧ Row w' 3 1 vk L.length (L.flatMap kc) ∧
      (∀ b, vc.ownBlock = some b → w.heap.size ≤ b) ∧ (∀ b, vk.ownBlock = some b → w.heap.size ≤ b) ∧ Fr [] w w' := by
  have HC := Lib.hid hc
  obtain ⟨i0, hi, hz0, hz1, hz2⟩ := info_parts' col_info
  obtain ⟨k0, ki, kz0, kz1, kz2⟩ := info_parts' int_info
  clear hc
  go_enter Tryd.func9, Tryd.ntmps9
  go_wp2_with fail
  go_loopw [4, 5, 6] (fun u4 u5 u6 wr => ∃ k : Nat, u6 = .int .i64 k ∧ k ≤ L.length ∧ Hid (Row wr 75 3 u4 k ((L.take k).flatMap (ic tn))) ∧ Hid (Row wr 3 1 u5 k ((L.take k).flatMap kc)) ∧ Hid (∀ b, u4.ownBlock = some b → w.heap.size < b) ∧ Hid (∀ b, u5.ownBlock = some b → w.heap.size < b) ∧ Hid (∀ b, u4.ownBlock = some b → u5.ownBlock ≠ some b) ∧ Hid (Fr [] (w.alloc (.cells #[.string ⟨tn.toArray⟩, .slice (some ⟨g, off, none⟩) L.length cap, .slice ia il ik] 27)) wr)) (fun _ _ i _ => L.length - (intOf i).toNat)
  case atStart => exact ⟨0, rfl, Nat.zero_le _, Lib.hid (Row.nil _ _ _), Lib.hid (Row.nil _ _ _), Lib.hid (fun b h => by simp [Value.ownBlock] at h), Lib.hid (fun b h => by simp [Value.ownBlock] at h), Lib.hid (fun b h => by simp [Value.ownBlock] at h), Lib.hid (Fr.refl [] _)⟩
  case round =>
    obtain ⟨k, rfl, hk, HR4, HR5, HO4, HO5, HD, HF⟩ := hrel
    have hli : (L.length : Int) ≤ 10 := by omega
    have hBX := (Blk.new w 27 [.string ⟨tn.toArray⟩, .slice (some ⟨g, off, none⟩) L.length cap, .slice ia il ik]).keep HF.out (by simp)
    have b0 := hBX.cell 0
    have b1 := hBX.cell 1
    simp only [List.getElem?_cons_zero, List.getElem?_cons_succ] at b0 b1
    clear hBX
    have hcl : (L.length : Int) ≤ cap := by omega
    by_cases hkl : k < L.length
    · have hkl' : (k : Int) < L.length := by omega
      obtain ⟨c0, c1⟩ := HC.out k hkl
      obtain ⟨x, hx⟩ : ∃ x, L[k] = x := ⟨_, rfl⟩
      rw [hx] at c0 c1
      have HX := Lib.hid hx
      have frw : Fr [] w wr := ((Fr.refl [] w).alloc _).trans HF.out
      have hsz := HF.out.size
      rw [World.size_alloc] at hsz
      have c0 := (frw.cell (p := ⟨g, off + k * 3, none⟩) hg (by simp)).trans c0
      have c1 := (frw.cell (p := ⟨g, off + k * 3 + 1, none⟩) hg (by simp)).trans c1
      clear hx frw
      go_wp2_with fail
      have hb1 : w.heap.size < wr.heap.size := by omega
      have hb2 : g < wr.heap.size := by omega
      have HW : Hid (Fr [] w wr) := Lib.hid (((Fr.refl [] w).alloc _).trans HF.out)
      have HK1 : Hid (∀ W, Fr [u4.ownBlock, u5.ownBlock] wr W → W.cell? ⟨w.heap.size, 0, none⟩ = some (.string ⟨tn.toArray⟩) ∧ W.cell? ⟨w.heap.size, 1, none⟩ = some (.slice (some ⟨g, off, none⟩) L.length cap) ∧ W.cell? ⟨g, off + k * 3, none⟩ = some (.string ⟨x.1.toArray⟩) ∧ W.cell? ⟨g, off + k * 3 + 1, none⟩ = some (.int .i64 x.2)) := Lib.hid (fun W hf => by
        have far : ∀ b, b ≤ w.heap.size → some b ∉ [u4.ownBlock, u5.ownBlock] := fun b hb hm => by
          simp only [List.mem_cons, List.not_mem_nil, or_false] at hm
          rcases hm with h | h
          · have := HO4.out b h.symm; omega
          · have := HO5.out b h.symm; omega
        exact ⟨(hf.cell (p := ⟨w.heap.size, 0, none⟩) hb1 (far _ (Nat.le_refl _))).trans b0, (hf.cell (p := ⟨w.heap.size, 1, none⟩) hb1 (far _ (Nat.le_refl _))).trans b1, (hf.cell (p := ⟨g, off + k * 3, none⟩) hb2 (far g (Nat.le_of_lt hg))).trans c0, (hf.cell (p := ⟨g, off + k * 3 + 1, none⟩) hb2 (far g (Nat.le_of_lt hg))).trans c1⟩)
      have HAS : Hid (AS 75 3 3 1 wr u4 u5 wr u4 u5 k k ((L.take k).flatMap (ic tn)) ((L.take k).flatMap kc)) := Lib.hid ⟨HR4.out, HR5.out, .inl rfl, .inl rfl, HD.out, Fr.refl _ _⟩
      have HN4 : Hid (∀ b, wr.heap.size ≤ b → some b ∉ [u4.ownBlock]) := Lib.hid (fun b hb hm => by simp only [List.mem_singleton] at hm; have := HR4.out.block_lt hm.symm; omega)
      have HN5 : Hid (∀ b, wr.heap.size ≤ b → some b ∉ [u5.ownBlock]) := Lib.hid (fun b hb hm => by simp only [List.mem_singleton] at hm; have := HR5.out.block_lt hm.symm; omega)
      have HL : Hid True := Lib.hid trivial
      have hmx : k + 1 ≤ maxLen := by unfold maxLen; omega
      have hby1 : (k + 1) * 40 ≤ 140737488355328 := by omega
      have hby2 : (k + 1) * 8 ≤ 140737488355328 := by omega
      have h1a : ∀ u ∈ ic tn x, u.oneCell' = true := by simp [ic, Value.oneCell']
      have h1b : ∀ u ∈ kc x, u.oneCell' = true := by simp [kc, Value.oneCell']
      clear b0 b1 c0 c1 HR4 HR5
      go_region_held_law (fun W => W.cell? ⟨w.heap.size, 0, none⟩ = some (.string ⟨tn.toArray⟩) ∧ W.cell? ⟨w.heap.size, 1, none⟩ = some (.slice (some ⟨g, off, none⟩) L.length cap) ∧ W.cell? ⟨g, off + k * 3, none⟩ = some (.string ⟨x.1.toArray⟩) ∧ W.cell? ⟨g, off + k * 3 + 1, none⟩ = some (.int .i64 x.2))
        ((refine HK1.out _ ?_; repeat (first | with_reducible exact HAS.out.f | with_reducible refine Fr.drew ?_ | with_reducible refine Fr.alloc ?_ _)))
        (first
          | (refine step_append_row (by rfl) _ _ 33 (by rfl) 75 i0 (.agg #[.int .i64 0, .string ⟨#[]⟩, .string ⟨#[]⟩]) 3 40 Tryd.underlying33 hi hz0 hz1 hz2 (by rfl) (by decide) u4 k ((L.take k).flatMap (ic tn)) (by rfl) ?row ⟨_, 0, none⟩ 1 1 (ic tn x) (by rfl) (by rfl) ?blk h1a hmx hby1 ?_
             case row => exact AS.r4 (HAS.out.move (by repeat (first | with_reducible exact Fr.refl _ _ | with_reducible refine Fr.drew ?_ | with_reducible refine Fr.alloc ?_ _)))
             case blk => refine blk_cells (T := 75) ?_; repeat (first | with_reducible refine Blk.drew ?_ | (with_reducible refine Blk.keep ?_ HL.out (HN5.out _ ?hb); case hb => (simp <;> omega)) | exact blk_at (by first | rfl | (simp; done)) | with_reducible refine Blk.alloc ?_ _)
             intro v' w4 hr' hf' hb'
             replace HAS := Lib.hid (AS.app4 (HAS.out.move (by repeat (first | with_reducible exact Fr.refl _ _ | with_reducible refine Fr.drew ?_ | with_reducible refine Fr.alloc ?_ _))) hr' hf' hb')
             replace HL := Lib.hid hf'
             clear hr' hf' hb')
          | (refine step_append_row (by rfl) _ _ 34 (by rfl) 3 k0 (.int .i64 0) 1 8 Tryd.underlying34 ki kz0 kz1 kz2 (by rfl) (by decide) u5 k ((L.take k).flatMap kc) (by rfl) ?row ⟨_, 0, none⟩ 1 1 (kc x) (by rfl) (by rfl) ?blk h1b hmx hby2 ?_
             case row => exact AS.r5 (HAS.out.move (by repeat (first | with_reducible exact Fr.refl _ _ | with_reducible refine Fr.drew ?_ | with_reducible refine Fr.alloc ?_ _)))
             case blk => refine blk_cells (T := 3) ?_; repeat (first | with_reducible refine Blk.drew ?_ | (with_reducible refine Blk.keep ?_ HL.out (HN4.out _ ?hb); case hb => (simp <;> omega)) | exact blk_at (by first | rfl | (simp; done)) | with_reducible refine Blk.alloc ?_ _)
             intro v' w4 hr' hf' hb'
             replace HAS := Lib.hid (AS.app5 (HAS.out.move (by repeat (first | with_reducible exact Fr.refl _ _ | with_reducible refine Fr.drew ?_ | with_reducible refine Fr.alloc ?_ _))) hr' hf' hb')
             replace HL := Lib.hid hf'
             clear hr' hf' hb'))
      all_goals
        go_wp2_with fail
        go_roundw
        case rel =>
          refine ⟨k + 1, by go_num, by omega, Lib.hid (by rw [take_flat _ _ _ hkl, HX.out]; exact HAS.out.r4), Lib.hid (by rw [take_flat _ _ _ hkl, HX.out]; exact HAS.out.r5), Lib.hid (fun b hb => ?_), Lib.hid (fun b hb => ?_), Lib.hid HAS.out.d, Lib.hid (HF.out.trans' HAS.out.f (fun i hi => .inr ?_))⟩
          · rcases HAS.out.o4 with h | ⟨j, hj, h⟩
            · exact HO4.out b (h ▸ hb)
            · rw [h] at hb; simp only [Option.some.injEq] at hb; omega
          · rcases HAS.out.o5 with h | ⟨j, hj, h⟩
            · exact HO5.out b (h ▸ hb)
            · rw [h] at hb; simp only [Option.some.injEq] at hb; omega
          · rw [World.size_alloc]
            simp only [List.mem_cons, List.not_mem_nil, or_false] at hi
            rcases hi with h | h
            · exact HO4.out i h.symm
            · exact HO5.out i h.symm
        case measure => simp only [intOf]; omega
    · have hkl' : ¬ (k : Int) < L.length := by omega
      obtain rfl : k = L.length := by omega
      go_wp2_with fail
      rw [List.take_length] at HR4 HR5
      exact bodyPost_ret (results_tmp2 (t := 2) (u := 3) rfl _ _ _) rfl ⟨u4, u5, rfl, HR4.out, HR5.out, fun b h => Nat.le_of_lt (HO4.out b h), fun b h => Nat.le_of_lt (HO5.out b h), ((Fr.refl [] w).alloc _).trans HF.out⟩
end Gn
end Go.Proofs.YtmdnhinpaflamaaDoor
