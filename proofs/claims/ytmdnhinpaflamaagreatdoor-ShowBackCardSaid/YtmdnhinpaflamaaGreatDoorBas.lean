/- num.Add, Sub, Mul, Neg and the document's answers: each is the number where it fits, else nought and ErrOverflow. -/
import Derived.Test.YtmdnhinpaflamaaGreatDoorRows
import Derived.WalkKit
import Derived.WalkSpells
import Derived.WalkLawsBesides
import Derived.Lib.Hide
import Derived.IntWalk
import Derived.ArgAppend
import Derived.Below
import Derived.OwnWalk
import Derived.Deep.Draws
import Derived.Laws.AppendOwn
import Derived.Sort.Row
import Derived.Laws.IdiomStrings
import Derived.Laws.BytesArg
import Derived.Test.YtmdnhinpaflamaaGreatDoorPlA
import Derived.BigQuiet
namespace Go.Proofs.YtmdnhinpaflamaaGreatDoor
theorem Hd {p : Prop} (h : p) : RowKit.Hid p := Lib.hid h
open Go.RowKit
def ok64 (x : Int) : Bool := decide (-9223372036854775808 <= x /\ x <= 9223372036854775807)
theorem ok_iff {x : Int} : ok64 x = true ↔ (-9223372036854775808 <= x /\ x <= 9223372036854775807) := by simp [ok64]
end Go.Proofs.YtmdnhinpaflamaaGreatDoor
namespace Go.Proofs.YtmdnhinpaflamaaGreatDoor
open Go.RowKit
structure Fr (S : List (Option Nat)) (w w' : World) : Prop where
 os : w'.os = w.os
 tape : w'.tape = w.tape
 output : w'.output = w.output
 size : w.heap.size <= w'.heap.size
 block : ∀ k, k < w.heap.size -> some k ∉ S -> w'.heap[k]? = w.heap[k]?
namespace Fr
variable {S S' : List (Option Nat)} {a b c w w' : World}
theorem refl (S : List (Option Nat)) (w : World) : Fr S w w := ⟨rfl, rfl, rfl, Nat.le_refl _, fun _ _ _ => rfl⟩
theorem mono (h : Fr S w w') (hS : ∀ k, some k ∈ S -> some k ∈ S' \/ w.heap.size <= k) : Fr S' w w' :=
 ⟨h.os, h.tape, h.output, h.size, fun k hk hn => h.block k hk fun hm => by rcases hS k hm with h1 | h1; exact hn h1; omega⟩
theorem trans' (h : Fr S a b) (k : Fr S' b c) (hS : ∀ i, some i ∈ S' -> some i ∈ S \/ a.heap.size <= i) : Fr S a c :=
 ⟨k.os.trans h.os, k.tape.trans h.tape, k.output.trans h.output, Nat.le_trans h.size k.size, fun i hi hn =>
  (k.block i (Nat.lt_of_lt_of_le hi h.size) fun hm => by rcases hS i hm with h1 | h1; exact hn h1; omega).trans (h.block i hi hn)⟩
theorem trans (h : Fr S a b) (k : Fr S b c) : Fr S a c := h.trans' k fun _ hi => .inl hi
theorem drew (h : Fr S a w) : Fr S a w.drew := ⟨h.os, h.tape, h.output, h.size, h.block⟩
theorem alloc (h : Fr S a w) (o : Obj) : Fr S a (w.alloc o) :=
 ⟨h.os, h.tape, h.output, Nat.le_trans h.size (by simp), fun i hi hne => (Below.heap_alloc w o i (Nat.lt_of_lt_of_le hi h.size)).trans (h.block i hi hne)⟩
theorem setCell (h : Fr S a w) {p : Addr} (hp : some p.block ∈ S \/ a.heap.size <= p.block) (u : Value) : Fr S a (w.setCell p u) :=
 ⟨h.os, h.tape, h.output, by simpa [World.setCell] using h.size, fun i hi hne => (Below.heap_setCell w p u i (by
  rintro rfl
  rcases hp with hp | hp
  ·exact hne hp
  ·omega)).trans (h.block i hi hne)⟩
theorem below (h : Fr [] w w') : Below w.heap.size w w' := ⟨h.os, h.tape, h.output, h.size, fun k hk => h.block k hk (by simp)⟩
theorem of_below (h : Below w.heap.size w w') : Fr S w w' := ⟨h.os, h.tape, h.output, h.size, fun k hk _ => h.block k hk⟩
theorem grown {row : Option Nat} (h : w.grownBy w' row) : Fr [row] w w' := ⟨h.os, h.tape, h.output, h.size, fun k hk hn => h.block k hk (by simpa using hn)⟩
theorem blk (h : Fr S w w') {k : Nat} (hk : k < w.heap.size) (hn : some k ∉ S) : w'.heap[k]? = w.heap[k]? := h.block k hk hn
theorem cell (h : Fr S w w') {p : Addr} (hk : p.block < w.heap.size) (hn : some p.block ∉ S) : w'.cell? p = w.cell? p := World.cell?_of_block (h.block _ hk hn)
end Fr
def Blk (w : World) (b : Nat) (E : TypeId) (cs : List Value) : Prop := w.heap[b]? = some (.cells cs.toArray E)
namespace Blk
variable {w w' : World} {b : Nat} {E : TypeId} {cs : List Value}
theorem lt (h : Blk w b E cs) : b < w.heap.size := (Array.getElem?_eq_some_iff.1 h).1
theorem keep {S : List (Option Nat)} (h : Blk w b E cs) (hf : Fr S w w') (hn : some b ∉ S) : Blk w' b E cs := (hf.blk h.lt hn).trans h
theorem cell (h : Blk w b E cs) (j : Nat) : w.cell? ⟨b, j, none⟩ = cs[j]? := by
 unfold Blk at h
 simp [World.cell?, h]
theorem free (h : Blk w b E cs) (j : Nat) : w.frozen? ⟨b, j, none⟩ = false := by
 unfold Blk at h
 simp [World.frozen?, h]
theorem new (w : World) (E : TypeId) (cs : List Value) : Blk (w.alloc (.cells cs.toArray E)) w.heap.size E cs := heap_alloc_new w _
theorem set (h : Blk w b E cs) (j : Nat) (u : Value) : Blk (w.setCell ⟨b, j, none⟩ u) b E (cs.set j u) := by
 have hl := h.lt
 unfold Blk at *
 rw [Array.getElem?_eq_getElem hl] at h
 simp only [Option.some.injEq] at h
 simp [World.setCell, hl, h, Array.getElem_modify]
theorem drew (h : Blk w b E cs) : Blk w.drew b E cs := h
theorem alloc (h : Blk w b E cs) (o : Obj) : Blk (w.alloc o) b E cs := (Below.heap_alloc w o b h.lt).trans h
end Blk
def Row (w : World) (E : TypeId) (size : Nat) (v : Value) (n : Nat) (xs : List Value) : Prop :=
 xs.length = n * size /\ ((v = .slice none 0 0 /\ n = 0) \/
  ∃ g off cap cur, v = .slice (some ⟨g, off, none⟩) n cap /\ Blk w g E cur /\ n <= cap /\ cap <= maxLen /\ off + cap * size <= cur.length /\ (cur.drop off).take (n * size) = xs)
namespace Row
variable {w w' : World} {E : TypeId} {size : Nat} {v : Value} {n : Nat} {xs : List Value}
theorem nil (w : World) (E : TypeId) (size : Nat) : Row w E size (.slice none 0 0) 0 [] := ⟨by simp, .inl ⟨rfl, rfl⟩⟩
theorem of_owns {base : Nat} (h : w.ownsRow base E size v n xs) : Row w E size v n xs := by
 refine ⟨h.1, ?_⟩
 rcases h.2 with h | ⟨g, cap, cur, rfl, _, hg, hn, hc, hs, ht⟩
 ·exact .inl h
 ·exact .inr ⟨g, 0, cap, cur.toList, rfl, by simpa [Blk] using hg, hn, hc, by simp [hs], by simpa using ht⟩
theorem block_lt (h : Row w E size v n xs) {k : Nat} (hk : v.ownBlock = some k) : k < w.heap.size := by
 rcases h.2 with ⟨rfl, _⟩ | ⟨g, off, cap, cur, rfl, hb, _⟩
 ·simp [Value.ownBlock] at hk
 ·simp only [Value.ownBlock, Option.some.injEq] at hk; subst hk; exact hb.lt
theorem keep {S : List (Option Nat)} (h : Row w E size v n xs) (hf : Fr S w w') (hn : ∀ k, v.ownBlock = some k -> some k ∉ S) : Row w' E size v n xs := by
 refine ⟨h.1, ?_⟩
 rcases h.2 with ⟨rfl, h0⟩ | ⟨g, off, cap, cur, rfl, hb, h1⟩
 ·exact .inl ⟨rfl, h0⟩
 ·exact .inr ⟨g, off, cap, cur, rfl, hb.keep hf (hn g rfl), h1⟩
theorem cells {g off cap : Nat} (h : Row w E size (.slice (some ⟨g, off, none⟩) n cap) n xs) : ∀ j, j < xs.length -> w.cell? ⟨g, off + j, none⟩ = some (xs.getD j undef) := by
 intro j hj
 rcases h.2 with ⟨h0, _⟩ | ⟨g', off', cap', cur, he, hb, hnc, hcm, hsz, ht⟩
 ·cases h0
 ·cases he
  rw [hb.cell, <- ht]
  have hlen : off + cap * size <= cur.length := hsz
  have : n * size <= cap * size := Nat.mul_le_mul_right _ hnc
  have hx := h.1
  rw [List.getD_eq_getElem?_getD, List.getElem?_take_of_lt (by omega), List.getElem?_drop]
  rw [List.getElem?_eq_getElem (by omega)]
  rfl
theorem form (h : Row w E size v n xs) : (v = .slice none 0 0 /\ n = 0 /\ xs = []) \/ ∃ g off cap, v = .slice (some ⟨g, off, none⟩) n cap /\ n <= cap /\ cap <= maxLen := by
 rcases h.2 with ⟨rfl, h0⟩ | ⟨g, off, cap, cur, rfl, hb, h1, h2, _⟩
 ·exact .inl ⟨rfl, h0, List.eq_nil_of_length_eq_zero (by rw [h.1, h0]; simp)⟩
 ·exact .inr ⟨g, off, cap, rfl, h1, h2⟩
end Row
theorem storeCells_blk {P : Program} {g : Nat} {E : TypeId} : ∀ (news : List Value) (k : Nat) (cur : List Value) (w : World), Blk w g E cur -> k + news.length <= cur.length ->
  Fr [some g] w (w.setCells g k news) /\ Blk (w.setCells g k news) g E (cur.take k ++ news ++ cur.drop (k + news.length))
 |[], k, cur, w, hb, hk => ⟨Fr.refl _ _, by simpa [World.setCells] using hb⟩
 |u :: news, k, cur, w, hb, hk => by
  have hk' : k + (news.length + 1) <= cur.length := by simpa using hk
  have h1 := hb.set k u
  have ih := storeCells_blk (P := P) news (k + 1) (cur.set k u) (w.setCell ⟨g, k, none⟩ u) h1 (by simp; omega)
  have e : w.setCells g k (u :: news) = (w.setCell ⟨g, k, none⟩ u).setCells g (k + 1) news := rfl
  rw [e]
  refine ⟨((Fr.refl [some g] w).setCell (p := ⟨g, k, none⟩) (.inl (by simp)) u).trans ih.1, ?_⟩
  have e2 : (cur.set k u).take (k + 1) ++ news ++ (cur.set k u).drop (k + 1 + news.length) = cur.take k ++ (u :: news) ++ cur.drop (k + (u :: news).length) := by
   rw [List.drop_set_of_lt (by omega)]
   have : (cur.set k u).take (k + 1) = cur.take k ++ [u] := by
    rw [List.take_add_one, List.take_set_of_le (by omega)]
    simp [show k < cur.length by omega]
   rw [this]
   simp only [List.append_assoc, List.singleton_append, List.length_cons]
   rw [show k + 1 + news.length = k + (news.length + 1) by omega]
  rw [<- e2]
  exact ih.2
theorem run_append_row {P : Program} {w : World} (t ty E : TypeId) (i : TypeInfo) (z : Value) (size bytes : Nat) (ht : P.underlying t = some (.slice E)) (hi : P.info? E = some i) (hz : i.zero = some z)
  (hsize : i.size = size) (hby : i.bytes = bytes) (hzs : z.cells.size = size) (hsz : 0 < size)
  (v : Value) (n : Nat) (xs : List Value) (hrow : Row w E size v n xs)
  (a : Addr) (m c : Nat) (news : List Value) (hl : news.length = m * size) (hnews : ∀ j u, news[j]? = some u -> w.cell? (a.add j) = some u) (h1 : ∀ u ∈ news, u.oneCell' = true)
  (h63 : n + m <= maxLen) (hbytes : (n + m) * bytes <= 140737488355328) :
  ∃ v' w', (Builtin.append_ #[t, t] ty #[v, .slice (some a) m c]).run P w = .ok v' w' /\ Row w' E size v' (n + m) (xs ++ news) /\ Fr [v.ownBlock] w w' /\
   (v'.ownBlock = v.ownBlock \/ ∃ k, w.heap.size <= k /\ v'.ownBlock = some k) /\ (v' = .slice none 0 0 -> n + m = 0) := by
 rcases hrow.2 with ⟨rfl, rfl⟩ | ⟨g, off, cap, cur, rfl, hb, hnc, hcm, hcs, htake⟩
 ·have hx : xs = [] := List.eq_nil_of_length_eq_zero (by simpa using hrow.1)
  subst hx
  obtain ⟨v', w', r1, r2, r3, r4⟩ := run_append_own (P := P) w w.heap.size t ty E i z size bytes ht hi hz hsize hby hzs hsz (.slice none 0 0) 0 [] (World.ownsRow_nil w _ E size) a m c news hl hnews h1 h63 hbytes (Nat.le_refl _)
  refine ⟨v', w', r1, Row.of_owns r2, Fr.grown r3, ?_, fun h => by have := r4.1 h; omega⟩
  rcases hv : v'.ownBlock with _ | k
  ·exact .inl rfl
  ·exact .inr ⟨k, (r2.lt k hv).1, rfl⟩
 ·by_cases hr : n + m <= cap
  ·subst hsize
   have e1 : n * i.size + m * i.size <= cap * i.size := by rw [<- Nat.add_mul]; exact Nat.mul_le_mul_right _ hr
   have hrun := run_append_room_cells (P := P) w t ty E i ht hi g off n cap a m c news hl hnews h1 hr (fun j hj => by rw [hb.cell]; simp; omega) (fun j _ => hb.free _)
   obtain ⟨hf, hb'⟩ := storeCells_blk (P := P) news (off + n * i.size) cur w hb (by omega)
   refine ⟨_, _, hrun, ⟨by simp [hrow.1, hl, Nat.add_mul], .inr ⟨g, off, cap, _, rfl, hb', hr, hcm, ?_, ?_⟩⟩, hf, .inl rfl, fun h => by cases h⟩
   ·simp; omega
   ·have e2 : (n + m) * i.size = n * i.size + m * i.size := Nat.add_mul ..
    have hlt : (cur.take (off + n * i.size)).length = off + n * i.size := by simp; omega
    rw [List.append_assoc, List.drop_append_of_le_length (by omega), List.drop_take]
    rw [show off + n * i.size - off = n * i.size by omega, htake, e2, <- hrow.1, <- hl, List.take_append, List.take_of_length_le (by omega)]
    congr 1
    rw [show xs.length + news.length - xs.length = news.length by omega]
    simp
  ·have holds : ∀ j u, xs[j]? = some u -> w.cell? ((⟨g, off, none⟩ : Addr).add j) = some u := fun j u hj => by
    have hlt := (List.getElem?_eq_some_iff.1 hj).1
    rw [Addr.add_lit, Row.cells hrow j hlt, List.getD_eq_getElem?_getD, hj]
    rfl
   obtain ⟨v', w', r1, r2, r3⟩ := run_append_arg_grows (P := P) w t ty E i z size bytes ht hi hz hsize hby hzs hsz ⟨g, off, none⟩ n cap xs hrow.1 holds a m c news hl hnews (by omega) h63 hbytes
   refine ⟨v', w', r1, Row.of_owns r2, (Fr.grown r3).mono (by simp), ?_, fun h => by
    rcases r2.2 with ⟨_, h0⟩ | ⟨g, cap, cur, hv, _⟩
    ·exact h0
    ·rw [h] at hv; cases hv⟩
   rcases hv : v'.ownBlock with _ | k
   ·rcases r2.2 with ⟨_, h0⟩ | ⟨g, cap, cur, hv', _⟩
    ·omega
    ·rw [hv'] at hv; cases hv
   ·exact .inr ⟨k, (r2.lt k hv).1, rfl⟩
theorem wpList_append_row {P : Program} {w : World} {ops : Array Oper} {rest : List Oper} {o : Oper} {a : Act} {Q : Exit -> Act -> World -> Prop} (hgd : o.guard = none) (s x : Operand) (t : TypeId)
  (ho : o.op = .call { callee := .builtin .append, args := #[s, x], argTypes := #[t, t] })
  (E : TypeId) (i : TypeInfo) (z : Value) (size bytes : Nat) (ht : P.underlying t = some (.slice E)) (hi : P.info? E = some i) (hz : i.zero = some z)
  (hsize : i.size = size) (hby : i.bytes = bytes) (hzs : z.cells.size = size) (hsz : 0 < size)
  (v : Value) (n : Nat) (xs : List Value) (hs : a.eval s = v) (hrow : Row w E size v n xs)
  (ad : Addr) (m c : Nat) (news : List Value) (hx : a.eval x = .slice (some ad) m c) (hl : news.length = m * size) (hnews : ∀ j u, news[j]? = some u -> w.cell? (ad.add j) = some u) (h1 : ∀ u ∈ news, u.oneCell' = true)
  (h63 : n + m <= maxLen) (hbytes : (n + m) * bytes <= 140737488355328)
  (h : ∀ v' w', Row w' E size v' (n + m) (xs ++ news) -> Fr [v.ownBlock] w w' -> (v'.ownBlock = v.ownBlock \/ ∃ k, w.heap.size <= k /\ v'.ownBlock = some k) -> wpList P ops Q rest (a.put o.dst v') w') : wpList P ops Q (o :: rest) a w :=
 wpList_plain hgd fun K hK => by
  obtain ⟨v', w', hr, h2, h3, h4, _⟩ := run_append_row (P := P) t o.type E i z size bytes ht hi hz hsize hby hzs hsz v n xs hrow ad m c news hl hnews h1 h63 hbytes
  unfold Oper.wp execOp
  simp only [ho, resolve, invoke, builtin, Sem.run_bind, Sem.run_pure, Result.andThen_ok, List.map_toArray, List.map_cons, List.map_nil, hs, hx, hr]
  exact hK _ _ (h v' w' h2 h3 h4)
end Go.Proofs.YtmdnhinpaflamaaGreatDoor
namespace Go.Proofs.YtmdnhinpaflamaaGreatDoor
open Go.RowKit
end Go.Proofs.YtmdnhinpaflamaaGreatDoor
namespace Go.Proofs.YtmdnhinpaflamaaGreatDoor
open Go.RowKit
namespace Parse
end Parse
end Go.Proofs.YtmdnhinpaflamaaGreatDoor
namespace Go.Proofs.YtmdnhinpaflamaaGreatDoor
open Go.RowKit
namespace Lx
end Lx
end Go.Proofs.YtmdnhinpaflamaaGreatDoor
namespace Go.Proofs.YtmdnhinpaflamaaGreatDoor
open Go.RowKit
namespace Lx
theorem bytes_ext {a b : ByteArray} (h : a.data.toList = b.data.toList) : a = b := by
 cases a; cases b; simp at h; subst h; rfl
theorem extract_eq (S : List UInt8) (p q : Nat) : (ByteArray.mk S.toArray).extract p q = ⟨((S.drop p).take (q - p)).toArray⟩ := by
 apply bytes_ext
 simp [ByteArray.data_extract, List.extract_eq_take_drop]
end Lx
end Go.Proofs.YtmdnhinpaflamaaGreatDoor
