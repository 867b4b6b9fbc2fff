/- The words of a text, in plain Lean: what lex does, on lists of bytes. No program in sight. -/
import Derived.Lib.ItoaLen
namespace Go.Proofs.YtmdnhinpaflamaaGreatDoor
namespace LexM
structure Tok where
 kind : Int
 text : List UInt8
 int : Int
 pos : Nat
def words : List (List UInt8) := [[97, 110, 100], [97, 115], [98, 101, 103, 105, 110], [98, 121], [99, 97, 108, 108], [99, 108, 111, 115, 117, 114, 101], [99, 111, 109, 109, 105, 116], [99, 111, 117, 110, 116], [99, 114, 101, 97, 116, 101], [100, 101, 108, 101, 116, 101], [100, 101, 115, 99], [102, 114, 111, 109], [103, 114, 111, 117, 112], [105, 110, 100, 101, 120], [105, 110, 115, 101, 114, 116], [105, 110, 116], [105, 110, 116, 111], [106, 111, 105, 110], [109, 97, 120], [109, 105, 110], [110, 111, 116], [111, 110], [111, 114], [111, 114, 100, 101, 114], [114, 97, 105, 115, 101], [114, 101, 102], [114, 111, 108, 108, 98, 97, 99, 107], [115, 101, 108, 101, 99, 116], [115, 101, 116], [115, 116, 114, 105, 112], [115, 117, 109], [116, 97, 98, 108, 101], [116, 101, 120, 116], [117, 112, 100, 97, 116, 101], [118, 97, 108, 117, 101, 115], [118, 105, 101, 119], [119, 104, 101, 114, 101]]
def signs : List UInt8 := [40, 41, 44, 46, 61, 60, 62, 43, 45, 42]
def letter (c : UInt8) : Bool := decide (97 <= c.toNat /\ c.toNat <= 122) || c == 95
def dig (c : UInt8) : Bool := decide (48 <= c.toNat /\ c.toNat <= 57)
def nameByte (c : UInt8) : Bool := letter c || dig c
def val (l : List UInt8) : Nat := l.foldl (fun v c => v * 10 + (c.toNat - 48)) 0
def txt (p : Nat) : List UInt8 -> Nat ⊕ (List UInt8 × Nat)
 |[] => .inl p
 |c :: r =>
  if c.toNat < 32 \/ 126 < c.toNat then .inl p
  else if c = 39 then
   match r with
   |d :: r' => if d = 39 then (match txt (p + 2) r' with | .inl q => .inl q | .inr (l, q) => .inr (39 :: l, q)) else .inr ([], p + 1)
   |[] => .inr ([], p + 1)
  else match txt (p + 1) r with | .inl q => .inl q | .inr (l, q) => .inr (c :: l, q)
def tok1 (p : Nat) (s : List UInt8) : (Nat × Int) ⊕ (Tok × Nat) :=
 match s with
 |[] => .inl (p, 4)
 |c :: r =>
  if letter c then
   let t := s.takeWhile nameByte
   if words.contains t then .inr (⟨2, t, 0, p⟩, p + t.length)
   else if 16 < t.length then .inl (p, 7)
   else .inr (⟨1, t, 0, p⟩, p + t.length)
  else if dig c then
   let t := s.takeWhile dig
   if ((s.drop t.length).headD 0 |> letter) then .inl (p + t.length, 4)
   else if 9223372036854775807 < val t then .inl (p, 8)
   else .inr (⟨3, [], val t, p⟩, p + t.length)
  else if c = 39 then
   match txt (p + 1) r with
   |.inl q => .inl (q, 4)
   |.inr (l, q) => if 30 < l.length then .inl (p, 7) else .inr (⟨4, l, 0, p⟩, q)
  else if signs.contains c then
   let d := r.headD 0
   if (c = 60 /\ (d = 62 \/ d = 61)) \/ (c = 62 /\ d = 61) then .inr (⟨5, [c, d], 0, p⟩, p + 2)
   else .inr (⟨5, [c], 0, p⟩, p + 1)
  else .inl (p, 4)
def lexN (S : List UInt8) : Nat -> Nat -> (Nat × Int) ⊕ List Tok
 |0, p => .inl (p, 0)
 |n + 1, p =>
  match S.drop p with
  |[] => .inr [⟨6, [], 0, S.length⟩]
  |c :: r =>
   if c = 32 then lexN S n (p + 1)
   else match tok1 p (c :: r) with
    |.inl e => .inl e
    |.inr (t, q) => match lexN S n q with
     |.inl e => .inl e
     |.inr l => .inr (t :: l)
def lex (S : List UInt8) : (Nat × Int) ⊕ List Tok :=
 if 400 < S.length then .inl (0, 7) else lexN S (S.length + 1) 0
theorem txt_bound : ∀ (n : Nat) (s : List UInt8) (p : Nat), s.length <= n -> (∀ q, txt p s = .inl q -> p <= q /\ q <= p + s.length) /\ (∀ l q, txt p s = .inr (l, q) -> p < q /\ q <= p + s.length /\ l.length <= q - p)
 |0, s, p, h => by
  obtain rfl := List.eq_nil_of_length_eq_zero (by omega : s.length = 0)
  exact ⟨fun q e => (by simp [txt] at e; omega), fun l q e => (by simp [txt] at e)⟩
 |n + 1, s, p, h => by
  cases s with
  |nil => exact ⟨fun q e => (by simp [txt] at e; omega), fun l q e => (by simp [txt] at e)⟩
  |cons c r =>
   simp only [List.length_cons] at h
   unfold txt
   by_cases h1 : c.toNat < 32 \/ 126 < c.toNat
   ·rw [if_pos h1]
    exact ⟨fun q e => (by simp at e; simp; omega), fun l q e => (by simp at e)⟩
   ·rw [if_neg h1]
    by_cases h2 : c = 39
    ·rw [if_pos h2]
     cases r with
     |nil => exact ⟨fun q e => (by simp at e), fun l q e => (by simp at e; obtain ⟨rfl, rfl⟩ := e; simp)⟩
     |cons d r' =>
      simp only []
      by_cases h3 : d = 39
      ·rw [if_pos h3]
       simp only [List.length_cons] at h
       obtain ⟨i1, i2⟩ := txt_bound n r' (p + 2) (by omega)
       cases ht : txt (p + 2) r' with
       |inl q =>
        have := i1 q ht
        exact ⟨fun q' e => (by simp at e; subst e; simp; omega), fun l q' e => (by simp at e)⟩
       |inr x =>
        obtain ⟨l, q⟩ := x
        have := i2 l q ht
        exact ⟨fun q' e => (by simp at e), fun l' q' e => (by simp at e; obtain ⟨rfl, rfl⟩ := e; simp; omega)⟩
      ·rw [if_neg h3]
       exact ⟨fun q e => (by simp at e), fun l q e => (by simp at e; obtain ⟨rfl, rfl⟩ := e; simp)⟩
    ·rw [if_neg h2]
     obtain ⟨i1, i2⟩ := txt_bound n r (p + 1) (by omega)
     cases ht : txt (p + 1) r with
     |inl q =>
      have := i1 q ht
      exact ⟨fun q' e => (by simp at e; subst e; simp; omega), fun l q' e => (by simp at e)⟩
     |inr x =>
      obtain ⟨l, q⟩ := x
      have := i2 l q ht
      exact ⟨fun q' e => (by simp at e), fun l' q' e => (by simp at e; obtain ⟨rfl, rfl⟩ := e; simp; omega)⟩
theorem takeWhile_len (f : UInt8 -> Bool) (s : List UInt8) : (s.takeWhile f).length <= s.length := by
 induction s with
 |nil => simp
 |cons c r ih => rw [List.takeWhile_cons]; split <;> simp <;> omega
theorem takeWhile_pos {f : UInt8 -> Bool} {c : UInt8} {r : List UInt8} (h : f c = true) : 0 < ((c :: r).takeWhile f).length := by
 rw [List.takeWhile_cons, if_pos h]; simp
theorem tok1_next {p : Nat} {s : List UInt8} {t : Tok} {q : Nat} (h : tok1 p s = .inr (t, q)) : p < q /\ q <= p + s.length /\ t.pos = p := by
 cases s with
 |nil => simp [tok1] at h
 |cons c r =>
  simp only [tok1] at h
  split at h
  ·rename_i hl
   have h1 : 0 < ((c :: r).takeWhile nameByte).length := takeWhile_pos (by simp [nameByte, hl])
   have h2 := takeWhile_len nameByte (c :: r)
   split at h
   ·simp only [Sum.inr.injEq, Prod.mk.injEq] at h; obtain ⟨rfl, rfl⟩ := h; rw [List.length_cons] at h2; refine ⟨by omega, by rw [List.length_cons]; omega, rfl⟩
   ·split at h
    ·simp at h
    ·simp only [Sum.inr.injEq, Prod.mk.injEq] at h; obtain ⟨rfl, rfl⟩ := h; rw [List.length_cons] at h2; refine ⟨by omega, by rw [List.length_cons]; omega, rfl⟩
  ·split at h
   ·rename_i hd
    have h1 : 0 < ((c :: r).takeWhile dig).length := takeWhile_pos hd
    have h2 := takeWhile_len dig (c :: r)
    split at h
    ·simp at h
    ·split at h
     ·simp at h
     ·simp only [Sum.inr.injEq, Prod.mk.injEq] at h; obtain ⟨rfl, rfl⟩ := h; rw [List.length_cons] at h2; refine ⟨by omega, by rw [List.length_cons]; omega, rfl⟩
   ·split at h
    ·cases ht : txt (p + 1) r with
     |inl q' => rw [ht] at h; simp at h
     |inr x =>
      obtain ⟨l, q'⟩ := x
      rw [ht] at h
      have := (txt_bound r.length r (p + 1) (Nat.le_refl _)).2 l q' ht
      simp only [] at h
      split at h
      ·simp at h
      ·simp only [Sum.inr.injEq, Prod.mk.injEq] at h; obtain ⟨rfl, rfl⟩ := h; refine ⟨by omega, by rw [List.length_cons]; omega, rfl⟩
    ·split at h
     ·split at h
      ·rename_i hs
       have : 1 <= r.length := by
        cases r with
        |nil => simp at hs
        |cons => simp
       simp only [Sum.inr.injEq, Prod.mk.injEq] at h; obtain ⟨rfl, rfl⟩ := h; refine ⟨by omega, by rw [List.length_cons]; omega, rfl⟩
      ·simp only [Sum.inr.injEq, Prod.mk.injEq] at h; obtain ⟨rfl, rfl⟩ := h; refine ⟨by omega, by rw [List.length_cons]; omega, rfl⟩
     ·simp at h
end LexM
end Go.Proofs.YtmdnhinpaflamaaGreatDoor
namespace Go.Proofs.YtmdnhinpaflamaaGreatDoor
namespace PM
open LexM (Tok)
abbrev B := List UInt8
inductive Ex where
 |mk (op kind int : Int) (text table name : B) (args : List Ex) : Ex
structure Col where
 name : B
 kind : Int
 ref : B
structure It where
 agg : Int
 table : B
 name : B
inductive St where
 |mk (kind : Int) (table name : B) (cols : List Col) (tags : List Int) (values : List Ex) (items : List It) (join : B) (on wher order : List Ex) (desc : Bool) (inner : List St) : St
def Ex.zero : Ex := .mk 0 0 0 [] [] [] []
def St.zero : St := .mk 0 [] [] [] [] [] [] [] [] [] [] false []
def St.ofKind (k : Int) : St := .mk k [] [] [] [] [] [] [] [] [] [] false []
def two (op : Int) (a b : Ex) : Ex := .mk op 0 0 [] [] [] [a, b]
def un (op : Int) (a : Ex) : Ex := .mk op 0 0 [] [] [] [a]
def colEx (t n : B) : Ex := .mk 2 0 0 [] t n []
structure PS where
 l : List Tok
 deep : Int
 pos : Int
 e : Int
def zeroTok : Tok := ⟨0, [], 0, 0⟩
def PS.now (s : PS) : Tok := s.l.headD zeroTok
def fails (x : Int) (s : PS) : PS := if s.e = 0 then { s with e := x, pos := s.now.pos } else s
def wordy (t : Tok) : Bool := t.kind == 2 || t.kind == 5
def is (w : B) (s : PS) : Bool := s.e == 0 && wordy s.now && s.now.text == w
def skip (s : PS) : PS := { s with l := s.l.tail }
def skips (w : B) (s : PS) : Bool × PS := if is w s then (true, skip s) else (false, s)
def need (w : B) (s : PS) : PS := if is w s then skip s else fails 5 s
def needs : List B -> PS -> PS
 |[], s => s
 |w :: r, s => needs r (need w s)
def word (k : Int) (s : PS) : Tok × PS := if s.e ≠ 0 \/ s.now.kind ≠ k then (zeroTok, fails 5 s) else (s.now, skip s)
def name (s : PS) : B × PS := let (t, s) := word 1 s; (t.text, s)
def more {α : Type} (one : PS -> α × PS) : Nat -> List α -> PS -> List α × PS
 |0, acc, s => (acc, s)
 |f + 1, acc, s =>
  if is [44] s then
   let (x, s) := one (skip s)
   more one f (acc ++ [x]) s
  else (acc, s)
def list {α : Type} (one : PS -> α × PS) (s : PS) : List α × PS :=
 let (x, s) := one s
 more one s.l.length [x] s
def tag (s : PS) : Int × PS :=
 let s := if s.now.kind = 3 /\ 65535 < s.now.int then fails 3 s else s
 let (t, s) := word 3 s
 (t.int % 65536, s)
def column (s : PS) : Ex × PS :=
 let (n, s) := name s
 if is [46] s then
  let (m, s) := name (skip s)
  (colEx n m, s)
 else (colEx [] n, s)
def nests (sign : B) (inn : PS -> Ex × PS) (s : PS) : Ex × PS :=
 if s.deep = 64 then (.zero, fails 6 s)
 else
  let s := needs [sign] s
  let (x, s) := inn { s with deep := s.deep + 1 }
  (x, { s with deep := s.deep - 1 })
def sign (s : PS) : B := if s.e == 0 && wordy s.now then s.now.text else []
def rowsF (one : PS -> Ex × PS) (ops : B -> Option Int) : Nat -> Ex -> PS -> Ex × PS
 |0, x, s => (x, s)
 |f + 1, x, s => match ops (sign s) with
  |none => (x, s)
  |some op =>
   let (y, s) := one (skip s)
   rowsF one ops f (two op x y) s
def rows (one : PS -> Ex × PS) (ops : B -> Option Int) (s : PS) : Ex × PS :=
 let (x, s) := one s
 rowsF one ops s.l.length x s
def opOr (w : B) : Option Int := if w = [111, 114] then some 15 else none
def opAnd (w : B) : Option Int := if w = [97, 110, 100] then some 14 else none
def opSum (w : B) : Option Int := if w = [43] then some 5 else if w = [45] then some 6 else none
def opTerm (w : B) : Option Int := if w = [42] then some 7 else none
def opComp (w : B) : Option Int :=
 if w = [61] then some 8 else if w = [60, 62] then some 9 else if w = [60] then some 10 else if w = [60, 61] then some 11 else if w = [62] then some 12 else if w = [62, 61] then some 13 else none
def exprF (nt : PS -> Ex × PS) (s : PS) : Ex × PS := rows (rows nt opAnd) opOr s
def sumF (u : PS -> Ex × PS) (s : PS) : Ex × PS := rows (rows u opTerm) opSum s
def compF (u : PS -> Ex × PS) (s : PS) : Ex × PS :=
 let (x, s) := sumF u s
 match opComp (sign s) with
 |none => (x, s)
 |some op =>
  let (y, s) := sumF u (skip s)
  (two op x y, s)
def notF (u nt : PS -> Ex × PS) (s : PS) : Ex × PS :=
 if is [110, 111, 116] s then nests [110, 111, 116] (fun s => let (x, s) := nt s; (un 4 x, s)) s else compF u s
def unaryF (u nt : PS -> Ex × PS) (s : PS) : Ex × PS :=
 if is [45] s then nests [45] (fun s => let (x, s) := u s; (un 3 x, s)) s
 else if is [40] s then nests [40] (fun s => let (x, s) := exprF nt s; (x, needs [[41]] s)) s
 else if s.now.kind = 3 then let (t, s) := word 3 s; (.mk 1 1 t.int [] [] [] [], s)
 else if s.now.kind = 4 then let (t, s) := word 4 s; (.mk 1 2 0 t.text [] [] [], s)
 else column s
def lev : Nat -> (PS -> Ex × PS) × (PS -> Ex × PS)
 |0 => (fun s => (.zero, s), fun s => (.zero, s))
 |n + 1 => (unaryF (lev n).1 (lev n).2, notF (unaryF (lev n).1 (lev n).2) (lev n).2)
def expr (n : Nat) (s : PS) : Ex × PS := exprF (lev n).2 s
def col (s : PS) : Col × PS :=
 let (n, s) := name s
 let (k, s) := if is [105, 110, 116] s then ((1 : Int), skip s) else if is [116, 101, 120, 116] s then (2, skip s) else (0, fails 5 s)
 if is [114, 101, 102] s then
  let (r, s) := name (skip s)
  (⟨n, k, r⟩, s)
 else (⟨n, k, []⟩, s)
def item (s : PS) : It × PS :=
 if is [99, 111, 117, 110, 116] s then (⟨1, [], []⟩, needs [[40], [42], [41]] (skip s))
 else
  let agg : Int := if sign s = [115, 117, 109] then 2 else if sign s = [109, 105, 110] then 3 else if sign s = [109, 97, 120] then 4 else 0
  if agg = 0 then
   match column s with | (.mk _ _ _ _ t n _, s) => (⟨0, t, n⟩, s)
  else
   match column (needs [[40]] (skip s)) with | (.mk _ _ _ _ t n _, s) => (⟨agg, t, n⟩, needs [[41]] s)
def wheres (n : Nat) (s : PS) : List Ex × PS :=
 if is [119, 104, 101, 114, 101] s then
  let (x, s) := expr n (skip s)
  ([x], s)
 else ([], s)
def selects (n : Nat) (s : PS) : St × PS :=
 let (items, s) := if is [42] s then ([], skip s) else list item s
 let s := needs [[102, 114, 111, 109]] s
 let (table, s) := name s
 let (join, on, s) := if is [106, 111, 105, 110] s then
   let (j, s) := name (skip s)
   let s := needs [[111, 110]] s
   let (a, s) := column s
   let s := needs [[61]] s
   let (b, s) := column s
   (j, [a, b], s)
  else ([], [], s)
 let (wh, s) := wheres n s
 let (order, desc, s) := if is [111, 114, 100, 101, 114] s then
   let s := needs [[98, 121]] (skip s)
   let (c, s) := column s
   let (d, s) := skips [100, 101, 115, 99] s
   ([c], d, s)
  else ([], false, s)
 (.mk 6 table [] [] [] [] items join on wh order desc [], s)
def data (n : Nat) (s : PS) : Option (St × PS) :=
 if is [105, 110, 115, 101, 114, 116] s then
  let s := needs [[105, 110, 116, 111]] (skip s)
  let (t, s) := name s
  let s := needs [[118, 97, 108, 117, 101, 115], [40]] s
  let (vs, s) := list (expr n) s
  some (.mk 5 t [] [] [] vs [] [] [] [] [] false [], needs [[41]] s)
 else if is [115, 101, 108, 101, 99, 116] s then some (selects n (skip s))
 else if is [117, 112, 100, 97, 116, 101] s then
  let (t, s) := name (skip s)
  let s := needs [[115, 101, 116]] s
  let (m, s) := name s
  let s := needs [[61]] s
  let (x, s) := expr n s
  let (wh, s) := wheres n s
  some (.mk 7 t m [] [] [x] [] [] [] wh [] false [], s)
 else if is [100, 101, 108, 101, 116, 101] s then
  let s := needs [[102, 114, 111, 109]] (skip s)
  let (t, s) := name s
  let (wh, s) := wheres n s
  some (.mk 8 t [] [] [] [] [] [] [] wh [] false [], s)
 else none
def door (n : Nat) (kind : Int) (inner : List B) (s : PS) : St × PS :=
 let (m, s) := name s
 let s := needs [[115, 116, 114, 105, 112]] s
 let (tags, s) := if s.now.kind = 3 then list tag s else ([], s)
 let s := needs [[97, 115]] s
 if inner.any (fun w => is w s) then
  match data n s with
  |some (st, s) => (.mk kind [] m [] tags [] [] [] [] [] [] false [st], s)
  |none => (.mk kind [] m [] tags [] [] [] [] [] [] false [], s)
 else (.mk kind [] m [] tags [] [] [] [] [] [] false [], fails 5 s)
def create (n : Nat) (s : PS) : St × PS :=
 if is [116, 97, 98, 108, 101] s then
  let (m, s) := name (skip s)
  let s := needs [[40]] s
  let (cs, s) := list col s
  (.mk 1 [] m cs [] [] [] [] [] [] [] false [], needs [[41]] s)
 else if is [105, 110, 100, 101, 120] s then
  let s := needs [[111, 110]] (skip s)
  let (t, s) := name s
  let s := needs [[40]] s
  let (m, s) := name s
  (.mk 2 t m [] [] [] [] [] [] [] [] false [], needs [[41]] s)
 else if is [118, 105, 101, 119] s then door n 3 [[115, 101, 108, 101, 99, 116]] (skip s)
 else if is [99, 108, 111, 115, 117, 114, 101] s then door n 4 [[105, 110, 115, 101, 114, 116], [117, 112, 100, 97, 116, 101], [100, 101, 108, 101, 116, 101]] (skip s)
 else (.zero, fails 5 s)
def stmt (n : Nat) (s : PS) : St × PS :=
 if is [99, 114, 101, 97, 116, 101] s then create n (skip s)
 else match data n s with
  |some r => r
  |none =>
   if is [114, 97, 105, 115, 101] s then
    let (tags, s) := list tag (skip s)
    (.mk 12 [] [] [] tags [] [] [] [] [] [] false [], s)
   else if is [99, 97, 108, 108] s then
    let (m, s) := name (skip s)
    (.mk 13 [] m [] [] [] [] [] [] [] [] false [], s)
   else if is [98, 101, 103, 105, 110] s then (.ofKind 9, skip s)
   else if is [99, 111, 109, 109, 105, 116] s then (.ofKind 10, skip s)
   else if is [114, 111, 108, 108, 98, 97, 99, 107] s then (.ofKind 11, skip s)
   else (.zero, fails 5 s)
def parse (S : B) : (Int × Int) ⊕ St :=
 match LexM.lex S with
 |.inl (q, x) => .inl (q, x)
 |.inr l =>
  let (st, s) := stmt l.length ⟨l, 0, 0, 0⟩
  let s := if s.now.kind ≠ 6 then fails 5 s else s
  if s.e ≠ 0 then .inl (s.pos, s.e) else .inr st
end PM
end Go.Proofs.YtmdnhinpaflamaaGreatDoor
namespace Go.Proofs.YtmdnhinpaflamaaGreatDoor
namespace CM
open LexM (Tok)
open PM (B Ex Col It St PS zeroTok wordy two un colEx opOr opAnd opSum opTerm opComp)
abbrev P (α : Type) := List Tok -> Except (Int × Int) (α × List Tok)
def now (l : List Tok) : Tok := l.headD zeroTok
def is (w : B) (l : List Tok) : Bool := wordy (now l) && (now l).text == w
def sign (l : List Tok) : B := if wordy (now l) then (now l).text else []
def err {α : Type} (x : Int) : P α := fun l => .error ((now l).pos, x)
def ret {α : Type} (a : α) : P α := fun l => .ok (a, l)
def bnd {α β : Type} (f : P α) (g : α -> P β) : P β := fun l => match f l with | .error e => .error e | .ok (a, l) => g a l
def opt {α : Type} (w : B) (f g : P α) : P α := fun l => if is w l then f l.tail else g l
def need (w : B) : P Unit := opt w (ret ()) (err 5)
def needs : List B -> P Unit
 |[] => ret ()
 |w :: r => bnd (need w) fun _ => needs r
def word (k : Int) : P Tok := fun l => if (now l).kind = k then .ok (now l, l.tail) else .error ((now l).pos, 5)
def name : P B := bnd (word 1) fun t => ret t.text
def more {α : Type} (one : P α) : Nat -> List α -> P (List α)
 |0, acc => ret acc
 |f + 1, acc => opt [44] (bnd one fun x => more one f (acc ++ [x])) (ret acc)
def list {α : Type} (one : P α) : P (List α) := bnd one fun x l => more one l.length [x] l
def tag : P Int := fun l => if (now l).kind = 3 /\ 65535 < (now l).int then .error ((now l).pos, 3) else bnd (word 3) (fun t => ret (t.int % 65536)) l
def column : P Ex := bnd name fun n => opt [46] (bnd name fun m => ret (colEx n m)) (ret (colEx [] n))
def nests (sg : B) (inn : Int -> P Ex) (d : Int) : P Ex := if d = 64 then err 6 else bnd (need sg) fun _ => inn (d + 1)
def rowsF (one : P Ex) (ops : B -> Option Int) : Nat -> Ex -> P Ex
 |0, x => ret x
 |f + 1, x => fun l => match ops (sign l) with
  |none => .ok (x, l)
  |some op => bnd one (fun y => rowsF one ops f (two op x y)) l.tail
def rows (one : P Ex) (ops : B -> Option Int) : P Ex := bnd one fun x l => rowsF one ops l.length x l
def exprF (nt : P Ex) : P Ex := rows (rows nt opAnd) opOr
def sumF (u : P Ex) : P Ex := rows (rows u opTerm) opSum
def compF (u : P Ex) : P Ex := bnd (sumF u) fun x l => match opComp (sign l) with
 |none => .ok (x, l)
 |some op => bnd (sumF u) (fun y => ret (two op x y)) l.tail
def notF (u nt : Int -> P Ex) (d : Int) : P Ex := fun l =>
 if is [110, 111, 116] l then nests [110, 111, 116] (fun d => bnd (nt d) fun x => ret (un 4 x)) d l else compF (u d) l
def unaryF (u nt : Int -> P Ex) (d : Int) : P Ex := fun l =>
 if is [45] l then nests [45] (fun d => bnd (u d) fun x => ret (un 3 x)) d l
 else if is [40] l then nests [40] (fun d => bnd (exprF (nt d)) fun x => bnd (needs [[41]]) fun _ => ret x) d l
 else if (now l).kind = 3 then bnd (word 3) (fun t => ret (.mk 1 1 t.int [] [] [] [])) l
 else if (now l).kind = 4 then bnd (word 4) (fun t => ret (.mk 1 2 0 t.text [] [] [])) l
 else column l
def lev : Nat -> (Int -> P Ex) × (Int -> P Ex)
 |0 => (fun _ => ret .zero, fun _ => ret .zero)
 |n + 1 => (unaryF (lev n).1 (lev n).2, notF (unaryF (lev n).1 (lev n).2) (lev n).2)
def expr (n : Nat) (d : Int) : P Ex := exprF ((lev n).2 d)
def colKind : P Int := opt [105, 110, 116] (ret 1) (opt [116, 101, 120, 116] (ret 2) (err 5))
def col : P Col := bnd name fun n => bnd colKind fun k => opt [114, 101, 102] (bnd name fun r => ret ⟨n, k, r⟩) (ret ⟨n, k, []⟩)
def Ex.table : Ex -> B | .mk _ _ _ _ t _ _ => t
def Ex.name : Ex -> B | .mk _ _ _ _ _ n _ => n
def agg (w : B) : Int := if w = [115, 117, 109] then 2 else if w = [109, 105, 110] then 3 else if w = [109, 97, 120] then 4 else 0
def item : P It := opt [99, 111, 117, 110, 116] (bnd (needs [[40], [42], [41]]) fun _ => ret ⟨1, [], []⟩) fun l =>
 if agg (sign l) = 0 then bnd column (fun c => ret ⟨0, Ex.table c, Ex.name c⟩) l
 else bnd (needs [[40]]) (fun _ => bnd column fun c => bnd (needs [[41]]) fun _ => ret ⟨agg (sign l), Ex.table c, Ex.name c⟩) l.tail
def wheres (n : Nat) (d : Int) : P (List Ex) := opt [119, 104, 101, 114, 101] (bnd (expr n d) fun x => ret [x]) (ret [])
def joins : P (B × List Ex) := opt [106, 111, 105, 110] (bnd name fun j => bnd (needs [[111, 110]]) fun _ => bnd column fun a => bnd (needs [[61]]) fun _ => bnd column fun b => ret (j, [a, b])) (ret ([], []))
def desc : P Bool := opt [100, 101, 115, 99] (ret true) (ret false)
def orders : P (List Ex × Bool) := opt [111, 114, 100, 101, 114] (bnd (needs [[98, 121]]) fun _ => bnd column fun c => bnd desc fun d => ret ([c], d)) (ret ([], false))
def items : P (List It) := opt [42] (ret []) (list item)
def selects (n : Nat) (d : Int) : P St := bnd items fun its => bnd (needs [[102, 114, 111, 109]]) fun _ => bnd name fun t => bnd joins fun j => bnd (wheres n d) fun wh => bnd orders fun o =>
 ret (.mk 6 t [] [] [] [] its j.1 j.2 wh o.1 o.2 [])
def inserts (n : Nat) (d : Int) : P St := bnd (needs [[105, 110, 116, 111]]) fun _ => bnd name fun t => bnd (needs [[118, 97, 108, 117, 101, 115], [40]]) fun _ => bnd (list (expr n d)) fun vs => bnd (needs [[41]]) fun _ => ret (.mk 5 t [] [] [] vs [] [] [] [] [] false [])
def updates (n : Nat) (d : Int) : P St := bnd name fun t => bnd (needs [[115, 101, 116]]) fun _ => bnd name fun m => bnd (needs [[61]]) fun _ => bnd (expr n d) fun x => bnd (wheres n d) fun wh => ret (.mk 7 t m [] [] [x] [] [] [] wh [] false [])
def deletes (n : Nat) (d : Int) : P St := bnd (needs [[102, 114, 111, 109]]) fun _ => bnd name fun t => bnd (wheres n d) fun wh => ret (.mk 8 t [] [] [] [] [] [] [] wh [] false [])
def writes (n : Nat) (d : Int) (els : P St) : P St := opt [105, 110, 115, 101, 114, 116] (inserts n d) (opt [117, 112, 100, 97, 116, 101] (updates n d) (opt [100, 101, 108, 101, 116, 101] (deletes n d) els))
def tags : P (List Int) := fun l => if (now l).kind = 3 then list tag l else .ok ([], l)
def doorSt (kind : Int) (m : B) (tags : List Int) (inner : St) : St := .mk kind [] m [] tags [] [] [] [] [] [] false [inner]
def door (kind : Int) (inn : P St) : P St := bnd name fun m => bnd (needs [[115, 116, 114, 105, 112]]) fun _ => bnd tags fun ts => bnd (needs [[97, 115]]) fun _ => bnd inn fun st => ret (doorSt kind m ts st)
def tables : P St := bnd name fun m => bnd (needs [[40]]) fun _ => bnd (list col) fun cs => bnd (needs [[41]]) fun _ => ret (.mk 1 [] m cs [] [] [] [] [] [] [] false [])
def indexes : P St := bnd (needs [[111, 110]]) fun _ => bnd name fun t => bnd (needs [[40]]) fun _ => bnd name fun m => bnd (needs [[41]]) fun _ => ret (.mk 2 t m [] [] [] [] [] [] [] [] false [])
def create (n : Nat) (d : Int) : P St :=
 opt [116, 97, 98, 108, 101] tables (opt [105, 110, 100, 101, 120] indexes (opt [118, 105, 101, 119] (door 3 (opt [115, 101, 108, 101, 99, 116] (selects n d) (err 5))) (opt [99, 108, 111, 115, 117, 114, 101] (door 4 (writes n d (err 5))) (err 5))))
def raises : P St := bnd (list tag) fun ts => ret (.mk 12 [] [] [] ts [] [] [] [] [] [] false [])
def calls : P St := bnd name fun m => ret (.mk 13 [] m [] [] [] [] [] [] [] [] false [])
def rest : P St := opt [114, 97, 105, 115, 101] raises (opt [99, 97, 108, 108] calls (opt [98, 101, 103, 105, 110] (ret (.ofKind 9)) (opt [99, 111, 109, 109, 105, 116] (ret (.ofKind 10)) (opt [114, 111, 108, 108, 98, 97, 99, 107] (ret (.ofKind 11)) (err 5)))))
def stmt (n : Nat) (d : Int) : P St := opt [99, 114, 101, 97, 116, 101] (create n d) (opt [105, 110, 115, 101, 114, 116] (inserts n d) (opt [115, 101, 108, 101, 99, 116] (selects n d) (opt [117, 112, 100, 97, 116, 101] (updates n d) (opt [100, 101, 108, 101, 116, 101] (deletes n d) rest))))
def ends (r : Except (Int × Int) (St × List Tok)) : (Int × Int) ⊕ St := match r with
 |.error e => .inl e
 |.ok (st, l) => if (now l).kind = 6 then .inr st else .inl ((now l).pos, 5)
def parseL (l : List Tok) : (Int × Int) ⊕ St := ends (stmt l.length 0 l)
def parse (S : B) : (Int × Int) ⊕ St :=
 match LexM.lex S with
 |.inl (q, x) => .inl (q, x)
 |.inr l => parseL l
def Meets {α : Type} (s : PS) (r : α × PS) : Except (Int × Int) (α × List Tok) -> Prop
 |.ok (a, l) => r = (a, { s with l := l })
 |.error (q, x) => r.2.e = x /\ r.2.pos = q /\ x ≠ 0
def Cor {α : Type} (f : PS -> α × PS) (c : Int -> P α) : Prop :=
 ∀ s, (s.e ≠ 0 -> (f s).2.e = s.e /\ (f s).2.pos = s.pos) /\ (s.e = 0 -> Meets s (f s) (c s.deep s.l))
theorem pis0 {s : PS} (h : s.e = 0) (w : B) : PM.is w s = is w s.l := by
 unfold PM.is is PS.now now
 rw [h]
 rfl
theorem pis1 {s : PS} (h : s.e ≠ 0) (w : B) : PM.is w s = false := by
 unfold PM.is
 have : (s.e == 0) = false := by simpa using h
 rw [this]
 rfl
theorem fails0 {s : PS} (h : s.e = 0) (x : Int) : (PM.fails x s).e = x /\ (PM.fails x s).pos = (now s.l).pos := by
 unfold PM.fails
 rw [if_pos h]
 exact ⟨rfl, rfl⟩
theorem fails1 {s : PS} (h : s.e ≠ 0) (x : Int) : PM.fails x s = s := by
 unfold PM.fails
 rw [if_neg h]
theorem cor_err {α : Type} (a : α) (x : Int) (hx : x ≠ 0) : Cor (fun s => (a, PM.fails x s)) (fun _ => err x) := fun s => by
 refine ⟨fun h => ?_, fun h => ?_⟩
 ·simp only [fails1 h]
  exact ⟨trivial, trivial⟩
 ·exact ⟨(fails0 h x).1, (fails0 h x).2, hx⟩
theorem cor_ret {α : Type} (a : α) : Cor (fun s => (a, s)) (fun _ => ret a) := fun _ => ⟨fun _ => ⟨rfl, rfl⟩, fun _ => rfl⟩
theorem cor_bnd {α β : Type} {f : PS -> α × PS} {c : Int -> P α} {g : α -> PS -> β × PS} {d : α -> Int -> P β} (hf : Cor f c) (hg : ∀ a, Cor (g a) (d a)) :
  Cor (fun s => g (f s).1 (f s).2) (fun dp => bnd (c dp) fun a => d a dp) := fun s => by
 obtain ⟨f1, f2⟩ := hf s
 refine ⟨fun h => ?_, fun h => ?_⟩
 ·obtain ⟨e1, e2⟩ := f1 h
  obtain ⟨g1, _⟩ := hg (f s).1 (f s).2
  obtain ⟨e3, e4⟩ := g1 (by rw [e1]; exact h)
  exact ⟨e3.trans e1, e4.trans e2⟩
 ·have f2 := f2 h
  show Meets s _ (bnd (c s.deep) (fun a => d a s.deep) s.l)
  unfold bnd
  cases hc : c s.deep s.l with
  |error e =>
   obtain ⟨q, x⟩ := e
   rw [hc] at f2
   obtain ⟨e1, e2, e3⟩ := f2
   obtain ⟨g1, _⟩ := hg (f s).1 (f s).2
   obtain ⟨e4, e5⟩ := g1 (by rw [e1]; exact e3)
   exact ⟨e4.trans e1, e5.trans e2, e3⟩
  |ok r =>
   obtain ⟨a, l⟩ := r
   rw [hc] at f2
   have f2 : f s = (a, { s with l := l }) := f2
   show Meets s (g (f s).1 (f s).2) (d a s.deep l)
   rw [f2]
   exact (hg a { s with l := l }).2 h
theorem cor_opt {α : Type} (w : B) {f g : PS -> α × PS} {c d : Int -> P α} (hf : Cor f c) (hg : Cor g d) :
  Cor (fun s => if PM.is w s then f (PM.skip s) else g s) (fun dp => opt w (c dp) (d dp)) := fun s => by
 refine ⟨fun h => ?_, fun h => ?_⟩
 ·simp only [pis1 h]
  exact (hg s).1 h
 ·show Meets s _ (if is w s.l then _ else _)
  simp only [pis0 h]
  split
  ·exact (hf (PM.skip s)).2 h
  ·exact (hg s).2 h
theorem cor_need (w : B) : Cor (fun s => ((), PM.need w s)) (fun _ => need w) := fun s => by
 refine ⟨fun h => ?_, fun h => ?_⟩
 ·simp only [PM.need, pis1 h]
  exact (cor_err () 5 (by decide) s).1 h
 ·show Meets s _ (if is w s.l then _ else _)
  simp only [PM.need, pis0 h]
  split
  ·rfl
  ·exact (cor_err () 5 (by decide) s).2 h
theorem cor_needs (ws : List B) : Cor (fun s => ((), PM.needs ws s)) (fun _ => needs ws) := by
 induction ws with
 |nil => exact cor_ret ()
 |cons w r ih => exact cor_bnd (cor_need w) (fun _ => ih)
theorem cor_word (k : Int) : Cor (PM.word k) (fun _ => word k) := fun s => by
 refine ⟨fun h => ?_, fun h => ?_⟩
 ·unfold PM.word
  rw [if_pos (.inl h)]
  exact (cor_err PM.zeroTok 5 (by decide) s).1 h
 ·show Meets s _ (if (now s.l).kind = k then _ else _)
  unfold PM.word
  by_cases hk : (now s.l).kind = k
  ·rw [if_pos hk, if_neg (by rintro (h1 | h1); exact h1 h; exact h1 hk)]
   rfl
  ·rw [if_neg hk, if_pos (.inr hk)]
   exact (cor_err PM.zeroTok 5 (by decide) s).2 h
theorem cor_name : Cor PM.name (fun _ => name) := cor_bnd (cor_word 1) (fun t => cor_ret t.text)
theorem cor_more {α : Type} {one : PS -> α × PS} {c : Int -> P α} (h1 : Cor one c) : ∀ (f : Nat) (acc : List α), Cor (PM.more one f acc) (fun d => more (c d) f acc)
 |0, acc => cor_ret acc
 |f + 1, acc => cor_opt _ (cor_bnd h1 fun x => cor_more h1 f (acc ++ [x])) (cor_ret acc)
theorem cor_len {α : Type} {f : Nat -> PS -> α × PS} {c : Nat -> Int -> P α} (h : ∀ n, Cor (f n) (c n)) : Cor (fun s => f s.l.length s) (fun d l => c l.length d l) :=
 fun s => ⟨fun e => (h _ s).1 e, fun e => (h _ s).2 e⟩
theorem cor_list {α : Type} {one : PS -> α × PS} {c : Int -> P α} (h1 : Cor one c) : Cor (PM.list one) (fun d => list (c d)) :=
 cor_bnd h1 fun x => cor_len (f := fun n s => PM.more one n [x] s) (c := fun n d => more (c d) n [x]) fun n => cor_more h1 n [x]
theorem cor_tag : Cor PM.tag (fun _ => tag) := fun s => by
 have key := cor_bnd (cor_word 3) (fun t => cor_ret (t.int % 65536))
 refine ⟨fun h => ?_, fun h => ?_⟩
 ·unfold PM.tag
  simp only [fails1 h, ite_self]
  exact (key s).1 h
 ·show Meets s _ (if (now s.l).kind = 3 /\ 65535 < (now s.l).int then _ else _)
  unfold PM.tag
  by_cases hk : (now s.l).kind = 3 /\ 65535 < (now s.l).int
  ·rw [if_pos hk]
   simp only [if_pos (show s.now.kind = 3 /\ 65535 < s.now.int from hk)]
   obtain ⟨e1, e2⟩ := fails0 h 3
   obtain ⟨g1, g2⟩ := (key (PM.fails 3 s)).1 (by rw [e1]; decide)
   exact ⟨g1.trans e1, g2.trans e2, by decide⟩
  ·rw [if_neg hk]
   simp only [if_neg (show ¬ (s.now.kind = 3 /\ 65535 < s.now.int) from hk)]
   exact (key s).2 h
theorem cor_column : Cor PM.column (fun _ => column) := cor_bnd cor_name fun n => cor_opt _ (cor_bnd cor_name fun m => cor_ret (colEx n m)) (cor_ret (colEx [] n))
theorem cor_deeper {α : Type} {f : PS -> α × PS} {c : Int -> P α} (h : Cor f c) : Cor (fun s => ((f { s with deep := s.deep + 1 }).1, { (f { s with deep := s.deep + 1 }).2 with deep := (f { s with deep := s.deep + 1 }).2.deep - 1 })) (fun d => c (d + 1)) := fun s => by
 obtain ⟨h1, h2⟩ := h { s with deep := s.deep + 1 }
 refine ⟨fun e => h1 e, fun e => ?_⟩
 have h2 := h2 e
 show Meets s _ (c (s.deep + 1) s.l)
 change Meets _ _ (c (s.deep + 1) s.l) at h2
 cases hc : c (s.deep + 1) s.l with
 |error x => rw [hc] at h2; exact h2
 |ok r =>
  obtain ⟨a, l⟩ := r
  rw [hc] at h2
  have h2 : f { s with deep := s.deep + 1 } = (a, { s with deep := s.deep + 1, l := l }) := h2
  show ((f { s with deep := s.deep + 1 }).1, { (f { s with deep := s.deep + 1 }).2 with deep := (f { s with deep := s.deep + 1 }).2.deep - 1 }) = (a, { s with l := l })
  rw [h2]
  simp only [Int.add_sub_cancel]
theorem cor_nests (sg : B) {inn : PS -> Ex × PS} {c : Int -> P Ex} (h : Cor inn c) : Cor (PM.nests sg inn) (nests sg c) := fun s => by
 have key := cor_bnd (cor_needs [sg]) (fun _ => cor_deeper h)
 by_cases hd : s.deep = 64
 ·unfold PM.nests nests
  rw [if_pos hd]
  simp only [if_pos hd]
  exact cor_err Ex.zero 6 (by decide) s
 ·unfold PM.nests nests
  rw [if_neg hd]
  simp only [if_neg hd]
  have e : needs [sg] = need sg := by
   funext l
   show bnd (need sg) (fun _ => ret ()) l = _
   unfold bnd
   cases need sg l <;> rfl
  rw [<- e]
  exact key s
theorem sign0 {s : PS} (h : s.e = 0) : PM.sign s = sign s.l := by
 unfold PM.sign sign PS.now now
 rw [h]
 rfl
theorem sign1 {s : PS} (h : s.e ≠ 0) : PM.sign s = [] := by
 unfold PM.sign
 have : (s.e == 0) = false := by simpa using h
 rw [this]
 rfl
theorem cor_rowsF {one : PS -> Ex × PS} {c : Int -> P Ex} (h1 : Cor one c) {ops : B -> Option Int} (h0 : ops [] = none) : ∀ (f : Nat) (x : Ex), Cor (PM.rowsF one ops f x) (fun d => rowsF (c d) ops f x)
 |0, x => cor_ret x
 |f + 1, x => fun s => by
  refine ⟨fun h => ?_, fun h => ?_⟩
  ·rw [PM.rowsF, sign1 h, h0]
   exact ⟨rfl, rfl⟩
  ·show Meets s _ (match ops (sign s.l) with | none => .ok (x, s.l) | some op => bnd (c s.deep) (fun y => rowsF (c s.deep) ops f (two op x y)) s.l.tail)
   rw [PM.rowsF, sign0 h]
   cases ops (sign s.l) with
   |none => rfl
   |some op => exact (cor_bnd h1 (fun y => cor_rowsF h1 h0 f (two op x y)) (PM.skip s)).2 h
theorem cor_rows {one : PS -> Ex × PS} {c : Int -> P Ex} (h1 : Cor one c) {ops : B -> Option Int} (h0 : ops [] = none) : Cor (PM.rows one ops) (fun d => rows (c d) ops) :=
 cor_bnd h1 fun x => cor_len (f := fun n s => PM.rowsF one ops n x s) (c := fun n d => rowsF (c d) ops n x) fun n => cor_rowsF h1 h0 n x
theorem cor_exprF {nt : PS -> Ex × PS} {c : Int -> P Ex} (h : Cor nt c) : Cor (PM.exprF nt) (fun d => exprF (c d)) := cor_rows (cor_rows h (by decide)) (by decide)
theorem cor_sumF {u : PS -> Ex × PS} {c : Int -> P Ex} (h : Cor u c) : Cor (PM.sumF u) (fun d => sumF (c d)) := cor_rows (cor_rows h (by decide)) (by decide)
theorem cor_compF {u : PS -> Ex × PS} {c : Int -> P Ex} (h : Cor u c) : Cor (PM.compF u) (fun d => compF (c d)) := by
 refine cor_bnd (cor_sumF h) (g := fun x s => match PM.opComp (PM.sign s) with | none => (x, s) | some op => (two op x (PM.sumF u (PM.skip s)).1, (PM.sumF u (PM.skip s)).2)) (d := fun x d l => match opComp (sign l) with | none => .ok (x, l) | some op => bnd (sumF (c d)) (fun y => ret (two op x y)) l.tail) fun x s => ?_
 refine ⟨fun e => ?_, fun e => ?_⟩
 ·simp only [sign1 e]
  exact ⟨rfl, rfl⟩
 ·simp only [sign0 e]
  cases opComp (sign s.l) with
  |none => rfl
  |some op => exact (cor_bnd (cor_sumF h) (fun y => cor_ret (two op x y)) (PM.skip s)).2 e
theorem cor_if {α : Type} (w : B) {f g : PS -> α × PS} {c d : Int -> P α} (hf : Cor f c) (hg : Cor g d) :
  Cor (fun s => if PM.is w s then f s else g s) (fun dp l => if is w l then c dp l else d dp l) := fun s => by
 refine ⟨fun h => ?_, fun h => ?_⟩
 ·simp only [pis1 h]
  exact (hg s).1 h
 ·show Meets s _ (if is w s.l then _ else _)
  simp only [pis0 h]
  split
  ·exact (hf s).2 h
  ·exact (hg s).2 h
theorem cor_dec {α : Type} (p : Tok -> Prop) [DecidablePred p] {f g : PS -> α × PS} {c d : Int -> P α} (hf : Cor f c) (hg : Cor g d) :
  Cor (fun s => if p s.now then f s else g s) (fun dp l => if p (now l) then c dp l else d dp l) := fun s => by
 refine ⟨fun h => ?_, fun h => ?_⟩
 ·show (if p s.now then f s else g s).2.e = s.e /\ (if p s.now then f s else g s).2.pos = s.pos
  split
  ·exact (hf s).1 h
  ·exact (hg s).1 h
 ·show Meets s (if p (now s.l) then f s else g s) (if p (now s.l) then _ else _)
  split
  ·exact (hf s).2 h
  ·exact (hg s).2 h
theorem cor_notF {u nt : PS -> Ex × PS} {c d : Int -> P Ex} (hu : Cor u c) (hn : Cor nt d) : Cor (PM.notF u nt) (notF c d) :=
 cor_if _ (cor_nests _ (cor_bnd hn fun x => cor_ret (un 4 x))) (cor_compF hu)
theorem cor_unaryF {u nt : PS -> Ex × PS} {c d : Int -> P Ex} (hu : Cor u c) (hn : Cor nt d) : Cor (PM.unaryF u nt) (unaryF c d) :=
 cor_if _ (cor_nests _ (cor_bnd hu fun x => cor_ret (un 3 x))) (cor_if _ (cor_nests _ (cor_bnd (cor_exprF hn) fun x => cor_bnd (cor_needs _) fun _ => cor_ret x))
  (cor_dec (fun t => t.kind = 3) (cor_bnd (cor_word 3) fun _ => cor_ret _) (cor_dec (fun t => t.kind = 4) (cor_bnd (cor_word 4) fun _ => cor_ret _) cor_column)))
theorem cor_lev : ∀ n, Cor (PM.lev n).1 (lev n).1 /\ Cor (PM.lev n).2 (lev n).2
 |0 => ⟨cor_ret _, cor_ret _⟩
 |n + 1 => ⟨cor_unaryF (cor_lev n).1 (cor_lev n).2, cor_notF (cor_unaryF (cor_lev n).1 (cor_lev n).2) (cor_lev n).2⟩
theorem cor_expr (n : Nat) : Cor (PM.expr n) (expr n) := cor_exprF (cor_lev n).2
end CM
end Go.Proofs.YtmdnhinpaflamaaGreatDoor
namespace Go.Proofs.YtmdnhinpaflamaaGreatDoor
namespace CM
open LexM (Tok)
open PM (B Ex Col It St PS zeroTok wordy two un colEx)
theorem cor_col : Cor PM.col (fun _ => col) := by
 have h := cor_bnd cor_name fun n => cor_bnd (cor_opt [105, 110, 116] (cor_ret (1 : Int)) (cor_opt [116, 101, 120, 116] (cor_ret 2) (cor_err 0 5 (by decide)))) fun k => cor_opt [114, 101, 102] (cor_bnd cor_name fun r => cor_ret (⟨n, k, r⟩ : Col)) (cor_ret (⟨n, k, []⟩ : Col))
 exact h
theorem cor_eq {α : Type} {f g : PS -> α × PS} {c : Int -> P α} (h : Cor g c) (e : ∀ s, f s = g s) : Cor f c := by
 rw [show f = g from funext e]
 exact h
theorem cor_item : Cor PM.item (fun _ => item) := by
 have hA := cor_bnd cor_column fun c => cor_ret (⟨0, Ex.table c, Ex.name c⟩ : It)
 have hB : ∀ a, Cor _ _ := fun a => cor_bnd (cor_needs [[40]]) fun _ => cor_bnd cor_column fun c => cor_bnd (cor_needs [[41]]) fun _ => cor_ret (⟨a, Ex.table c, Ex.name c⟩ : It)
 have hC := cor_bnd (cor_needs [[40], [42], [41]]) fun _ => cor_ret (⟨1, [], []⟩ : It)
 have hD : Cor (fun s => if agg (PM.sign s) = 0 then ((⟨0, Ex.table (PM.column s).1, Ex.name (PM.column s).1⟩ : It), (PM.column s).2) else (⟨agg (PM.sign s), Ex.table (PM.column (PM.needs [[40]] (PM.skip s))).1, Ex.name (PM.column (PM.needs [[40]] (PM.skip s))).1⟩, PM.needs [[41]] (PM.column (PM.needs [[40]] (PM.skip s))).2)) (fun _ l =>
   if agg (sign l) = 0 then bnd column (fun c => ret ⟨0, Ex.table c, Ex.name c⟩) l
   else bnd (needs [[40]]) (fun _ => bnd column fun c => bnd (needs [[41]]) fun _ => ret ⟨agg (sign l), Ex.table c, Ex.name c⟩) l.tail) := fun s => by
  refine ⟨fun e => ?_, fun e => ?_⟩
  ·simp only [sign1 e]
   rw [if_pos (by decide)]
   exact (hA s).1 e
  ·simp only [sign0 e]
   by_cases h0 : agg (sign s.l) = 0
   ·rw [if_pos h0, if_pos h0]
    exact (hA s).2 e
   ·rw [if_neg h0, if_neg h0]
    exact (hB (agg (sign s.l)) (PM.skip s)).2 e
 have hE := cor_opt [99, 111, 117, 110, 116] hC hD
 refine cor_eq hE fun s => ?_
 unfold PM.item
 split
 ·rfl
 ·show (if agg (PM.sign s) = 0 then _ else _) = (if agg (PM.sign s) = 0 then _ else _)
  split
  ·rcases PM.column s with ⟨⟨_, _, _, _, t, n, _⟩, s'⟩
   rfl
  ·rcases PM.column (PM.needs [[40]] (PM.skip s)) with ⟨⟨_, _, _, _, t, n, _⟩, s'⟩
   rfl
theorem cor_wheres (n : Nat) : Cor (PM.wheres n) (wheres n) := cor_opt [119, 104, 101, 114, 101] (cor_bnd (cor_expr n) fun x => cor_ret [x]) (cor_ret [])
def pj (s : PS) : (B × List Ex) × PS :=
 if PM.is [106, 111, 105, 110] s then
  let (j, s) := PM.name (PM.skip s)
  let s := PM.needs [[111, 110]] s
  let (a, s) := PM.column s
  let s := PM.needs [[61]] s
  let (b, s) := PM.column s
  ((j, [a, b]), s)
 else (([], []), s)
def po (s : PS) : (List Ex × Bool) × PS :=
 if PM.is [111, 114, 100, 101, 114] s then
  let s := PM.needs [[98, 121]] (PM.skip s)
  let (c, s) := PM.column s
  let (d, s) := PM.skips [100, 101, 115, 99] s
  (([c], d), s)
 else (([], false), s)
def ps (n : Nat) (s : PS) : St × PS :=
 let (items, s) := if PM.is [42] s then ([], PM.skip s) else PM.list PM.item s
 let s := PM.needs [[102, 114, 111, 109]] s
 let (table, s) := PM.name s
 let (j, s) := pj s
 let (wh, s) := PM.wheres n s
 let (o, s) := po s
 (.mk 6 table [] [] [] [] items j.1 j.2 wh o.1 o.2 [], s)
theorem ps_eq (n : Nat) (s : PS) : PM.selects n s = ps n s := by
 unfold PM.selects ps
 generalize (if PM.is [42] s then ([], PM.skip s) else PM.list PM.item s) = a
 obtain ⟨its, s1⟩ := a
 dsimp only
 generalize PM.name (PM.needs [[102, 114, 111, 109]] s1) = a
 obtain ⟨t, s2⟩ := a
 dsimp only
 unfold pj po
 by_cases hj : PM.is [106, 111, 105, 110] s2 = true
 ·rw [if_pos hj, if_pos hj]
  dsimp only
  split <;> rfl
 ·rw [if_neg hj, if_neg hj]
  dsimp only
  split <;> rfl
theorem cor_desc : Cor (PM.skips [100, 101, 115, 99]) (fun _ => desc) := cor_opt [100, 101, 115, 99] (cor_ret true) (cor_ret false)
theorem cor_pj : Cor pj (fun _ => joins) := by
 have h := cor_opt [106, 111, 105, 110] (cor_bnd cor_name fun j => cor_bnd (cor_needs [[111, 110]]) fun _ => cor_bnd cor_column fun a => cor_bnd (cor_needs [[61]]) fun _ => cor_bnd cor_column fun b => cor_ret (j, [a, b])) (cor_ret (([] : B), ([] : List Ex)))
 exact h
theorem cor_po : Cor po (fun _ => orders) := by
 have h := cor_opt [111, 114, 100, 101, 114] (cor_bnd (cor_needs [[98, 121]]) fun _ => cor_bnd cor_column fun c => cor_bnd cor_desc fun d => cor_ret ([c], d)) (cor_ret (([] : List Ex), false))
 exact h
theorem cor_items : Cor (fun s => if PM.is [42] s then ([], PM.skip s) else PM.list PM.item s) (fun _ => items) := by
 have h := cor_opt [42] (cor_ret ([] : List It)) (cor_list cor_item)
 exact h
theorem cor_selects (n : Nat) : Cor (PM.selects n) (selects n) := by
 refine cor_eq ?_ (ps_eq n)
 have h := cor_bnd cor_items fun its => cor_bnd (cor_needs [[102, 114, 111, 109]]) fun _ => cor_bnd cor_name fun t => cor_bnd cor_pj fun j => cor_bnd (cor_wheres n) fun wh => cor_bnd cor_po fun o => cor_ret (St.mk 6 t [] [] [] [] its j.1 j.2 wh o.1 o.2 [])
 exact h
def pins (n : Nat) (s : PS) : St × PS :=
 let s := PM.needs [[105, 110, 116, 111]] s
 let (t, s) := PM.name s
 let s := PM.needs [[118, 97, 108, 117, 101, 115], [40]] s
 let (vs, s) := PM.list (PM.expr n) s
 (.mk 5 t [] [] [] vs [] [] [] [] [] false [], PM.needs [[41]] s)
def pupd (n : Nat) (s : PS) : St × PS :=
 let (t, s) := PM.name s
 let s := PM.needs [[115, 101, 116]] s
 let (m, s) := PM.name s
 let s := PM.needs [[61]] s
 let (x, s) := PM.expr n s
 let (wh, s) := PM.wheres n s
 (.mk 7 t m [] [] [x] [] [] [] wh [] false [], s)
def pdel (n : Nat) (s : PS) : St × PS :=
 let s := PM.needs [[102, 114, 111, 109]] s
 let (t, s) := PM.name s
 let (wh, s) := PM.wheres n s
 (.mk 8 t [] [] [] [] [] [] [] wh [] false [], s)
theorem data_eq (n : Nat) (s : PS) : PM.data n s = (if PM.is [105, 110, 115, 101, 114, 116] s then some (pins n (PM.skip s)) else if PM.is [115, 101, 108, 101, 99, 116] s then some (PM.selects n (PM.skip s)) else if PM.is [117, 112, 100, 97, 116, 101] s then some (pupd n (PM.skip s)) else if PM.is [100, 101, 108, 101, 116, 101] s then some (pdel n (PM.skip s)) else none) := rfl
theorem cor_ins (n : Nat) : Cor (pins n) (inserts n) := by
 have h := cor_bnd (cor_needs [[105, 110, 116, 111]]) fun _ => cor_bnd cor_name fun t => cor_bnd (cor_needs [[118, 97, 108, 117, 101, 115], [40]]) fun _ => cor_bnd (cor_list (cor_expr n)) fun vs => cor_bnd (cor_needs [[41]]) fun _ => cor_ret (St.mk 5 t [] [] [] vs [] [] [] [] [] false [])
 exact h
theorem cor_upd (n : Nat) : Cor (pupd n) (updates n) := by
 have h := cor_bnd cor_name fun t => cor_bnd (cor_needs [[115, 101, 116]]) fun _ => cor_bnd cor_name fun m => cor_bnd (cor_needs [[61]]) fun _ => cor_bnd (cor_expr n) fun x => cor_bnd (cor_wheres n) fun wh => cor_ret (St.mk 7 t m [] [] [x] [] [] [] wh [] false [])
 exact h
theorem cor_del (n : Nat) : Cor (pdel n) (deletes n) := by
 have h := cor_bnd (cor_needs [[102, 114, 111, 109]]) fun _ => cor_bnd cor_name fun t => cor_bnd (cor_wheres n) fun wh => cor_ret (St.mk 8 t [] [] [] [] [] [] [] wh [] false [])
 exact h
theorem cor_data {f : PS -> St × PS} {els : Int -> P St} (n : Nat) (h : Cor f els) :
  Cor (fun s => match PM.data n s with | some r => r | none => f s) (fun d => opt [105, 110, 115, 101, 114, 116] (inserts n d) (opt [115, 101, 108, 101, 99, 116] (selects n d) (opt [117, 112, 100, 97, 116, 101] (updates n d) (opt [100, 101, 108, 101, 116, 101] (deletes n d) (els d))))) := by
 refine cor_eq (cor_opt [105, 110, 115, 101, 114, 116] (cor_ins n) (cor_opt [115, 101, 108, 101, 99, 116] (cor_selects n) (cor_opt [117, 112, 100, 97, 116, 101] (cor_upd n) (cor_opt [100, 101, 108, 101, 116, 101] (cor_del n) h)))) fun s => ?_
 rw [data_eq]
 by_cases h1 : PM.is [105, 110, 115, 101, 114, 116] s = true
 ·simp only [if_pos h1]
 ·simp only [if_neg h1]
  by_cases h2 : PM.is [115, 101, 108, 101, 99, 116] s = true
  ·simp only [if_pos h2]
  ·simp only [if_neg h2]
   by_cases h3 : PM.is [117, 112, 100, 97, 116, 101] s = true
   ·simp only [if_pos h3]
   ·simp only [if_neg h3]
    by_cases h4 : PM.is [100, 101, 108, 101, 116, 101] s = true
    ·simp only [if_pos h4]
    ·simp only [if_neg h4]
theorem is_two {w v : B} {s : PS} (h : PM.is w s = true) (hv : (w == v) = false) : PM.is v s = false := by
 unfold PM.is at h ⊢
 simp only [Bool.and_eq_true, beq_iff_eq] at h
 rw [h.2, hv, Bool.and_false]
def psel (n : Nat) (s : PS) : St × PS := if PM.is [115, 101, 108, 101, 99, 116] s then PM.selects n (PM.skip s) else (.zero, PM.fails 5 s)
def pwr (n : Nat) (s : PS) : St × PS := if PM.is [105, 110, 115, 101, 114, 116] s then pins n (PM.skip s) else if PM.is [117, 112, 100, 97, 116, 101] s then pupd n (PM.skip s) else if PM.is [100, 101, 108, 101, 116, 101] s then pdel n (PM.skip s) else (.zero, PM.fails 5 s)
theorem cor_psel (n : Nat) : Cor (psel n) (fun d => opt [115, 101, 108, 101, 99, 116] (selects n d) (err 5)) := cor_opt [115, 101, 108, 101, 99, 116] (cor_selects n) (cor_err St.zero 5 (by decide))
theorem cor_pwr (n : Nat) : Cor (pwr n) (fun d => writes n d (err 5)) := cor_opt [105, 110, 115, 101, 114, 116] (cor_ins n) (cor_opt [117, 112, 100, 97, 116, 101] (cor_upd n) (cor_opt [100, 101, 108, 101, 116, 101] (cor_del n) (cor_err St.zero 5 (by decide))))
theorem cor_tags : Cor (fun s => if s.now.kind = 3 then PM.list PM.tag s else ([], s)) (fun _ => tags) := cor_dec (fun t => t.kind = 3) (cor_list cor_tag) (cor_ret [])
def pd (kind : Int) (inn : PS -> St × PS) (s : PS) : St × PS :=
 let (m, s) := PM.name s
 let s := PM.needs [[115, 116, 114, 105, 112]] s
 let (tags, s) := if s.now.kind = 3 then PM.list PM.tag s else ([], s)
 let s := PM.needs [[97, 115]] s
 let (st, s) := inn s
 (doorSt kind m tags st, s)
theorem cor_pd (kind : Int) {inn : PS -> St × PS} {c : Int -> P St} (h : Cor inn c) : Cor (pd kind inn) (fun d => door kind (c d)) := by
 have h := cor_bnd cor_name fun m => cor_bnd (cor_needs [[115, 116, 114, 105, 112]]) fun _ => cor_bnd cor_tags fun ts => cor_bnd (cor_needs [[97, 115]]) fun _ => cor_bnd h fun st => cor_ret (doorSt kind m ts st)
 exact h
def Like {α : Type} (f g : PS -> α × PS) : Prop := ∀ s, (f s).2 = (g s).2 /\ ((f s).2.e = 0 -> f s = g s)
theorem cor_like {α : Type} {f g : PS -> α × PS} {c : Int -> P α} (h : Cor g c) (e : Like f g) : Cor f c := fun s => by
 obtain ⟨h1, h2⟩ := h s
 obtain ⟨e1, e2⟩ := e s
 refine ⟨fun x => by rw [e1]; exact h1 x, fun x => ?_⟩
 have h2 := h2 x
 cases hc : c s.deep s.l with
 |error r =>
  rw [hc] at h2
  obtain ⟨q, y⟩ := r
  show (f s).2.e = y /\ (f s).2.pos = q /\ y ≠ 0
  rw [e1]
  exact h2
 |ok r =>
  rw [hc] at h2
  obtain ⟨a, l⟩ := r
  have h2 : g s = (a, { s with l := l }) := h2
  show f s = (a, { s with l := l })
  rw [<- h2]
  exact e2 (by rw [e1, h2]; exact x)
theorem like_view (n : Nat) : Like (PM.door n 3 [[115, 101, 108, 101, 99, 116]]) (pd 3 (psel n)) := fun s => by
 unfold PM.door pd
 rcases PM.name s with ⟨m, s1⟩
 simp only []
 rcases (if (PM.needs [[115, 116, 114, 105, 112]] s1).now.kind = 3 then PM.list PM.tag (PM.needs [[115, 116, 114, 105, 112]] s1) else ([], PM.needs [[115, 116, 114, 105, 112]] s1)) with ⟨ts, s2⟩
 simp only [List.any_cons, List.any_nil, Bool.or_false]
 generalize PM.needs [[97, 115]] s2 = s3
 unfold psel
 by_cases h : PM.is [115, 101, 108, 101, 99, 116] s3 = true
 ·have hi : ¬ PM.is [105, 110, 115, 101, 114, 116] s3 = true := by rw [is_two h (by decide)]; decide
  rw [data_eq, if_neg hi, if_pos h, if_pos h, if_pos h]
  exact ⟨rfl, fun _ => rfl⟩
 ·rw [if_neg h, if_neg h]
  refine ⟨rfl, fun e => ?_⟩
  exfalso
  have e : (PM.fails 5 s3).e = 0 := e
  unfold PM.fails at e
  split at e
  ·cases e
  ·exact absurd e (by assumption)
theorem like_closure (n : Nat) : Like (PM.door n 4 [[105, 110, 115, 101, 114, 116], [117, 112, 100, 97, 116, 101], [100, 101, 108, 101, 116, 101]]) (pd 4 (pwr n)) := fun s => by
 unfold PM.door pd
 rcases PM.name s with ⟨m, s1⟩
 simp only []
 rcases (if (PM.needs [[115, 116, 114, 105, 112]] s1).now.kind = 3 then PM.list PM.tag (PM.needs [[115, 116, 114, 105, 112]] s1) else ([], PM.needs [[115, 116, 114, 105, 112]] s1)) with ⟨ts, s2⟩
 simp only [List.any_cons, List.any_nil, Bool.or_false, Bool.or_eq_true]
 generalize PM.needs [[97, 115]] s2 = s3
 unfold pwr
 by_cases h : PM.is [105, 110, 115, 101, 114, 116] s3 = true
 ·rw [data_eq, if_pos h, if_pos (Or.inl h), if_pos h]
  exact ⟨rfl, fun _ => rfl⟩
 ·by_cases h2 : PM.is [117, 112, 100, 97, 116, 101] s3 = true
  ·have hs : ¬ PM.is [115, 101, 108, 101, 99, 116] s3 = true := by rw [is_two h2 (by decide)]; decide
   rw [data_eq, if_neg h, if_neg hs, if_pos h2, if_pos (Or.inr (Or.inl h2)), if_neg h, if_pos h2]
   exact ⟨rfl, fun _ => rfl⟩
  ·by_cases h3 : PM.is [100, 101, 108, 101, 116, 101] s3 = true
   ·have hs : ¬ PM.is [115, 101, 108, 101, 99, 116] s3 = true := by rw [is_two h3 (by decide)]; decide
    rw [data_eq, if_neg h, if_neg hs, if_neg h2, if_pos h3, if_pos (Or.inr (Or.inr h3)), if_neg h, if_neg h2, if_pos h3]
    exact ⟨rfl, fun _ => rfl⟩
   ·rw [if_neg h, if_neg h2, if_neg h3, if_neg (by rintro (x | x | x) <;> contradiction)]
    refine ⟨rfl, fun e => ?_⟩
    exfalso
    have e : (PM.fails 5 s3).e = 0 := e
    unfold PM.fails at e
    split at e
    ·cases e
    ·exact absurd e (by assumption)
theorem cor_create (n : Nat) : Cor (PM.create n) (create n) := by
 have h := cor_opt [116, 97, 98, 108, 101] (cor_bnd cor_name fun m => cor_bnd (cor_needs [[40]]) fun _ => cor_bnd (cor_list cor_col) fun cs => cor_bnd (cor_needs [[41]]) fun _ => cor_ret (St.mk 1 [] m cs [] [] [] [] [] [] [] false []))
  (cor_opt [105, 110, 100, 101, 120] (cor_bnd (cor_needs [[111, 110]]) fun _ => cor_bnd cor_name fun t => cor_bnd (cor_needs [[40]]) fun _ => cor_bnd cor_name fun m => cor_bnd (cor_needs [[41]]) fun _ => cor_ret (St.mk 2 t m [] [] [] [] [] [] [] [] false []))
   (cor_opt [118, 105, 101, 119] (cor_like (cor_pd 3 (cor_psel n)) (like_view n)) (cor_opt [99, 108, 111, 115, 117, 114, 101] (cor_like (cor_pd 4 (cor_pwr n)) (like_closure n)) (cor_err St.zero 5 (by decide)))))
 exact h
theorem cor_rest : Cor (fun s => if PM.is [114, 97, 105, 115, 101] s then
    let (tags, s) := PM.list PM.tag (PM.skip s)
    (St.mk 12 [] [] [] tags [] [] [] [] [] [] false [], s)
   else if PM.is [99, 97, 108, 108] s then
    let (m, s) := PM.name (PM.skip s)
    (.mk 13 [] m [] [] [] [] [] [] [] [] false [], s)
   else if PM.is [98, 101, 103, 105, 110] s then (.ofKind 9, PM.skip s)
   else if PM.is [99, 111, 109, 109, 105, 116] s then (.ofKind 10, PM.skip s)
   else if PM.is [114, 111, 108, 108, 98, 97, 99, 107] s then (.ofKind 11, PM.skip s)
   else (.zero, PM.fails 5 s)) (fun _ => rest) := by
 have h := cor_opt [114, 97, 105, 115, 101] (cor_bnd (cor_list cor_tag) fun ts => cor_ret (St.mk 12 [] [] [] ts [] [] [] [] [] [] false [])) (cor_opt [99, 97, 108, 108] (cor_bnd cor_name fun m => cor_ret (St.mk 13 [] m [] [] [] [] [] [] [] [] false [])) (cor_opt [98, 101, 103, 105, 110] (cor_ret (.ofKind 9)) (cor_opt [99, 111, 109, 109, 105, 116] (cor_ret (.ofKind 10)) (cor_opt [114, 111, 108, 108, 98, 97, 99, 107] (cor_ret (.ofKind 11)) (cor_err St.zero 5 (by decide))))))
 exact h
theorem cor_stmt (n : Nat) : Cor (PM.stmt n) (stmt n) := cor_opt [99, 114, 101, 97, 116, 101] (cor_create n) (cor_data n cor_rest)
theorem parse_eq (S : B) : PM.parse S = parse S := by
 unfold PM.parse parse
 cases LexM.lex S with
 |inl x => rfl
 |inr l =>
  obtain ⟨_, h⟩ := cor_stmt l.length ⟨l, 0, 0, 0⟩
  have h := h rfl
  simp only []
  unfold parseL
  change Meets _ _ (stmt l.length 0 l) at h
  cases hs : stmt l.length 0 l with
  |error r =>
   obtain ⟨q, x⟩ := r
   rw [hs] at h
   obtain ⟨h1, h2, h3⟩ := h
   generalize PM.stmt l.length ⟨l, 0, 0, 0⟩ = r at h1 h2
   obtain ⟨st, s⟩ := r
   simp only [] at h1 h2 ⊢
   have he : (if s.now.kind ≠ 6 then PM.fails 5 s else s) = s := by
    split
    ·exact fails1 (by rw [h1]; exact h3) 5
    ·rfl
   rw [he, h1, h2, if_pos h3]
   rfl
  |ok r =>
   obtain ⟨st, l'⟩ := r
   rw [hs] at h
   have h : PM.stmt l.length ⟨l, 0, 0, 0⟩ = (st, ⟨l', 0, 0, 0⟩) := h
   rw [h]
   simp only [ends]
   by_cases h6 : (now l').kind = 6
   ·rw [if_pos h6, if_neg (show ¬ (PS.now ⟨l', 0, 0, 0⟩).kind ≠ 6 from fun x => x h6), if_neg (fun x => x rfl)]
   ·rw [if_neg h6, if_pos (show (PS.now ⟨l', 0, 0, 0⟩).kind ≠ 6 from h6)]
    rfl
end CM
end Go.Proofs.YtmdnhinpaflamaaGreatDoor
namespace Go.Proofs.YtmdnhinpaflamaaGreatDoor
open Go.RowKit
namespace Pc
open LexM (Tok)
abbrev B := List UInt8
def digs (n : Nat) : List UInt8 := if n = 0 then [] else Lib.decDigits n
theorem dec_step (n : Nat) : Lib.decDigits n = digs (n / 10) ++ [UInt8.ofNat (48 + n % 10)] := by
 rw [Lib.decDigits]
 unfold digs
 split
 ·rename_i h
  rw [if_pos (by omega), Nat.mod_eq_of_lt h]; rfl
 ·rw [if_neg (by omega)]
def quo : B -> B
 |[] => []
 |c :: r => if c = 39 then 39 :: 39 :: quo r else c :: quo r
def good (c : UInt8) : Bool := decide (32 <= c.toNat) && decide (c.toNat <= 126)
inductive Pc where
 |name (t : B)
 |word (t : B)
 |num (v : Nat)
 |text (t : B)
 |sign (t : B)
def Pc.bytes : Pc -> B
 |.name t => t
 |.word t => t
 |.num v => Lib.decDigits v
 |.text t => 39 :: (quo t ++ [39])
 |.sign t => t
def Pc.tok (q : Nat) : Pc -> Tok
 |.name t => ⟨1, t, 0, q⟩
 |.word t => ⟨2, t, 0, q⟩
 |.num v => ⟨3, [], v, q⟩
 |.text t => ⟨4, t, 0, q⟩
 |.sign t => ⟨5, t, 0, q⟩
def okName (t : B) : Bool := LexM.letter (t.headD 0) && t.all LexM.nameByte && !LexM.words.contains t && decide (t.length <= 16)
def okText (t : B) : Bool := t.all good && decide (t.length <= 30)
def signL : List B := [[40], [41], [44], [46], [61], [60], [62], [43], [45], [42], [60, 62], [60, 61], [62, 61]]
def Pc.ok : Pc -> Bool
 |.name t => okName t
 |.word t => LexM.words.contains t
 |.num v => decide (v <= 9223372036854775807)
 |.text t => okText t
 |.sign t => signL.contains t
def Pc.stops (x : UInt8) : Pc -> Bool
 |.name _ => !LexM.nameByte x
 |.word _ => !LexM.nameByte x
 |.num _ => !LexM.nameByte x
 |.text _ => x != 39
 |.sign t => !((t == [60] && (x == 62 || x == 61)) || (t == [62] && x == 61))
abbrev Line := List (Nat × Pc)
def blanks (n : Nat) : B := List.replicate n 32
def render : Line -> B
 |[] => []
 |(g, c) :: L => blanks g ++ (c.bytes ++ render L)
def toks (q : Nat) : Line -> List Tok
 |[] => []
 |(g, c) :: L => c.tok (q + g) :: toks (q + g + c.bytes.length) L
def first : Line -> UInt8
 |(0, c) :: _ => c.bytes.headD 0
 |_ => 0
def fits : Line -> Bool
 |[] => true
 |(_, c) :: L => c.ok && c.stops (first L) && fits L
end Pc
end Go.Proofs.YtmdnhinpaflamaaGreatDoor
namespace Go.Proofs.YtmdnhinpaflamaaGreatDoor
open Go.RowKit
namespace CM
open LexM (Tok)
open PM (B Ex Col It St PS zeroTok wordy two un colEx opOr opAnd opSum opTerm opComp)
open Pc (Pc Line okName okText)
inductive Pr where
 |int (v : Nat)
 |text (t : B)
 |col (n : B)
 |tcol (t n : B)
 |neg (a : Pr)
 |not (a : Pr)
 |bin (o : Nat) (a b : Pr)
def Pr.ex : Pr -> Ex
 |.int v => .mk 1 1 v [] [] [] []
 |.text t => .mk 1 2 0 t [] [] []
 |.col n => colEx [] n
 |.tcol t n => colEx t n
 |.neg a => un 3 a.ex
 |.not a => un 4 a.ex
 |.bin o a b => two (5 + o) a.ex b.ex
def Pr.ok : Pr -> Bool
 |.int v => decide (v <= 9223372036854775807)
 |.text t => okText t
 |.col n => okName n
 |.tcol t n => okName t && okName n
 |.neg a => a.ok
 |.not a => a.ok
 |.bin o a b => decide (o < 11) && a.ok && b.ok
def Pr.nest : Pr -> Nat
 |.neg a => a.nest + 2
 |.not a => a.nest + 2
 |.bin _ a b => max a.nest b.nest + 1
 |_ => 0
def opPc (o : Nat) : Pc :=
 match o with
 |0 => .sign [43] | 1 => .sign [45] | 2 => .sign [42] | 3 => .sign [61] | 4 => .sign [60, 62] | 5 => .sign [60] | 6 => .sign [60, 61] | 7 => .sign [62] | 8 => .sign [62, 61] | 9 => .word [97, 110, 100] | _ => .word [111, 114]
def Pr.line (g : Nat) : Pr -> Line
 |.int v => [(g, .num v)]
 |.text t => [(g, .text t)]
 |.col n => [(g, .name n)]
 |.tcol t n => [(g, .name t), (0, .sign [46]), (0, .name n)]
 |.neg a => (g, .sign [40]) :: (0, .sign [45]) :: (a.line 0 ++ [(0, .sign [41])])
 |.not a => (g, .sign [40]) :: (0, .word [110, 111, 116]) :: (a.line 1 ++ [(0, .sign [41])])
 |.bin o a b => (g, .sign [40]) :: (a.line 0 ++ (1, opPc o) :: (b.line 1 ++ [(0, .sign [41])]))
def keys (L : Line) : List Pc := L.map (·.2)
theorem keys_app (a b : Line) : keys (a ++ b) = keys a ++ keys b := List.map_append ..
theorem keys_gap (g h : Nat) (p : Pr) : keys (p.line g) = keys (p.line h) := by cases p <;> rfl
def Starts : List Pc -> List Tok -> List Tok -> Prop
 |[], l, r => l = r
 |c :: cs, l, r => ∃ q l', l = c.tok q :: l' /\ Starts cs l' r
theorem starts_app : ∀ {a b : List Pc} {l r : List Tok}, Starts (a ++ b) l r -> ∃ m, Starts a l m /\ Starts b m r
 |[], _, l, _, h => ⟨l, rfl, h⟩
 |_ :: _, _, _, _, h => by
  obtain ⟨q, l', h1, h2⟩ := h
  obtain ⟨m, h3, h4⟩ := starts_app h2
  exact ⟨m, ⟨q, l', h1, h3⟩, h4⟩
theorem starts_toks : ∀ (L : Line) (p : Nat) (r : List Tok), Starts (keys L) (Pc.toks p L ++ r) r
 |[], _, _ => rfl
 |(g, _) :: L, p, r => ⟨p + g, _, rfl, starts_toks L _ r⟩
def mark : Pc -> Option B
 |.word t => some t
 |.sign t => some t
 |_ => none
theorem is_mark (c : Pc) (q : Nat) (l : List Tok) (w : B) : is w (c.tok q :: l) = (match mark c with | some t => t == w | none => false) := by
 cases c <;> rfl
theorem is_no {c : Pc} (h : mark c = none) (w : B) (q : Nat) (l : List Tok) : ¬ is w (c.tok q :: l) = true := by rw [is_mark, h]; exact Bool.false_ne_true
theorem sign_mark (c : Pc) (q : Nat) (l : List Tok) : sign (c.tok q :: l) = (mark c).getD [] := by
 cases c <;> rfl
structure Free (r : List Tok) : Prop where
 dot : is [46] r = false
 term : opTerm (sign r) = none
 sum : opSum (sign r) = none
 comp : opComp (sign r) = none
 and : opAnd (sign r) = none
 or : opOr (sign r) = none
theorem free_mark {c : Pc} {q : Nat} {l : List Tok} {t : B} (h : mark c = some t) (hd : (t == [46]) = false) (h1 : opTerm t = none) (h2 : opSum t = none) (h3 : opComp t = none) (h4 : opAnd t = none) (h5 : opOr t = none) : Free (c.tok q :: l) := by
 refine ⟨by rw [is_mark, h]; exact hd, ?_, ?_, ?_, ?_, ?_⟩ <;> rw [sign_mark, h] <;> assumption
theorem free_close (q : Nat) (l : List Tok) : Free ((Pc.sign [41]).tok q :: l) := free_mark rfl rfl rfl rfl rfl rfl rfl
theorem free_comma (q : Nat) (l : List Tok) : Free ((Pc.sign [44]).tok q :: l) := free_mark rfl rfl rfl rfl rfl rfl rfl
theorem bnd_ok {α β : Type} {f : P α} {g : α -> P β} {l m : List Tok} {a : α} (h : f l = .ok (a, m)) : bnd f g l = g a m := by
 unfold bnd; rw [h]
theorem opt_yes {α : Type} {w : B} {f g : P α} {l : List Tok} (h : is w l = true) : opt w f g l = f l.tail := if_pos h
theorem opt_no {α : Type} {w : B} {f g : P α} {l : List Tok} (h : is w l = false) : opt w f g l = g l := if_neg (by rw [h]; decide)
theorem need_ok {c : Pc} {w : B} (h : mark c = some w) (q : Nat) (l : List Tok) : need w (c.tok q :: l) = .ok ((), l) := by
 unfold need
 rw [opt_yes (by rw [is_mark, h]; simp)]
 rfl
theorem needs_one {c : Pc} {w : B} (h : mark c = some w) (q : Nat) (l : List Tok) : needs [w] (c.tok q :: l) = .ok ((), l) := by
 show bnd (need w) _ _ = _
 rw [bnd_ok (need_ok h q l)]
 rfl
theorem name_ok (n : B) (q : Nat) (l : List Tok) : name ((Pc.name n).tok q :: l) = .ok (n, l) := rfl
theorem column_one {n : B} {q : Nat} {l : List Tok} (h : is [46] l = false) : column ((Pc.name n).tok q :: l) = .ok (colEx [] n, l) := by
 unfold column
 rw [bnd_ok (name_ok n q l), opt_no h]
 rfl
theorem column_two {t n : B} {l r : List Tok} (h : Starts [.name t, .sign [46], .name n] l r) : column l = .ok (colEx t n, r) := by
 obtain ⟨q, l1, rfl, q2, l2, rfl, q3, l3, rfl, rfl⟩ := h
 unfold column
 rw [bnd_ok (name_ok t q _), opt_yes (by rw [is_mark]; rfl)]
 rfl
theorem rows_one {one : P Ex} {ops : B -> Option Int} {l r : List Tok} {x : Ex} (h : one l = .ok (x, r)) (hr : ops (sign r) = none) : rows one ops l = .ok (x, r) := by
 unfold rows
 rw [bnd_ok h]
 cases r.length with
 |zero => rfl
 |succ f =>
  show (match ops (sign r) with | none => _ | some _ => _) = _
  rw [hr]
theorem rows_two {one : P Ex} {ops : B -> Option Int} {l r : List Tok} {x y : Ex} {c : Pc} {q : Nat} {m : List Tok} {op : Int} (h : one l = .ok (x, c.tok q :: m)) (hm : ops ((mark c).getD []) = some op) (hy : one m = .ok (y, r)) (hr : ops (sign r) = none) :
  rows one ops l = .ok (two op x y, r) := by
 unfold rows
 rw [bnd_ok h]
 show (match ops (sign (c.tok q :: m)) with | none => _ | some _ => _) = _
 rw [sign_mark, hm]
 show bnd one _ m = _
 rw [bnd_ok hy]
 cases m.length with
 |zero => rfl
 |succ f =>
  show (match ops (sign r) with | none => _ | some _ => _) = _
  rw [hr]
theorem sum_one {u : P Ex} {l r : List Tok} {x : Ex} (h : u l = .ok (x, r)) (h1 : opTerm (sign r) = none) (h2 : opSum (sign r) = none) : sumF u l = .ok (x, r) := rows_one (rows_one h h1) h2
theorem comp_of {u : P Ex} {l r : List Tok} {x : Ex} (h : sumF u l = .ok (x, r)) (h3 : opComp (sign r) = none) : compF u l = .ok (x, r) := by
 unfold compF
 rw [bnd_ok h]
 show (match opComp (sign r) with | none => _ | some _ => _) = _
 rw [h3]
theorem not_of {u nt : Int -> P Ex} {d : Int} {l r : List Tok} {x : Ex} (hn : is [110, 111, 116] l = false) (h : compF (u d) l = .ok (x, r)) : notF u nt d l = .ok (x, r) := by
 unfold notF
 rw [if_neg (by rw [hn]; decide)]
 exact h
theorem expr_of {nt : P Ex} {l r : List Tok} {x : Ex} (h : nt l = .ok (x, r)) (h4 : opAnd (sign r) = none) (h5 : opOr (sign r) = none) : exprF nt l = .ok (x, r) := rows_one (rows_one h h4) h5
theorem expr_one {u nt : Int -> P Ex} {d : Int} {l r : List Tok} {x : Ex} (hn : is [110, 111, 116] l = false) (h : u d l = .ok (x, r)) (hr : Free r) : exprF (notF u nt d) l = .ok (x, r) :=
 expr_of (not_of hn (comp_of (sum_one h hr.term hr.sum) hr.comp)) hr.and hr.or
theorem expr_two {u nt : Int -> P Ex} {d : Int} {l m r : List Tok} {x y : Ex} {o : Nat} {q q2 : Nat} (ho : o < 11) (hn : is [110, 111, 116] l = false) (h : u d l = .ok (x, (opPc o).tok q :: m)) (hn2 : is [110, 111, 116] m = false) (h2 : u d m = .ok (y, (Pc.sign [41]).tok q2 :: r)) :
  exprF (notF u nt d) l = .ok (two (5 + o) x y, (Pc.sign [41]).tok q2 :: r) := by
 have fr := free_close q2 r
 rcases (by omega : o = 2 \/ (o = 0 \/ o = 1) \/ (o = 3 \/ o = 4 \/ o = 5 \/ o = 6 \/ o = 7 \/ o = 8) \/ o = 9 \/ o = 10) with rfl | ho | ho | rfl | rfl
 ·exact expr_of (not_of hn (comp_of (rows_one (rows_two h rfl h2 fr.term) fr.sum) fr.comp)) fr.and fr.or
 ·refine expr_of (not_of hn (comp_of ?_ fr.comp)) fr.and fr.or
  rcases ho with rfl | rfl
  ·exact rows_two (rows_one h (by rw [sign_mark]; rfl)) rfl (rows_one h2 fr.term) fr.sum
  ·exact rows_two (rows_one h (by rw [sign_mark]; rfl)) rfl (rows_one h2 fr.term) fr.sum
 ·refine expr_of (not_of hn ?_) fr.and fr.or
  have h3 := sum_one h2 fr.term fr.sum
  have key : ∀ (c : Pc) (op : Int), u d l = .ok (x, c.tok q :: m) -> opTerm ((mark c).getD []) = none -> opSum ((mark c).getD []) = none -> opComp ((mark c).getD []) = some op -> compF (u d) l = .ok (two op x y, (Pc.sign [41]).tok q2 :: r) := by
   intro c op h h4 h5 h6
   unfold compF
   rw [bnd_ok (sum_one h (by rw [sign_mark]; exact h4) (by rw [sign_mark]; exact h5))]
   show (match opComp (sign (c.tok q :: m)) with | none => _ | some _ => _) = _
   rw [sign_mark, h6]
   show bnd (sumF (u d)) _ m = _
   rw [bnd_ok h3]
   rfl
  rcases ho with rfl | rfl | rfl | rfl | rfl | rfl <;> exact key _ _ h rfl rfl rfl
 ·refine rows_one ?_ fr.or
  exact rows_two (not_of hn (comp_of (sum_one h (by rw [sign_mark]; rfl) (by rw [sign_mark]; rfl)) (by rw [sign_mark]; rfl))) rfl (not_of hn2 (comp_of (sum_one h2 fr.term fr.sum) fr.comp)) fr.and
 ·exact rows_two (rows_one (not_of hn (comp_of (sum_one h (by rw [sign_mark]; rfl) (by rw [sign_mark]; rfl)) (by rw [sign_mark]; rfl))) (by rw [sign_mark]; rfl)) rfl (rows_one (not_of hn2 (comp_of (sum_one h2 fr.term fr.sum) fr.comp)) fr.and) fr.or
theorem starts_not {p : Pr} {l r : List Tok} (h : Starts (keys (p.line 0)) l r) : is [110, 111, 116] l = false := by
 cases p <;> (obtain ⟨q, l', rfl, _⟩ := h; rw [is_mark]; rfl)
theorem nests_ok {c : Pc} {w : B} (hc : mark c = some w) {inn : Int -> P Ex} {d : Int} (hd : d < 64) (q : Nat) (l : List Tok) : nests w inn d (c.tok q :: l) = inn (d + 1) l := by
 unfold nests
 rw [if_neg (by omega), bnd_ok (need_ok hc q l)]
theorem lev_not (n : Nat) : (lev (n + 1)).2 = notF (lev (n + 1)).1 (lev n).2 := rfl
theorem lev_un (n : Nat) : (lev (n + 1)).1 = unaryF (lev n).1 (lev n).2 := rfl
theorem paren_ok {n : Nat} {d : Int} {l m r : List Tok} {x : Ex} {q q2 : Nat} (hd : d < 64) (hl : l = (Pc.sign [40]).tok q :: m) (h : exprF ((lev n).2 (d + 1)) m = .ok (x, (Pc.sign [41]).tok q2 :: r)) : (lev (n + 1)).1 d l = .ok (x, r) := by
 subst hl
 rw [lev_un]
 unfold unaryF
 rw [if_neg (by rw [is_mark]; decide), if_pos (by rw [is_mark]; rfl), nests_ok rfl hd, bnd_ok h, bnd_ok (needs_one rfl q2 r)]
 rfl
theorem unary_ok : ∀ (p : Pr) (n : Nat) (d : Int) (l r : List Tok), p.ok = true -> p.nest < n -> d + p.nest <= 64 -> Starts (keys (p.line 0)) l r -> is [46] r = false -> (lev n).1 d l = .ok (p.ex, r)
 |p, 0, d, l, r, _, hn, _, _, _ => absurd hn (Nat.not_lt_zero _)
 |.int v, n + 1, d, l, r, _, _, _, h, _ => by
  obtain ⟨q, l1, rfl, rfl⟩ := h
  show unaryF (lev n).1 (lev n).2 d ((Pc.num v).tok q :: l1) = _
  unfold unaryF
  rw [if_neg (is_no rfl _ _ _), if_neg (is_no rfl _ _ _), if_pos (show (now ((Pc.num v).tok q :: l1)).kind = 3 from rfl)]
  rfl
 |.text t, n + 1, d, l, r, _, _, _, h, _ => by
  obtain ⟨q, l1, rfl, rfl⟩ := h
  show unaryF (lev n).1 (lev n).2 d ((Pc.text t).tok q :: l1) = _
  unfold unaryF
  rw [if_neg (is_no rfl _ _ _), if_neg (is_no rfl _ _ _), if_neg (show ¬ (now ((Pc.text t).tok q :: l1)).kind = 3 from fun e => absurd (show (4 : Int) = 3 from e) (by decide)), if_pos (show (now ((Pc.text t).tok q :: l1)).kind = 4 from rfl)]
  rfl
 |.col m, n + 1, d, l, r, _, _, _, h, hr => by
  obtain ⟨q, l1, rfl, rfl⟩ := h
  show unaryF (lev n).1 (lev n).2 d ((Pc.name m).tok q :: l1) = _
  unfold unaryF
  rw [if_neg (is_no rfl _ _ _), if_neg (is_no rfl _ _ _), if_neg (show ¬ (now ((Pc.name m).tok q :: l1)).kind = 3 from fun e => absurd (show (1 : Int) = 3 from e) (by decide)), if_neg (show ¬ (now ((Pc.name m).tok q :: l1)).kind = 4 from fun e => absurd (show (1 : Int) = 4 from e) (by decide))]
  exact column_one hr
 |.tcol t m, n + 1, d, l, r, _, _, _, h, _ => by
  have h' : Starts [.name t, .sign [46], .name m] l r := h
  obtain ⟨q, l1, rfl, h2⟩ := h
  show unaryF (lev n).1 (lev n).2 d ((Pc.name t).tok q :: l1) = _
  unfold unaryF
  rw [if_neg (is_no rfl _ _ _), if_neg (is_no rfl _ _ _), if_neg (show ¬ (now ((Pc.name t).tok q :: l1)).kind = 3 from fun e => absurd (show (1 : Int) = 3 from e) (by decide)), if_neg (show ¬ (now ((Pc.name t).tok q :: l1)).kind = 4 from fun e => absurd (show (1 : Int) = 4 from e) (by decide))]
  exact column_two h'
 |.neg a, n + 1, d, l, r, ho, hn, hd, h, _ => by
  simp only [Pr.nest] at hn hd
  obtain ⟨n', rfl⟩ : ∃ n', n = n' + 1 := ⟨n - 1, by omega⟩
  obtain ⟨n', rfl⟩ : ∃ n'', n' = n'' + 1 := ⟨n' - 1, by omega⟩
  obtain ⟨q, l1, rfl, q2, l2, rfl, h⟩ := h
  change Starts (keys (a.line 0 ++ [(0, .sign [41])])) l2 r at h
  rw [keys_app] at h
  obtain ⟨m, h1, q3, l3, rfl, rfl⟩ := starts_app h
  refine paren_ok (by omega) rfl ?_ (q2 := q3)
  rw [lev_not]
  refine expr_one (by rw [is_mark]; rfl) ?_ (free_close q3 l3)
  rw [lev_un]
  unfold unaryF
  rw [if_pos (by rw [is_mark]; rfl), nests_ok rfl (by omega)]
  rw [bnd_ok (unary_ok a (n' + 1) (d + 1 + 1) l2 _ ho (by omega) (by omega) h1 (free_close q3 l3).dot)]
  rfl
 |.not a, n + 1, d, l, r, ho, hn, hd, h, _ => by
  simp only [Pr.nest] at hn hd
  obtain ⟨n', rfl⟩ : ∃ n', n = n' + 1 := ⟨n - 1, by omega⟩
  obtain ⟨n', rfl⟩ : ∃ n'', n' = n'' + 1 := ⟨n' - 1, by omega⟩
  obtain ⟨q, l1, rfl, q2, l2, rfl, h⟩ := h
  change Starts (keys (a.line 1 ++ [(0, .sign [41])])) l2 r at h
  rw [keys_app, keys_gap 1 0] at h
  obtain ⟨m, h1, q3, l3, rfl, rfl⟩ := starts_app h
  refine paren_ok (by omega) rfl ?_ (q2 := q3)
  have fr := free_close q3 l3
  refine expr_of ?_ fr.and fr.or
  rw [lev_not]
  unfold notF
  rw [if_pos (by rw [is_mark]; rfl), nests_ok rfl (by omega), lev_not]
  rw [bnd_ok (not_of (starts_not h1) (comp_of (sum_one (unary_ok a (n' + 1) (d + 1 + 1) l2 _ ho (by omega) (by omega) h1 fr.dot) fr.term fr.sum) fr.comp))]
  rfl
 |.bin o a b, n + 1, d, l, r, ho, hn, hd, h, _ => by
  simp only [Pr.nest] at hn hd
  simp only [Pr.ok, Bool.and_eq_true, decide_eq_true_eq] at ho
  obtain ⟨⟨ho, hoa⟩, hob⟩ := ho
  have m1 := Nat.le_max_left a.nest b.nest
  have m2 := Nat.le_max_right a.nest b.nest
  obtain ⟨n', rfl⟩ : ∃ n', n = n' + 1 := ⟨n - 1, by omega⟩
  obtain ⟨q, l1, rfl, h⟩ := h
  change Starts (keys (a.line 0 ++ (1, opPc o) :: (b.line 1 ++ [(0, .sign [41])]))) l1 r at h
  rw [keys_app] at h
  obtain ⟨m, h1, q2, l2, rfl, h⟩ := starts_app h
  change Starts (keys (b.line 1 ++ [(0, .sign [41])])) l2 r at h
  rw [keys_app, keys_gap 1 0] at h
  obtain ⟨m, h2, q3, l3, rfl, rfl⟩ := starts_app h
  refine paren_ok (by omega) rfl ?_ (q2 := q3)
  rw [lev_not]
  have hdot : is [46] ((opPc o).tok q2 :: l2) = false := by
   rw [is_mark]
   rcases (by omega : o = 0 \/ o = 1 \/ o = 2 \/ o = 3 \/ o = 4 \/ o = 5 \/ o = 6 \/ o = 7 \/ o = 8 \/ o = 9 \/ o = 10) with rfl | rfl | rfl | rfl | rfl | rfl | rfl | rfl | rfl | rfl | rfl <;> rfl
  exact expr_two ho (starts_not h1) (unary_ok a (n' + 1) (d + 1) l1 _ hoa (by omega) (by omega) h1 hdot) (starts_not h2) (unary_ok b (n' + 1) (d + 1) l2 _ hob (by omega) (by omega) h2 (free_close q3 l3).dot)
theorem expr_ok (p : Pr) (n : Nat) (d : Int) (g : Nat) (l r : List Tok) (ho : p.ok = true) (hn : p.nest < n) (hd : d + p.nest <= 64) (h : Starts (keys (p.line g)) l r) (hr : Free r) : expr n d l = .ok (p.ex, r) := by
 rw [keys_gap g 0] at h
 obtain ⟨n', rfl⟩ : ∃ n', n = n' + 1 := ⟨n - 1, by omega⟩
 unfold expr
 rw [lev_not]
 exact expr_one (starts_not h) (unary_ok p (n' + 1) d l r ho (by omega) hd h hr.dot) hr
end CM
end Go.Proofs.YtmdnhinpaflamaaGreatDoor
namespace Go.Proofs.YtmdnhinpaflamaaGreatDoor
open Go.RowKit
namespace CM
open LexM (Tok)
open PM (B Ex Col It St PS zeroTok wordy two un colEx opOr opAnd opSum opTerm opComp)
open Pc (Pc Line okName okText)
structure Cl where
 table : B
 name : B
def Cl.ok (c : Cl) : Bool := (c.table.isEmpty || okName c.table) && okName c.name
def Cl.ex (c : Cl) : Ex := colEx c.table c.name
def Cl.line (g : Nat) (c : Cl) : Line := if c.table.isEmpty then [(g, .name c.name)] else [(g, .name c.table), (0, .sign [46]), (0, .name c.name)]
inductive Im where
 |col (c : Cl)
 |count
 |agg (k : Nat) (c : Cl)
def Im.ok : Im -> Bool
 |.col c => c.ok
 |.count => true
 |.agg k c => decide (k < 3) && c.ok
def Im.it : Im -> It
 |.col c => ⟨0, c.table, c.name⟩
 |.count => ⟨1, [], []⟩
 |.agg k c => ⟨2 + k, c.table, c.name⟩
def aggW (k : Nat) : B := match k with | 0 => [115, 117, 109] | 1 => [109, 105, 110] | _ => [109, 97, 120]
def Im.line (g : Nat) : Im -> Line
 |.col c => c.line g
 |.count => [(g, .word [99, 111, 117, 110, 116]), (0, .sign [40]), (0, .sign [42]), (0, .sign [41])]
 |.agg k c => (g, .word (aggW k)) :: (0, .sign [40]) :: (c.line 0 ++ [(0, .sign [41])])
structure Co where
 name : B
 text : Bool
 ref : B
def Co.ok (c : Co) : Bool := okName c.name && (c.ref.isEmpty || okName c.ref)
def Co.col (c : Co) : Col := ⟨c.name, if c.text then 2 else 1, c.ref⟩
def Co.line (g : Nat) (c : Co) : Line := (g, .name c.name) :: (1, .word (if c.text then [116, 101, 120, 116] else [105, 110, 116])) :: (if c.ref.isEmpty then [] else [(1, .word [114, 101, 102]), (1, .name c.ref)])
def lines {α : Type} (f : Nat -> α -> Line) : List α -> Line
 |[] => []
 |x :: r => (0, .sign [44]) :: (f 1 x ++ lines f r)
def Tg (g : Nat) (t : Nat) : Line := [(g, .num t)]
structure Sel where
 items : List Im
 table : B
 join : Option (B × Cl × Cl)
 wher : Option Pr
 order : Option (Cl × Bool)
def okPr (D : Nat) (p : Pr) : Bool := p.ok && decide (p.nest <= D)
def joinN (o : Option (B × Cl × Cl)) : B := match o with | none => [] | some (j, _, _) => j
def joinE (o : Option (B × Cl × Cl)) : List Ex := match o with | none => [] | some (_, a, b) => [a.ex, b.ex]
def orderE (o : Option (Cl × Bool)) : List Ex := match o with | none => [] | some (c, _) => [c.ex]
def orderD (o : Option (Cl × Bool)) : Bool := match o with | none => false | some (_, d) => d
def whE (o : Option Pr) : List Ex := match o with | none => [] | some p => [p.ex]
def okW (D : Nat) (o : Option Pr) : Bool := match o with | none => true | some p => okPr D p
def okJ (o : Option (B × Cl × Cl)) : Bool := match o with | none => true | some (j, a, b) => okName j && a.ok && b.ok
def okO (o : Option (Cl × Bool)) : Bool := match o with | none => true | some (c, _) => c.ok
def Sel.ok (D : Nat) (s : Sel) : Bool := s.items.all Im.ok && okName s.table && okJ s.join && okW D s.wher && okO s.order
def Sel.st (s : Sel) : St := .mk 6 s.table [] [] [] [] (s.items.map Im.it) (joinN s.join) (joinE s.join) (whE s.wher) (orderE s.order) (orderD s.order) []
def itemsL : List Im -> Line
 |[] => [(1, .sign [42])]
 |x :: r => x.line 1 ++ lines Im.line r
def whereL : Option Pr -> Line
 |none => []
 |some p => (1, .word [119, 104, 101, 114, 101]) :: p.line 1
def joinL : Option (B × Cl × Cl) -> Line
 |none => []
 |some (j, a, b) => (1, .word [106, 111, 105, 110]) :: (1, .name j) :: (1, .word [111, 110]) :: (a.line 1 ++ (1, .sign [61]) :: b.line 1)
def orderL : Option (Cl × Bool) -> Line
 |none => []
 |some (c, d) => (1, .word [111, 114, 100, 101, 114]) :: (1, .word [98, 121]) :: (c.line 1 ++ if d then [(1, .word [100, 101, 115, 99])] else [])
def Sel.line (g : Nat) (s : Sel) : Line := (g, .word [115, 101, 108, 101, 99, 116]) :: (itemsL s.items ++ (1, .word [102, 114, 111, 109]) :: (1, .name s.table) :: (joinL s.join ++ (whereL s.wher ++ orderL s.order)))
inductive Wr where
 |insert (t : B) (x : Pr) (r : List Pr)
 |update (t m : B) (x : Pr) (wh : Option Pr)
 |delete (t : B) (wh : Option Pr)
def Wr.ok (D : Nat) : Wr -> Bool
 |.insert t x r => okName t && okPr D x && r.all (okPr D)
 |.update t m x wh => okName t && okName m && okPr D x && okW D wh
 |.delete t wh => okName t && okW D wh
def Wr.st : Wr -> St
 |.insert t x r => .mk 5 t [] [] [] ((x :: r).map Pr.ex) [] [] [] [] [] false []
 |.update t m x wh => .mk 7 t m [] [] [x.ex] [] [] [] (whE wh) [] false []
 |.delete t wh => .mk 8 t [] [] [] [] [] [] [] (whE wh) [] false []
def Wr.line (g : Nat) : Wr -> Line
 |.insert t x r => (g, .word [105, 110, 115, 101, 114, 116]) :: (1, .word [105, 110, 116, 111]) :: (1, .name t) :: (1, .word [118, 97, 108, 117, 101, 115]) :: (0, .sign [40]) :: (x.line 0 ++ (lines (fun g p => p.line g) r ++ [(0, .sign [41])]))
 |.update t m x wh => (g, .word [117, 112, 100, 97, 116, 101]) :: (1, .name t) :: (1, .word [115, 101, 116]) :: (1, .name m) :: (1, .sign [61]) :: (x.line 1 ++ whereL wh)
 |.delete t wh => (g, .word [100, 101, 108, 101, 116, 101]) :: (1, .word [102, 114, 111, 109]) :: (1, .name t) :: whereL wh
inductive Qs where
 |table (m : B) (c : Co) (r : List Co)
 |index (t m : B)
 |view (m : B) (tags : List Nat) (s : Sel)
 |closure (m : B) (tags : List Nat) (s : Wr)
 |select (s : Sel)
 |write (s : Wr)
 |plain (k : Nat)
 |raise (t : Nat) (r : List Nat)
 |call (m : B)
def okTag (t : Nat) : Bool := decide (t <= 65535)
def Qs.ok (D : Nat) : Qs -> Bool
 |.table m c r => okName m && c.ok && r.all Co.ok
 |.index t m => okName t && okName m
 |.view m tags s => okName m && tags.all okTag && s.ok D
 |.closure m tags s => okName m && tags.all okTag && s.ok D
 |.select s => s.ok D
 |.write s => s.ok D
 |.plain k => decide (k < 3)
 |.raise t r => okTag t && r.all okTag
 |.call m => okName m
def tagI (t : Nat) : Int := t
def Qs.st : Qs -> St
 |.table m c r => .mk 1 [] m ((c :: r).map Co.col) [] [] [] [] [] [] [] false []
 |.index t m => .mk 2 t m [] [] [] [] [] [] [] [] false []
 |.view m tags s => doorSt 3 m (tags.map tagI) s.st
 |.closure m tags s => doorSt 4 m (tags.map tagI) s.st
 |.select s => s.st
 |.write s => s.st
 |.plain k => .ofKind (9 + k)
 |.raise t r => .mk 12 [] [] [] ((t :: r).map tagI) [] [] [] [] [] [] false []
 |.call m => .mk 13 [] m [] [] [] [] [] [] [] [] false []
def tagsL : List Nat -> Line
 |[] => []
 |t :: r => Tg 1 t ++ lines Tg r
def doorL (w : B) (m : B) (tags : List Nat) (inner : Line) : Line := (0, .word [99, 114, 101, 97, 116, 101]) :: (1, .word w) :: (1, .name m) :: (1, .word [115, 116, 114, 105, 112]) :: (tagsL tags ++ (1, .word [97, 115]) :: inner)
def plainW (k : Nat) : B := match k with | 0 => [98, 101, 103, 105, 110] | 1 => [99, 111, 109, 109, 105, 116] | _ => [114, 111, 108, 108, 98, 97, 99, 107]
def Qs.line : Qs -> Line
 |.table m c r => (0, .word [99, 114, 101, 97, 116, 101]) :: (1, .word [116, 97, 98, 108, 101]) :: (1, .name m) :: (0, .sign [40]) :: (c.line 0 ++ (lines Co.line r ++ [(0, .sign [41])]))
 |.index t m => [(0, .word [99, 114, 101, 97, 116, 101]), (1, .word [105, 110, 100, 101, 120]), (1, .word [111, 110]), (1, .name t), (0, .sign [40]), (0, .name m), (0, .sign [41])]
 |.view m tags s => doorL [118, 105, 101, 119] m tags (s.line 1)
 |.closure m tags s => doorL [99, 108, 111, 115, 117, 114, 101] m tags (s.line 1)
 |.select s => s.line 0
 |.write s => s.line 0
 |.plain k => [(0, .word (plainW k))]
 |.raise t r => (0, .word [114, 97, 105, 115, 101]) :: (Tg 1 t ++ lines Tg r)
 |.call m => [(0, .word [99, 97, 108, 108]), (1, .name m)]
theorem nil_of {t : B} (h : t.isEmpty = true) : t = [] := by cases t with | nil => rfl | cons => cases h
theorem cl_ok {c : Cl} {g : Nat} {l r : List Tok} (h : Starts (keys (c.line g)) l r) (hr : is [46] r = false) : column l = .ok (c.ex, r) := by
 unfold Cl.line at h
 split at h
 ·rename_i he
  obtain ⟨q, l1, rfl, rfl⟩ := h
  rw [column_one hr]
  unfold Cl.ex
  rw [nil_of he]
 ·exact column_two h
theorem cl_first {c : Cl} {g : Nat} {l r : List Tok} (h : Starts (keys (c.line g)) l r) : ∃ n q m, l = (Pc.name n).tok q :: m := by
 unfold Cl.line at h
 split at h
 ·obtain ⟨q, l1, rfl, _⟩ := h; exact ⟨_, q, l1, rfl⟩
 ·obtain ⟨q, l1, rfl, _⟩ := h; exact ⟨_, q, l1, rfl⟩
theorem starts_len : ∀ {cs : List Pc} {l r : List Tok}, Starts cs l r -> l.length = cs.length + r.length
 |[], l, r, h => by obtain rfl : l = r := h; simp
 |c :: cs, l, r, h => by
  obtain ⟨q, l', rfl, h⟩ := h
  have := starts_len h
  simp only [List.length_cons]
  omega
theorem more_ok {α β : Type} (one : P β) (f : Nat -> α -> Line) (v : α -> β) (Q : List Tok -> Prop) (hQ : ∀ q l, Q ((Pc.sign [44]).tok q :: l)) (hg : ∀ g h x, keys (f g x) = keys (f h x)) (N : Nat) {r : List Tok} (hr : Q r) (hc : is [44] r = false) :
  ∀ (xs : List α) (n : Nat) (acc : List β) (l : List Tok), (∀ x ∈ xs, ∀ l m, l.length <= N -> Starts (keys (f 1 x)) l m -> Q m -> one l = .ok (v x, m)) -> xs.length <= n -> l.length <= N -> Starts (keys (lines f xs)) l r -> more one n acc l = .ok (acc ++ xs.map v, r)
 |[], n, acc, l, _, _, _, h => by
  obtain rfl : l = r := h
  rw [List.map_nil, List.append_nil]
  cases n with
  |zero => rfl
  |succ n => exact opt_no hc
 |x :: xs, 0, acc, l, _, hn, _, _ => absurd hn (by simp)
 |x :: xs, n + 1, acc, l, h1, hn, hN, h => by
  obtain ⟨q, l1, rfl, h⟩ := h
  change Starts (keys (f 1 x ++ lines f xs)) l1 r at h
  rw [keys_app] at h
  obtain ⟨m, h2, h3⟩ := starts_app h
  have hm : Q m := by
   cases xs with
   |nil => obtain rfl : m = r := h3; exact hr
   |cons y ys => obtain ⟨q2, l2, rfl, _⟩ := h3; exact hQ q2 l2
  have hl2 := starts_len h2
  simp only [List.length_cons] at hN
  unfold more
  rw [opt_yes (by rw [is_mark]; rfl)]
  show bnd one _ l1 = _
  rw [bnd_ok (h1 x (by simp) l1 m (by omega) h2 hm), more_ok one f v Q hQ hg N hr hc xs n (acc ++ [v x]) m (fun y hy => h1 y (by simp [hy])) (by simpa using hn) (by omega) h3]
  simp
theorem lines_len {α : Type} {f : Nat -> α -> Line} : ∀ {xs : List α} {l r : List Tok}, Starts (keys (lines f xs)) l r -> xs.length <= l.length
 |[], _, _, _ => Nat.zero_le _
 |x :: xs, _, r, h => by
  obtain ⟨q, l1, rfl, h⟩ := h
  change Starts (keys (f 1 x ++ lines f xs)) l1 r at h
  rw [keys_app] at h
  obtain ⟨m, h2, h3⟩ := starts_app h
  have h4 := lines_len h3
  have := starts_len h2
  simp only [List.length_cons]
  omega
theorem list_ok {α β : Type} (one : P β) (f : Nat -> α -> Line) (v : α -> β) (Q : List Tok -> Prop) (hQ : ∀ q l, Q ((Pc.sign [44]).tok q :: l)) (hg : ∀ g h x, keys (f g x) = keys (f h x)) {r : List Tok} (hr : Q r) (hc : is [44] r = false) (g : Nat) (x : α) (xs : List α) (l : List Tok)
  (h1 : ∀ y ∈ x :: xs, ∀ l' m, l'.length <= l.length -> Starts (keys (f 1 y)) l' m -> Q m -> one l' = .ok (v y, m)) (h : Starts (keys (f g x ++ lines f xs)) l r) : list one l = .ok ((x :: xs).map v, r) := by
 rw [keys_app] at h
 obtain ⟨m, h2, h3⟩ := starts_app h
 have hm : Q m := by
  cases xs with
  |nil => obtain rfl : m = r := h3; exact hr
  |cons y ys => obtain ⟨q2, l2, rfl, _⟩ := h3; exact hQ q2 l2
 have hl2 := starts_len h2
 unfold list
 rw [hg g 1] at h2
 rw [bnd_ok (h1 x (by simp) l m (Nat.le_refl _) h2 hm)]
 exact more_ok one f v Q hQ hg l.length hr hc xs m.length [v x] m (fun y hy => h1 y (by simp [hy])) (lines_len h3) (by omega) h3
theorem needs_cons {c : Pc} {w : B} (h : mark c = some w) (r : List B) (q : Nat) (l : List Tok) : needs (w :: r) (c.tok q :: l) = needs r l := by
 show bnd (need w) _ _ = _
 rw [bnd_ok (need_ok h q l)]
theorem cl_gap (g h : Nat) (c : Cl) : keys (c.line g) = keys (c.line h) := by
 unfold Cl.line; split <;> rfl
theorem im_gap (g h : Nat) (x : Im) : keys (x.line g) = keys (x.line h) := by
 cases x with
 |col c => exact cl_gap g h c
 |count => rfl
 |agg k c => rfl
theorem co_gap (g h : Nat) (c : Co) : keys (c.line g) = keys (c.line h) := rfl
theorem im_ok {x : Im} {g : Nat} {l r : List Tok} (ho : x.ok = true) (h : Starts (keys (x.line g)) l r) (hr : is [46] r = false) : item l = .ok (x.it, r) := by
 cases x with
 |col c =>
  obtain ⟨n, q, m, rfl⟩ := cl_first h
  unfold item
  rw [opt_no (by rw [is_mark]; rfl)]
  simp only [sign_mark]
  rw [if_pos (show agg ((mark (Pc.name n)).getD []) = 0 from rfl), bnd_ok (cl_ok h hr)]
  rfl
 |count =>
  obtain ⟨q, l1, rfl, q2, l2, rfl, q3, l3, rfl, q4, l4, rfl, rfl⟩ := h
  unfold item
  rw [opt_yes (by rw [is_mark]; rfl)]
  show bnd (needs _) _ _ = _
  rw [bnd_ok (a := ()) (m := l4) (by rw [List.tail_cons, needs_cons rfl, needs_cons rfl, needs_cons rfl]; rfl)]
  rfl
 |agg k c =>
  simp only [Im.ok, Bool.and_eq_true, decide_eq_true_eq] at ho
  obtain ⟨q, l1, rfl, q2, l2, rfl, h⟩ := h
  change Starts (keys (c.line 0 ++ [(0, .sign [41])])) l2 r at h
  rw [keys_app] at h
  obtain ⟨m, h1, q3, l3, rfl, rfl⟩ := starts_app h
  unfold item
  rw [opt_no (by rw [is_mark]; rcases (by omega : k = 0 \/ k = 1 \/ k = 2) with rfl | rfl | rfl <;> rfl)]
  simp only [sign_mark]
  have ha : agg ((mark (Pc.word (aggW k))).getD []) = 2 + k := by
   rcases (by omega : k = 0 \/ k = 1 \/ k = 2) with rfl | rfl | rfl <;> rfl
  rw [ha, if_neg (by omega), List.tail_cons, bnd_ok (needs_one rfl q2 l2), bnd_ok (cl_ok h1 (free_close q3 l3).dot), bnd_ok (needs_one rfl q3 l3)]
  rfl
theorem co_ok {c : Co} {g : Nat} {l r : List Tok} (h : Starts (keys (c.line g)) l r) (hr : is [114, 101, 102] r = false) : col l = .ok (c.col, r) := by
 obtain ⟨q, l1, rfl, q2, l2, rfl, h⟩ := h
 unfold col
 rw [bnd_ok (name_ok _ q _)]
 have hk : colKind ((Pc.word (if c.text then [116, 101, 120, 116] else [105, 110, 116])).tok q2 :: l2) = .ok ((if c.text then 2 else 1), l2) := by
  unfold colKind
  cases c.text with
  |true => rw [opt_no (by rw [is_mark]; rfl), opt_yes (by rw [is_mark]; rfl)]; rfl
  |false => rw [opt_yes (by rw [is_mark]; rfl)]; rfl
 rw [bnd_ok hk]
 obtain ⟨cn, ct, cr⟩ := c
 cases cr with
 |nil =>
  obtain rfl : l2 = r := h
  rw [opt_no hr]
  rfl
 |cons a s =>
  obtain ⟨q3, l3, rfl, q4, l4, rfl, rfl⟩ := h
  rw [opt_yes (by rw [is_mark]; rfl)]
  rfl
theorem tag_ok {t g : Nat} {l r : List Tok} (ht : okTag t = true) (h : Starts (keys (Tg g t)) l r) : tag l = .ok (tagI t, r) := by
 obtain ⟨q, l1, rfl, rfl⟩ := h
 have ht : t <= 65535 := of_decide_eq_true ht
 unfold tag
 rw [if_neg (by show ¬ ((3 : Int) = 3 /\ 65535 < (t : Int)); omega)]
 show Except.ok ((t : Int) % 65536, l1) = _
 rw [Int.emod_eq_of_lt (by omega) (by omega)]
 rfl
structure End (r : List Tok) : Prop where
 isn : ∀ w : B, w ≠ [41] -> CM.is w r = false
 free : Free r
 num : (now r).kind ≠ 3
theorem End.is {r : List Tok} (h : End r) (w : B) (hw : w ≠ [41] := by decide) : CM.is w r = false := h.isn w hw
theorem free_word {w : B} (h : (w == [97, 110, 100]) = false) (h2 : (w == [111, 114]) = false) (h3 : LexM.words.contains w = true) (q : Nat) (l : List Tok) : Free ((Pc.word w).tok q :: l) := by
 have hm : w ∈ LexM.words := by simpa using h3
 have key : (LexM.words.all fun w => (w == [97, 110, 100]) || (w == [111, 114]) || (!(w == [46]) && (opTerm w).isNone && (opSum w).isNone && (opComp w).isNone && (opAnd w).isNone && (opOr w).isNone)) = true := by decide
 have := List.all_eq_true.1 key w hm
 simp only [h, h2, Bool.false_or, Bool.and_eq_true, Bool.not_eq_true', Option.isNone_iff_eq_none] at this
 exact free_mark rfl this.1.1.1.1.1 this.1.1.1.1.2 this.1.1.1.2 this.1.1.2 this.1.2 this.2
end CM
end Go.Proofs.YtmdnhinpaflamaaGreatDoor
namespace Go.Proofs.YtmdnhinpaflamaaGreatDoor
open Go.RowKit
namespace CM
open LexM (Tok)
open PM (B Ex Col It St PS zeroTok wordy two un colEx opOr opAnd opSum opTerm opComp)
open Pc (Pc Line okName okText)
variable {D : Nat}
theorem nest_len : ∀ (p : Pr) (g : Nat), p.nest < (keys (p.line g)).length
 |.int _, _ => by simp [Pr.nest, Pr.line, keys]
 |.text _, _ => by simp [Pr.nest, Pr.line, keys]
 |.col _, _ => by simp [Pr.nest, Pr.line, keys]
 |.tcol _ _, _ => by simp [Pr.nest, Pr.line, keys]
 |.neg a, g => by have := nest_len a 0; simp [Pr.nest, Pr.line, keys] at this ⊢; omega
 |.not a, g => by have := nest_len a 1; simp [Pr.nest, Pr.line, keys] at this ⊢; omega
 |.bin o a b, g => by
  have h1 := nest_len a 0
  have h2 := nest_len b 1
  simp only [Pr.nest, Pr.line, keys, List.map_append, List.map_cons, List.length_append, List.length_cons, List.length_map, List.map_nil, List.length_nil] at h1 h2 ⊢
  omega
theorem expr_at {p : Pr} {n g : Nat} {l r : List Tok} (ho : okPr D p = true) (hl : l.length <= n) (h : Starts (keys (p.line g)) l r) (hr : Free r) : expr n (64 - (D : Int)) l = .ok (p.ex, r) := by
 simp only [okPr, Bool.and_eq_true, decide_eq_true_eq] at ho
 have h1 := nest_len p g
 have h2 := starts_len h
 exact expr_ok p n (64 - (D : Int)) g l r ho.1 (by omega) (by omega) h hr
theorem where_ok {o : Option Pr} {n : Nat} {l r : List Tok} (ho : okW D o = true) (hl : l.length <= n) (h : Starts (keys (whereL o)) l r) (hr : Free r) (hw : is [119, 104, 101, 114, 101] r = false) : wheres n (64 - (D : Int)) l = .ok (whE o, r) := by
 unfold wheres
 cases o with
 |none =>
  obtain rfl : l = r := h
  rw [opt_no hw]
  rfl
 |some p =>
  obtain ⟨q, l1, rfl, h⟩ := h
  rw [opt_yes (by rw [is_mark]; rfl), List.tail_cons, bnd_ok (expr_at ho (by simp only [List.length_cons] at hl; omega) h hr)]
  rfl
theorem join_ok {o : Option (B × Cl × Cl)} {l r : List Tok} (h : Starts (keys (joinL o)) l r) (hr : is [46] r = false) (hw : is [106, 111, 105, 110] r = false) : joins l = .ok ((joinN o, joinE o), r) := by
 unfold joins
 cases o with
 |none =>
  obtain rfl : l = r := h
  rw [opt_no hw]
  rfl
 |some x =>
  obtain ⟨j, a, b⟩ := x
  obtain ⟨q, l1, rfl, q2, l2, rfl, q3, l3, rfl, h⟩ := h
  change Starts (keys (a.line 1 ++ (1, .sign [61]) :: b.line 1)) l3 r at h
  rw [keys_app] at h
  obtain ⟨m, h1, q4, l4, rfl, h2⟩ := starts_app h
  rw [opt_yes (by rw [is_mark]; rfl), List.tail_cons, bnd_ok (name_ok j q2 _), bnd_ok (needs_one rfl q3 l3), bnd_ok (cl_ok h1 (by rw [is_mark]; rfl)), bnd_ok (needs_one rfl q4 l4), bnd_ok (cl_ok h2 hr)]
  rfl
theorem order_ok {o : Option (Cl × Bool)} {l r : List Tok} (h : Starts (keys (orderL o)) l r) (hr : End r) : orders l = .ok ((orderE o, orderD o), r) := by
 unfold orders
 cases o with
 |none =>
  obtain rfl : l = r := h
  rw [opt_no (hr.is _)]
  rfl
 |some x =>
  obtain ⟨c, d⟩ := x
  obtain ⟨q, l1, rfl, q2, l2, rfl, h⟩ := h
  change Starts (keys (c.line 1 ++ if d then [(1, .word [100, 101, 115, 99])] else [])) l2 r at h
  rw [keys_app] at h
  obtain ⟨m, h1, h2⟩ := starts_app h
  have hm : is [46] m = false := by
   cases d with
   |true => obtain ⟨q3, l3, rfl, _⟩ := h2; rw [is_mark]; rfl
   |false => obtain rfl : m = r := h2; exact hr.is _
  have hd : desc m = .ok (d, r) := by
   unfold desc
   cases d with
   |true => obtain ⟨q3, l3, rfl, rfl⟩ := h2; rw [opt_yes (by rw [is_mark]; rfl)]; rfl
   |false => obtain rfl : m = r := h2; rw [opt_no (hr.is _)]; rfl
  rw [opt_yes (by rw [is_mark]; rfl), List.tail_cons, bnd_ok (needs_one rfl q2 l2), bnd_ok (cl_ok h1 hm), bnd_ok hd]
  rfl
def Next (ws : List B) (r : List Tok) : Prop := End r \/ ∃ w q l, w ∈ ws /\ r = (Pc.word w).tok q :: l
theorem Next.is {ws : List B} {r : List Tok} (h : Next ws r) {v : B} (hv : ws.contains v = false) (hv2 : v ≠ [41] := by decide) : CM.is v r = false := by
 rcases h with h | ⟨w, q, l, hw, rfl⟩
 ·exact h.is v hv2
 ·rw [is_mark]
  show (w == v) = false
  rw [beq_eq_false_iff_ne]
  rintro rfl
  have : ws.contains w = true := by simpa using hw
  rw [this] at hv
  cases hv
theorem Next.free {ws : List B} {r : List Tok} (h : Next ws r) (hw : (ws.all fun w => !(w == [97, 110, 100]) && !(w == [111, 114]) && LexM.words.contains w) = true) : Free r := by
 rcases h with h | ⟨w, q, l, hm, rfl⟩
 ·exact h.free
 ·have := List.all_eq_true.1 hw w hm
  simp only [Bool.and_eq_true, Bool.not_eq_true'] at this
  exact free_word this.1.1 this.1.2 this.2 q l
theorem order_next {o : Option (Cl × Bool)} {l r : List Tok} (h : Starts (keys (orderL o)) l r) (hr : End r) : Next [[111, 114, 100, 101, 114]] l := by
 cases o with
 |none => obtain rfl : l = r := h; exact .inl hr
 |some x => obtain ⟨q, l1, rfl, _⟩ := h; exact .inr ⟨_, q, l1, by simp, rfl⟩
theorem where_next {o : Option Pr} {l r : List Tok} (h : Starts (keys (whereL o)) l r) {ws : List B} (hr : Next ws r) : Next ([119, 104, 101, 114, 101] :: ws) l := by
 cases o with
 |none =>
  obtain rfl : l = r := h
  rcases hr with hr | ⟨w, q, l, hw, rfl⟩
  ·exact .inl hr
  ·exact .inr ⟨w, q, l, by simp [hw], rfl⟩
 |some x => obtain ⟨q, l1, rfl, _⟩ := h; exact .inr ⟨_, q, l1, by simp, rfl⟩
theorem items_ok {xs : List Im} {l m : List Tok} {q : Nat} (ho : xs.all Im.ok = true) (h : Starts (keys (itemsL xs)) l ((Pc.word [102, 114, 111, 109]).tok q :: m)) : items l = .ok (xs.map Im.it, (Pc.word [102, 114, 111, 109]).tok q :: m) := by
 unfold items
 cases xs with
 |nil =>
  obtain ⟨q, l1, rfl, rfl⟩ := h
  rw [opt_yes (by rw [is_mark]; rfl)]
  rfl
 |cons x r =>
  have hf : is [42] l = false := by
   cases x with
   |col c =>
    obtain ⟨m', h1, _⟩ := starts_app (show Starts (keys (c.line 1) ++ keys (lines Im.line r)) _ _ by rw [<- keys_app]; exact h)
    obtain ⟨n, q, m, rfl⟩ := cl_first h1
    rw [is_mark]; rfl
   |count => obtain ⟨q, l1, rfl, _⟩ := h; rw [is_mark]; rfl
   |agg k c =>
    obtain ⟨q, l1, rfl, _⟩ := h
    rw [is_mark]
    show (aggW k == [42]) = false
    unfold aggW
    split <;> rfl
  rw [opt_no hf]
  refine list_ok item Im.line Im.it (fun l => is [46] l = false) (fun q l => by rw [is_mark]; rfl) im_gap (by rw [is_mark]; rfl) (by rw [is_mark]; rfl) 1 x r l (fun y hy l m _ h1 hm => ?_) h
  exact im_ok (List.all_eq_true.1 ho y hy) h1 hm
theorem sel_ok {s : Sel} {n : Nat} {g q : Nat} {l r : List Tok} (ho : s.ok D = true) (hl : l.length <= n) (h : Starts (keys (s.line g)) ((Pc.word [115, 101, 108, 101, 99, 116]).tok q :: l) r) (hr : End r) : selects n (64 - (D : Int)) l = .ok (s.st, r) := by
 simp only [Sel.ok, Bool.and_eq_true] at ho
 obtain ⟨⟨⟨⟨o1, o2⟩, o3⟩, o4⟩, o5⟩ := ho
 obtain ⟨q0, l0, e0, h⟩ := h
 obtain ⟨-, rfl⟩ := List.cons.inj e0
 change Starts (keys (itemsL s.items ++ (1, .word [102, 114, 111, 109]) :: (1, .name s.table) :: (joinL s.join ++ (whereL s.wher ++ orderL s.order)))) l r at h
 rw [keys_app] at h
 obtain ⟨m, h1, q2, l2, rfl, q3, l3, rfl, h⟩ := starts_app h
 change Starts (keys (joinL s.join ++ (whereL s.wher ++ orderL s.order))) l3 r at h
 rw [keys_app, keys_app] at h
 obtain ⟨m4, h4, h⟩ := starts_app h
 obtain ⟨m5, h5, h6⟩ := starts_app h
 have n5 := order_next h6 hr
 have n4 := where_next h5 n5
 have l1 := starts_len h1
 have l4 := starts_len h4
 simp only [List.length_cons] at l1
 unfold selects
 rw [bnd_ok (items_ok o1 h1), bnd_ok (needs_one rfl q2 _), bnd_ok (name_ok _ q3 l3), bnd_ok (join_ok h4 (n4.is rfl) (n4.is rfl)), bnd_ok (where_ok o4 (by omega) h5 (n5.free (by decide)) (n5.is rfl)), bnd_ok (order_ok h6 hr)]
 rfl
theorem writes_ok {s : Wr} {n : Nat} {g : Nat} {l r : List Tok} (ho : s.ok D = true) (hl : l.length <= n) (h : Starts (keys (s.line g)) l r) (hr : End r) (els : P St) : writes n (64 - (D : Int)) els l = .ok (s.st, r) := by
 unfold writes
 cases s with
 |insert t x xs =>
  simp only [Wr.ok, Bool.and_eq_true] at ho
  obtain ⟨q, l1, rfl, q2, l2, rfl, q3, l3, rfl, q4, l4, rfl, q5, l5, rfl, h⟩ := h
  change Starts (keys (x.line 0 ++ (lines (fun g p => p.line g) xs ++ [(0, .sign [41])]))) l5 r at h
  rw [<- List.append_assoc, keys_app] at h
  obtain ⟨m, h1, q6, l6, rfl, rfl⟩ := starts_app h
  simp only [List.length_cons] at hl
  have hlist : list (expr n (64 - (D : Int))) l5 = .ok ((x :: xs).map Pr.ex, (Pc.sign [41]).tok q6 :: l6) := by
   refine list_ok (expr n (64 - (D : Int))) (fun g p => p.line g) Pr.ex Free free_comma (fun g h p => keys_gap g h p) (free_close _ _) (by rw [is_mark]; rfl) 0 x xs l5 (fun y hy l m hl2 h1 hm => expr_at ?_ (by omega) h1 hm) h1
   rcases List.mem_cons.1 hy with rfl | hy
   ·exact ho.1.2
   ·exact List.all_eq_true.1 ho.2 y hy
  rw [opt_yes (by rw [is_mark]; rfl), List.tail_cons]
  unfold inserts
  rw [bnd_ok (needs_one rfl q2 _), bnd_ok (name_ok t q3 _), bnd_ok (a := ()) (m := l5) (by rw [needs_cons rfl, needs_cons rfl]; rfl), bnd_ok hlist, bnd_ok (needs_one rfl q6 l6)]
  rfl
 |update t m x wh =>
  simp only [Wr.ok, Bool.and_eq_true] at ho
  obtain ⟨q, l1, rfl, q2, l2, rfl, q3, l3, rfl, q4, l4, rfl, q5, l5, rfl, h⟩ := h
  change Starts (keys (x.line 1 ++ whereL wh)) l5 r at h
  rw [keys_app] at h
  obtain ⟨m5, h1, h2⟩ := starts_app h
  simp only [List.length_cons] at hl
  have hl2 := starts_len h1
  have hn := where_next (ws := []) h2 (.inl hr)
  rw [opt_no (by rw [is_mark]; rfl), opt_yes (by rw [is_mark]; rfl), List.tail_cons]
  unfold updates
  rw [bnd_ok (name_ok t q2 _), bnd_ok (needs_one rfl q3 _), bnd_ok (name_ok m q4 _), bnd_ok (needs_one rfl q5 _), bnd_ok (expr_at ho.1.2 (by omega) h1 (hn.free (by decide))), bnd_ok (where_ok ho.2 (by omega) h2 hr.free (hr.is _))]
  rfl
 |delete t wh =>
  simp only [Wr.ok, Bool.and_eq_true] at ho
  obtain ⟨q, l1, rfl, q2, l2, rfl, q3, l3, rfl, h⟩ := h
  simp only [List.length_cons] at hl
  rw [opt_no (by rw [is_mark]; rfl), opt_no (by rw [is_mark]; rfl), opt_yes (by rw [is_mark]; rfl), List.tail_cons]
  unfold deletes
  rw [bnd_ok (needs_one rfl q2 _), bnd_ok (name_ok t q3 _), bnd_ok (where_ok ho.2 (by omega) h hr.free (hr.is _))]
  rfl
theorem tags_ok {ts : List Nat} {l r : List Tok} (ho : ts.all okTag = true) (h : Starts (keys (tagsL ts)) l r) (hr : (now r).kind ≠ 3) (hc : is [44] r = false) : tags l = .ok (ts.map tagI, r) := by
 unfold tags
 cases ts with
 |nil =>
  obtain rfl : l = r := h
  rw [if_neg hr]
  rfl
 |cons t ts =>
  have hk : (now l).kind = 3 := by obtain ⟨q, l1, rfl, _⟩ := h; rfl
  rw [if_pos hk]
  exact list_ok tag Tg tagI (fun _ => True) (fun _ _ => trivial) (fun _ _ _ => rfl) trivial hc 1 t ts l (fun y hy l m _ h1 _ => tag_ok (List.all_eq_true.1 ho y hy) h1) h
theorem door_ok {kind : Int} {inn : P St} {m : B} {ts : List Nat} {inner : Line} {st : St} {l2 r : List Tok} (ho : ts.all okTag = true)
  (h : Starts (keys ((1, .name m) :: (1, .word [115, 116, 114, 105, 112]) :: (tagsL ts ++ (1, .word [97, 115]) :: inner))) l2 r) (hi : ∀ l3, l3.length <= l2.length -> Starts (keys inner) l3 r -> inn l3 = .ok (st, r)) : door kind inn l2 = .ok (doorSt kind m (ts.map tagI) st, r) := by
 obtain ⟨q3, l3, rfl, q4, l4, rfl, h⟩ := h
 change Starts (keys (tagsL ts ++ (1, .word [97, 115]) :: inner)) l4 r at h
 rw [keys_app] at h
 obtain ⟨m5, h1, q5, l5, rfl, h2⟩ := starts_app h
 have hlen := starts_len h1
 simp only [List.length_cons] at hlen
 unfold door
 rw [bnd_ok (name_ok m q3 _), bnd_ok (needs_one rfl q4 _), bnd_ok (tags_ok ho h1 (by show (2 : Int) ≠ 3; decide) (by rw [is_mark]; rfl)), bnd_ok (needs_one rfl q5 l5), bnd_ok (hi l5 (by simp only [List.length_cons]; omega) h2)]
 rfl
theorem stmt_ok {q : Qs} {n : Nat} {l r : List Tok} (ho : q.ok D = true) (hl : l.length <= n) (h : Starts (keys q.line) l r) (hr : End r) : stmt n (64 - (D : Int)) l = .ok (q.st, r) := by
 unfold stmt
 cases q with
 |table m c cs =>
  simp only [Qs.ok, Bool.and_eq_true] at ho
  obtain ⟨q1, l1, rfl, q2, l2, rfl, q3, l3, rfl, q4, l4, rfl, h⟩ := h
  change Starts (keys (c.line 0 ++ (lines Co.line cs ++ [(0, .sign [41])]))) l4 r at h
  rw [<- List.append_assoc, keys_app] at h
  obtain ⟨m, h1, q6, l6, rfl, rfl⟩ := starts_app h
  rw [opt_yes (by rw [is_mark]; rfl), List.tail_cons]
  unfold create
  rw [opt_yes (by rw [is_mark]; rfl), List.tail_cons]
  unfold tables
  rw [bnd_ok (name_ok _ q3 _), bnd_ok (needs_one rfl q4 _), bnd_ok (list_ok col Co.line Co.col (fun r => is [114, 101, 102] r = false) (fun q l => by rw [is_mark]; rfl) (fun _ _ _ => rfl) (by rw [is_mark]; rfl) (by rw [is_mark]; rfl) 0 c cs l4 (fun y hy l m _ h1 hm => co_ok h1 hm) h1), bnd_ok (needs_one rfl q6 _)]
  rfl
 |index t m =>
  obtain ⟨q1, l1, rfl, q2, l2, rfl, q3, l3, rfl, q4, l4, rfl, q5, l5, rfl, q6, l6, rfl, q7, l7, rfl, rfl⟩ := h
  rw [opt_yes (by rw [is_mark]; rfl), List.tail_cons]
  unfold create
  rw [opt_no (by rw [is_mark]; rfl), opt_yes (by rw [is_mark]; rfl), List.tail_cons]
  unfold indexes
  rw [bnd_ok (needs_one rfl q3 _), bnd_ok (name_ok _ q4 _), bnd_ok (needs_one rfl q5 _), bnd_ok (name_ok _ q6 _), bnd_ok (needs_one rfl q7 _)]
  rfl
 |view m ts s =>
  simp only [Qs.ok, Bool.and_eq_true] at ho
  obtain ⟨q1, l1, rfl, q2, l2, rfl, h⟩ := h
  rw [opt_yes (by rw [is_mark]; rfl), List.tail_cons]
  unfold create
  rw [opt_no (by rw [is_mark]; rfl), opt_no (by rw [is_mark]; rfl), opt_yes (by rw [is_mark]; rfl), List.tail_cons]
  simp only [List.length_cons] at hl
  refine door_ok ho.1.2 h (fun l3 h3 h4 => ?_)
  obtain ⟨q, l', rfl, h5⟩ := (show ∃ q l', l3 = (Pc.word [115, 101, 108, 101, 99, 116]).tok q :: l' /\ _ from h4)
  rw [opt_yes (by rw [is_mark]; rfl), List.tail_cons]
  simp only [List.length_cons] at h3
  exact sel_ok ho.2 (by omega) h4 hr
 |closure m ts s =>
  simp only [Qs.ok, Bool.and_eq_true] at ho
  obtain ⟨q1, l1, rfl, q2, l2, rfl, h⟩ := h
  rw [opt_yes (by rw [is_mark]; rfl), List.tail_cons]
  unfold create
  rw [opt_no (by rw [is_mark]; rfl), opt_no (by rw [is_mark]; rfl), opt_no (by rw [is_mark]; rfl), opt_yes (by rw [is_mark]; rfl), List.tail_cons]
  simp only [List.length_cons] at hl
  exact door_ok ho.1.2 h (fun l3 h3 h4 => writes_ok ho.2 (by omega) h4 hr _)
 |select s =>
  have h0 := h
  obtain ⟨q1, l1, rfl, h⟩ := h
  rw [opt_no (by rw [is_mark]; rfl), opt_no (by rw [is_mark]; rfl), opt_yes (by rw [is_mark]; rfl), List.tail_cons]
  simp only [List.length_cons] at hl
  exact sel_ok ho (by omega) h0 hr
 |write s =>
  have hw := writes_ok ho hl h hr rest
  unfold writes at hw
  cases s with
  |insert t x xs =>
   obtain ⟨q1, l1, rfl, _⟩ := h
   rw [opt_yes (by rw [is_mark]; rfl)] at hw
   rw [opt_no (by rw [is_mark]; rfl), opt_yes (by rw [is_mark]; rfl)]
   exact hw
  |update t m x wh =>
   obtain ⟨q1, l1, rfl, _⟩ := h
   rw [opt_no (by rw [is_mark]; rfl)] at hw
   rw [opt_no (by rw [is_mark]; rfl), opt_no (by rw [is_mark]; rfl), opt_no (by rw [is_mark]; rfl)]
   exact hw
  |delete t wh =>
   obtain ⟨q1, l1, rfl, _⟩ := h
   rw [opt_no (by rw [is_mark]; rfl)] at hw
   rw [opt_no (by rw [is_mark]; rfl), opt_no (by rw [is_mark]; rfl), opt_no (by rw [is_mark]; rfl)]
   exact hw
 |plain k =>
  obtain ⟨q1, l1, rfl, rfl⟩ := h
  have ho : k < 3 := of_decide_eq_true ho
  rcases (by omega : k = 0 \/ k = 1 \/ k = 2) with rfl | rfl | rfl <;> rfl
 |raise t ts =>
  simp only [Qs.ok, Bool.and_eq_true] at ho
  obtain ⟨q1, l1, rfl, h⟩ := h
  have e : ∀ (a b c d e : P St), opt [99, 114, 101, 97, 116, 101] a (opt [105, 110, 115, 101, 114, 116] b (opt [115, 101, 108, 101, 99, 116] c (opt [117, 112, 100, 97, 116, 101] d (opt [100, 101, 108, 101, 116, 101] e rest)))) ((Pc.word [114, 97, 105, 115, 101]).tok q1 :: l1) = raises l1 := fun _ _ _ _ _ => rfl
  show opt [99, 114, 101, 97, 116, 101] _ _ ((Pc.word [114, 97, 105, 115, 101]).tok q1 :: l1) = _
  rw [e]
  unfold raises
  rw [bnd_ok (list_ok tag Tg tagI (fun _ => True) (fun _ _ => trivial) (fun _ _ _ => rfl) trivial (hr.is _) 1 t ts l1 (fun y hy l m _ h1 _ => tag_ok (by rcases List.mem_cons.1 hy with rfl | hy; exact ho.1; exact List.all_eq_true.1 ho.2 y hy) h1) h)]
  rfl
 |call m =>
  obtain ⟨q1, l1, rfl, q2, l2, rfl, rfl⟩ := h
  rfl
theorem end_of {r : List Tok} (h : wordy (now r) = false) (hn : (now r).kind ≠ 3) : End r := by
 have h1 : ∀ w, CM.is w r = false := fun w => by unfold CM.is; rw [h]; rfl
 have h2 : CM.sign r = [] := by unfold CM.sign; rw [h]; rfl
 exact ⟨fun w _ => h1 w, ⟨h1 _, by rw [h2]; rfl, by rw [h2]; rfl, by rw [h2]; rfl, by rw [h2]; rfl, by rw [h2]; rfl⟩, hn⟩
theorem end_tok (q : Nat) : End [⟨6, [], 0, q⟩] := end_of rfl (by show (6 : Int) ≠ 3; decide)
end CM
end Go.Proofs.YtmdnhinpaflamaaGreatDoor
namespace Go.Proofs.YtmdnhinpaflamaaGreatDoor
open Go.RowKit
namespace CM
open PM (B)
open Pc (Pc Line okName okText)
def firstN : Line -> UInt8 -> UInt8
 |(0, c) :: _, _ => c.bytes.headD 0
 |(_ + 1, _) :: _, _ => 0
 |[], x => x
def fitsN : Line -> UInt8 -> Bool
 |[], _ => true
 |(_, c) :: L, x => c.ok && c.stops (firstN L x) && fitsN L x
theorem first_nil : ∀ L : Line, Pc.first L = firstN L 0
 |[] => rfl
 |(0, _) :: _ => rfl
 |(_ + 1, _) :: _ => rfl
theorem fits_nil : ∀ L : Line, Pc.fits L = fitsN L 0
 |[] => rfl
 |(g, c) :: L => by rw [Pc.fits, fitsN, first_nil, fits_nil L]
theorem firstN_app : ∀ (a b : Line) (x : UInt8), firstN (a ++ b) x = firstN a (firstN b x)
 |[], _, _ => rfl
 |(0, _) :: _, _, _ => rfl
 |(_ + 1, _) :: _, _, _ => rfl
theorem fitsN_app : ∀ (a b : Line) (x : UInt8), fitsN (a ++ b) x = (fitsN a (firstN b x) && fitsN b x)
 |[], b, x => (Bool.true_and _).symm
 |(g, c) :: a, b, x => by rw [List.cons_append, fitsN, fitsN, fitsN_app a b x, firstN_app, Bool.and_assoc (c.ok && _)]
def soft (x : UInt8) : Bool := x == 0 || x == 41 || x == 44
theorem stops_soft (c : Pc) {x : UInt8} (h : soft x = true) : c.stops x = true := by
 simp only [soft, Bool.or_eq_true, beq_iff_eq] at h
 rcases h with (rfl | rfl) | rfl <;> cases c <;> simp [Pc.stops] <;> decide
theorem stops_name (t : B) : Pc.stops 46 (.name t) = true := rfl
theorem stops_name2 (t : B) : Pc.stops 40 (.name t) = true := rfl
theorem stops_word2 (t : B) : Pc.stops 40 (.word t) = true := rfl
theorem first_one (p : Pr) (R : Line) (x : UInt8) : firstN (p.line 1 ++ R) x = 0 := by rw [firstN_app]; cases p <;> rfl
theorem first_one' (p : Pr) (x : UInt8) : firstN (p.line 1) x = 0 := by cases p <;> rfl
theorem op_ok (o : Nat) : (opPc o).ok = true := by unfold opPc; split <;> rfl
theorem soft0 : soft 0 = true := rfl
theorem soft41 : soft 41 = true := rfl
theorem soft44 : soft 44 = true := rfl
theorem close_first (L : Line) (x : UInt8) : firstN ((0, .sign [41]) :: L) x = 41 := rfl
theorem comma_first (L : Line) (x : UInt8) : firstN ((0, .sign [44]) :: L) x = 44 := rfl
theorem gap_first (g : Nat) (c : Pc) (L : Line) (x : UInt8) : firstN ((g + 1, c) :: L) x = 0 := rfl
theorem one_first (c : Pc) (L : Line) (x : UInt8) : firstN ((1, c) :: L) x = 0 := rfl
theorem fit_soft {g : Nat} {c : Pc} {L : Line} {x : UInt8} (hc : c.ok = true) (hs : soft (firstN L x) = true) (hL : fitsN L x = true) : fitsN ((g, c) :: L) x = true := by
 rw [fitsN, hc, stops_soft c hs, hL]
 rfl
theorem fit_hard {g : Nat} {c : Pc} {L : Line} {x : UInt8} (hc : c.ok = true) (hs : ∀ y, c.stops y = true) (hL : fitsN L x = true) : fitsN ((g, c) :: L) x = true := by
 rw [fitsN, hc, hs _, hL]
 rfl
theorem fit_app {a b : Line} {x : UInt8} (h1 : fitsN a (firstN b x) = true) (h2 : fitsN b x = true) : fitsN (a ++ b) x = true := by rw [fitsN_app, h1, h2]; rfl
theorem fit_close {x : UInt8} (h : soft x = true) : fitsN [(0, .sign [41])] x = true := fit_soft rfl h rfl
theorem hard_open (y : UInt8) : Pc.stops y (.sign [40]) = true := rfl
theorem hard_minus (y : UInt8) : Pc.stops y (.sign [45]) = true := rfl
theorem hard_dot (y : UInt8) : Pc.stops y (.sign [46]) = true := rfl
theorem hard_comma (y : UInt8) : Pc.stops y (.sign [44]) = true := rfl
theorem pr_fits : ∀ (p : Pr) (g : Nat) (x : UInt8), p.ok = true -> soft x = true -> fitsN (p.line g) x = true
 |.int v, g, x, h, hx => fit_soft h hx rfl
 |.text t, g, x, h, hx => fit_soft h hx rfl
 |.col n, g, x, h, hx => fit_soft h hx rfl
 |.tcol t n, g, x, h, hx => by
  simp only [Pr.ok, Bool.and_eq_true] at h
  show fitsN ((g, .name t) :: (0, .sign [46]) :: [(0, .name n)]) x = true
  rw [fitsN, show (Pc.name t).ok = true from h.1, show (Pc.name t).stops (firstN ((0, .sign [46]) :: [(0, .name n)]) x) = true from rfl, fit_hard rfl hard_dot (fit_soft (c := .name n) (g := 0) (L := []) h.2 hx rfl)]
  rfl
 |.neg a, g, x, h, hx => fit_hard rfl hard_open (fit_hard rfl hard_minus (fit_app (pr_fits a 0 _ h soft41) (fit_close hx)))
 |.not a, g, x, h, hx => fit_hard rfl hard_open (fit_soft (by decide) (by rw [first_one]; rfl) (fit_app (pr_fits a 1 _ h soft41) (fit_close hx)))
 |.bin o a b, g, x, h, hx => by
  simp only [Pr.ok, Bool.and_eq_true] at h
  exact fit_hard rfl hard_open (fit_app (pr_fits a 0 _ h.1.2 soft0) (fit_soft (op_ok o) (by rw [first_one]; rfl) (fit_app (pr_fits b 1 _ h.2 soft41) (fit_close hx))))
theorem cl_fits {c : Cl} {g : Nat} {x : UInt8} (h : c.ok = true) (hx : soft x = true) : fitsN (c.line g) x = true := by
 simp only [Cl.ok, Bool.and_eq_true, Bool.or_eq_true] at h
 unfold Cl.line
 split
 ·exact fit_soft h.2 hx rfl
 ·rename_i he
  have ht : okName c.table = true := by rcases h.1 with h1 | h1; exact absurd h1 he; exact h1
  exact pr_fits (.tcol c.table c.name) g x (by simp [Pr.ok, ht, h.2]) hx
theorem cl_first1 (c : Cl) (R : Line) (x : UInt8) : firstN (c.line 1 ++ R) x = 0 := by
 rw [firstN_app]
 unfold Cl.line
 split <;> rfl
theorem fit_open {g : Nat} {c : Pc} {L : Line} {x : UInt8} (hc : c.ok = true) (hs : c.stops 40 = true) (hL : fitsN ((0, .sign [40]) :: L) x = true) : fitsN ((g, c) :: (0, .sign [40]) :: L) x = true := by
 rw [fitsN, hc, show c.stops (firstN ((0, .sign [40]) :: L) x) = true from hs, hL]
 rfl
theorem hard_star (y : UInt8) : Pc.stops y (.sign [42]) = true := rfl
theorem im_fits {c : Im} {g : Nat} {x : UInt8} (h : c.ok = true) (hx : soft x = true) : fitsN (c.line g) x = true := by
 cases c with
 |col c => exact cl_fits h hx
 |count => exact fit_open (by decide) rfl (fit_hard rfl hard_open (fit_hard rfl hard_star (fit_close hx)))
 |agg k c =>
  simp only [Im.ok, Bool.and_eq_true, decide_eq_true_eq] at h
  refine fit_open ?_ rfl (fit_hard rfl hard_open (fit_app (cl_fits h.2 soft41) (fit_close hx)))
  rcases (by omega : k = 0 \/ k = 1 \/ k = 2) with rfl | rfl | rfl <;> decide
theorem im_first1 (c : Im) (R : Line) (x : UInt8) : firstN (c.line 1 ++ R) x = 0 := by
 cases c with
 |col c => exact cl_first1 c R x
 |count => rfl
 |agg k c => rfl
theorem co_fits {c : Co} {g : Nat} {x : UInt8} (h : c.ok = true) (hx : soft x = true) : fitsN (c.line g) x = true := by
 obtain ⟨n, t, r⟩ := c
 simp only [Co.ok, Bool.and_eq_true, Bool.or_eq_true] at h
 refine fit_soft h.1 rfl ?_
 have ht : (Pc.word (if t = true then [116, 101, 120, 116] else [105, 110, 116])).ok = true := by cases t <;> decide
 refine fit_soft ht ?_ ?_
 ·cases r with
  |nil => exact hx
  |cons => rfl
 ·cases r with
  |nil => rfl
  |cons a s =>
   refine fit_soft (by decide) rfl (fit_soft ?_ hx rfl)
   rcases h.2 with h2 | h2
   ·cases h2
   ·exact h2
theorem tg_fits {t g : Nat} {x : UInt8} (h : okTag t = true) (hx : soft x = true) : fitsN (Tg g t) x = true := by
 have h : t <= 65535 := of_decide_eq_true h
 refine fit_soft ?_ hx rfl
 show decide (t <= 9223372036854775807) = true
 exact decide_eq_true (by omega)
theorem lines_soft {α : Type} (f : Nat -> α -> Line) (xs : List α) {x : UInt8} (hx : soft x = true) : soft (firstN (lines f xs) x) = true := by
 cases xs with
 |nil => exact hx
 |cons => rfl
theorem lines_fits {α : Type} {f : Nat -> α -> Line} {x : UInt8} (hx : soft x = true) : ∀ {xs : List α}, (∀ y ∈ xs, ∀ z, soft z = true -> fitsN (f 1 y) z = true) -> fitsN (lines f xs) x = true
 |[], _ => rfl
 |y :: ys, h => fit_hard rfl hard_comma (fit_app (h y (by simp) _ (lines_soft f ys hx)) (lines_fits hx fun z hz => h z (by simp [hz])))
theorem list_fits {α : Type} {f : Nat -> α -> Line} {x : UInt8} (hx : soft x = true) {g : Nat} {y : α} {ys : List α} (h1 : ∀ z, soft z = true -> fitsN (f g y) z = true) (h : ∀ y ∈ ys, ∀ z, soft z = true -> fitsN (f 1 y) z = true) : fitsN (f g y ++ lines f ys) x = true :=
 fit_app (h1 _ (lines_soft f ys hx)) (lines_fits hx h)
theorem okPr_ok {D : Nat} {p : Pr} (h : okPr D p = true) : p.ok = true := by simp only [okPr, Bool.and_eq_true] at h; exact h.1
theorem where_first (o : Option Pr) (R : Line) (h : firstN R 0 = 0) : firstN (whereL o ++ R) 0 = 0 := by cases o with | none => exact h | some p => rfl
theorem where_fits {D : Nat} {o : Option Pr} (h : okW D o = true) {x : UInt8} (hx : soft x = true) : fitsN (whereL o) x = true := by
 cases o with
 |none => rfl
 |some p => exact fit_soft (by decide) (by rw [first_one']; rfl) (pr_fits p 1 x (okPr_ok h) hx)
theorem join_first (o : Option (B × Cl × Cl)) (R : Line) (h : firstN R 0 = 0) : firstN (joinL o ++ R) 0 = 0 := by cases o with | none => exact h | some p => rfl
theorem join_fits {o : Option (B × Cl × Cl)} (h : okJ o = true) {x : UInt8} (hx : soft x = true) : fitsN (joinL o) x = true := by
 cases o with
 |none => rfl
 |some p =>
  obtain ⟨j, a, b⟩ := p
  simp only [okJ, Bool.and_eq_true] at h
  refine fit_soft (by decide) rfl (fit_soft h.1.1 rfl (fit_soft (by decide) (by rw [cl_first1]; rfl) (fit_app (cl_fits h.1.2 rfl) (fit_soft rfl ?_ (cl_fits h.2 hx)))))
  have := cl_first1 b [] x
  rw [List.append_nil] at this
  rw [this]
  rfl
theorem order_first (o : Option (Cl × Bool)) : firstN (orderL o) 0 = 0 := by cases o with | none => rfl | some p => rfl
theorem order_fits {o : Option (Cl × Bool)} (h : okO o = true) : fitsN (orderL o) 0 = true := by
 cases o with
 |none => rfl
 |some p =>
  obtain ⟨c, d⟩ := p
  refine fit_soft (by decide) rfl (fit_soft (by decide) (by rw [cl_first1]; rfl) (fit_app (cl_fits h ?_) ?_)) <;> cases d <;> rfl
theorem items_first (xs : List Im) (R : Line) (x : UInt8) : firstN (itemsL xs ++ R) x = 0 := by
 cases xs with
 |nil => rfl
 |cons y ys =>
  show firstN ((y.line 1 ++ lines Im.line ys) ++ R) x = 0
  rw [List.append_assoc, im_first1]
theorem items_fits {xs : List Im} (h : xs.all Im.ok = true) : fitsN (itemsL xs) 0 = true := by
 cases xs with
 |nil => rfl
 |cons y ys =>
  simp only [List.all_cons, Bool.and_eq_true] at h
  exact list_fits rfl (fun z hz => im_fits h.1 hz) (fun w hw z hz => im_fits (List.all_eq_true.1 h.2 w hw) hz)
theorem sel_fits {D : Nat} {s : Sel} {g : Nat} (h : s.ok D = true) : fitsN (s.line g) 0 = true := by
 simp only [Sel.ok, Bool.and_eq_true] at h
 obtain ⟨⟨⟨⟨o1, o2⟩, o3⟩, o4⟩, o5⟩ := h
 have f2 := where_first s.wher _ (order_first s.order)
 have f1 := join_first s.join _ f2
 refine fit_soft (by decide) (by rw [items_first]; rfl) (fit_app (by rw [one_first]; exact items_fits o1) (fit_soft (by decide) rfl (fit_soft o2 (by rw [f1]; rfl) ?_)))
 exact fit_app (by rw [f2]; exact join_fits o3 rfl) (fit_app (by rw [order_first]; exact where_fits o4 rfl) (order_fits o5))
theorem wr_fits {D : Nat} {s : Wr} {g : Nat} (h : s.ok D = true) : fitsN (s.line g) 0 = true := by
 cases s with
 |insert t x r =>
  simp only [Wr.ok, Bool.and_eq_true] at h
  refine fit_soft (by decide) rfl (fit_soft (by decide) rfl (fit_soft h.1.1 rfl (fit_open (by decide) rfl (fit_hard rfl hard_open ?_))))
  rw [<- List.append_assoc]
  exact fit_app (list_fits (f := fun g p => Pr.line g p) soft41 (fun z hz => pr_fits x 0 z (okPr_ok h.1.2) hz) (fun w hw z hz => pr_fits w 1 z (okPr_ok (List.all_eq_true.1 h.2 w hw)) hz)) (fit_close rfl)
 |update t m x wh =>
  simp only [Wr.ok, Bool.and_eq_true] at h
  have f1 : firstN (whereL wh) 0 = 0 := by have := where_first wh [] rfl; rwa [List.append_nil] at this
  exact fit_soft (by decide) rfl (fit_soft h.1.1.1 rfl (fit_soft (by decide) rfl (fit_soft h.1.1.2 rfl (fit_soft rfl (by rw [first_one]; rfl) (fit_app (by rw [f1]; exact pr_fits x 1 0 (okPr_ok h.1.2) rfl) (where_fits h.2 rfl))))))
 |delete t wh =>
  simp only [Wr.ok, Bool.and_eq_true] at h
  have f1 : firstN (whereL wh) 0 = 0 := by have := where_first wh [] rfl; rwa [List.append_nil] at this
  exact fit_soft (by decide) rfl (fit_soft (by decide) rfl (fit_soft h.1 (by rw [f1]; rfl) (where_fits h.2 rfl)))
theorem tags_first (ts : List Nat) (c : Pc) (L : Line) (x : UInt8) : firstN (tagsL ts ++ (1, c) :: L) x = 0 := by cases ts <;> rfl
theorem tags_fits {ts : List Nat} (h : ts.all okTag = true) : fitsN (tagsL ts) 0 = true := by
 cases ts with
 |nil => rfl
 |cons y ys =>
  simp only [List.all_cons, Bool.and_eq_true] at h
  exact list_fits rfl (fun z hz => tg_fits h.1 hz) (fun w hw z hz => tg_fits (List.all_eq_true.1 h.2 w hw) hz)
theorem door_fits {w m : B} {ts : List Nat} {L : Line} (hw : (Pc.word w).ok = true) (hm : okName m = true) (ht : ts.all okTag = true) (h1 : firstN L 0 = 0) (h2 : fitsN L 0 = true) : fitsN (doorL w m ts L) 0 = true :=
 fit_soft (by decide) rfl (fit_soft hw rfl (fit_soft hm rfl (fit_soft (by decide) (by rw [tags_first]; rfl) (fit_app (by rw [one_first]; exact tags_fits ht) (fit_soft (by decide) (by rw [h1]; rfl) h2)))))
theorem qs_fits {D : Nat} {q : Qs} (h : q.ok D = true) : Pc.fits q.line = true := by
 rw [fits_nil]
 cases q with
 |table m c r =>
  simp only [Qs.ok, Bool.and_eq_true] at h
  refine fit_soft (by decide) rfl (fit_soft (by decide) rfl (fit_open h.1.1 rfl (fit_hard rfl hard_open ?_)))
  rw [<- List.append_assoc]
  exact fit_app (list_fits soft41 (fun z hz => co_fits h.1.2 hz) (fun w hw z hz => co_fits (List.all_eq_true.1 h.2 w hw) hz)) (fit_close rfl)
 |index t m =>
  simp only [Qs.ok, Bool.and_eq_true] at h
  exact fit_soft (by decide) rfl (fit_soft (by decide) rfl (fit_soft (by decide) rfl (fit_open h.1 rfl (fit_hard rfl hard_open (fit_soft h.2 rfl (fit_close rfl))))))
 |view m ts s =>
  simp only [Qs.ok, Bool.and_eq_true] at h
  exact door_fits (by decide) h.1.1 h.1.2 rfl (sel_fits h.2)
 |closure m ts s =>
  simp only [Qs.ok, Bool.and_eq_true] at h
  exact door_fits (by decide) h.1.1 h.1.2 (by cases s <;> rfl) (wr_fits h.2)
 |select s => exact sel_fits h
 |write s => exact wr_fits h
 |plain k =>
  have h : k < 3 := of_decide_eq_true h
  rcases (by omega : k = 0 \/ k = 1 \/ k = 2) with rfl | rfl | rfl <;> decide
 |raise t r =>
  simp only [Qs.ok, Bool.and_eq_true] at h
  exact fit_soft (by decide) rfl (list_fits rfl (fun z hz => tg_fits h.1 hz) (fun w hw z hz => tg_fits (List.all_eq_true.1 h.2 w hw) hz))
 |call m => exact fit_soft (by decide) rfl (fit_soft h rfl rfl)
end CM
end Go.Proofs.YtmdnhinpaflamaaGreatDoor
namespace Go.Proofs.YtmdnhinpaflamaaGreatDoor
open Go.RowKit
set_option linter.unusedVariables false
namespace CM
open LexM (Tok)
open PM (B Ex Col It St PS zeroTok wordy two un colEx opOr opAnd opSum opTerm opComp)
section
variable {e : Tok} {α β : Type} {N M : Nat} {X : List Tok}
end
end CM
end Go.Proofs.YtmdnhinpaflamaaGreatDoor
namespace Go.Proofs.YtmdnhinpaflamaaGreatDoor
open Go.RowKit
set_option linter.unusedVariables false
namespace CM
open LexM (Tok)
open PM (B Ex Col It St PS zeroTok wordy two un colEx opOr opAnd opSum opTerm opComp)
open Pc (Pc Line okName okText)
section
variable {α β : Type}
end
theorem parseL_keys {q : Qs} {L : Line} (ho : q.ok 64 = true) (hk : keys L = keys q.line) (p e : Nat) : parseL (Pc.toks p L ++ [⟨6, [], 0, e⟩]) = .inr q.st := by
 have h0 := starts_toks L p [⟨6, [], 0, e⟩]
 rw [hk] at h0
 have h1 := stmt_ok (D := 64) ho (Nat.le_refl _) h0 (end_tok e)
 unfold parseL
 rw [show (64 - ((64 : Nat) : Int)) = 0 from rfl] at h1
 rw [h1]
 rfl
end CM
end Go.Proofs.YtmdnhinpaflamaaGreatDoor
namespace Go.Proofs.YtmdnhinpaflamaaGreatDoor
open Go.RowKit
set_option linter.unusedVariables false
set_option linter.unusedSimpArgs false
namespace CM
open LexM (Tok)
open PM (B Ex Col It St PS zeroTok wordy two un colEx opOr opAnd opSum opTerm opComp)
open Pc (Pc Line okName okText render toks blanks)
theorem noname : okName [] = false := by decide
theorem pr_inj : ∀ {p q : Pr}, p.ok = true -> q.ok = true -> p.ex = q.ex -> p = q := by
 intro p
 induction p with
 |int v => intro q h1 h2 h; cases q <;> simp_all [Pr.ex, un, two, colEx]; all_goals omega
 |text t => intro q h1 h2 h; cases q <;> simp_all [Pr.ex, un, two, colEx]; all_goals omega
 |col n =>
  intro q h1 h2 h
  cases q <;> simp only [Pr.ex, un, two, colEx, Ex.mk.injEq] at h
  case col m => rw [h.2.2.2.2.2.1]
  case tcol t m =>
   rw [<- h.2.2.2.2.1] at h2
   simp [Pr.ok, noname] at h2
  all_goals exact absurd h.1 (by omega)
 |tcol t n =>
  intro q h1 h2 h
  cases q <;> simp only [Pr.ex, un, two, colEx, Ex.mk.injEq] at h
  case col m =>
   rw [h.2.2.2.2.1] at h1
   simp [Pr.ok, noname] at h1
  case tcol t' m => rw [h.2.2.2.2.1, h.2.2.2.2.2.1]
  all_goals exact absurd h.1 (by omega)
 |neg a ih =>
  intro q h1 h2 h
  cases q <;> simp only [Pr.ex, un, two, colEx, Ex.mk.injEq] at h
  case neg b =>
   rw [ih (q := b) h1 h2 (List.cons.inj h.2.2.2.2.2.2).1]
  all_goals exact absurd h.1 (by omega)
 |not a ih =>
  intro q h1 h2 h
  cases q <;> simp only [Pr.ex, un, two, colEx, Ex.mk.injEq] at h
  case not b =>
   rw [ih (q := b) h1 h2 (List.cons.inj h.2.2.2.2.2.2).1]
  all_goals exact absurd h.1 (by omega)
 |bin o a b iha ihb =>
  intro q h1 h2 h
  cases q <;> simp only [Pr.ex, un, two, colEx, Ex.mk.injEq] at h
  case bin o' a' b' =>
   simp only [Pr.ok, Bool.and_eq_true] at h1 h2
   have e := List.cons.inj h.2.2.2.2.2.2
   rw [iha h1.1.2 h2.1.2 e.1, ihb h1.2 h2.2 (List.cons.inj e.2).1, show o = o' by omega]
  all_goals exact absurd h.1 (by omega)
theorem map_inj {α β : Type} {f : α -> β} {p : α -> Bool} (h : ∀ {a b}, p a = true -> p b = true -> f a = f b -> a = b) : ∀ {l m : List α}, l.all p = true -> m.all p = true -> l.map f = m.map f -> l = m
 |[], [], _, _, _ => rfl
 |[], _ :: _, _, _, e => by cases e
 |_ :: _, [], _, _, e => by cases e
 |a :: l, b :: m, h1, h2, e => by
  simp only [List.all_cons, Bool.and_eq_true] at h1 h2
  simp only [List.map_cons, List.cons.injEq] at e
  rw [h h1.1 h2.1 e.1, map_inj h h1.2 h2.2 e.2]
theorem cl_inj {a b : Cl} (h : a.ex = b.ex) : a = b := by
 cases a
 cases b
 simp only [Cl.ex, colEx, Ex.mk.injEq] at h
 rw [h.2.2.2.2.1, h.2.2.2.2.2.1]
theorem im_inj {a b : Im} (h1 : a.ok = true) (h2 : b.ok = true) (h : a.it = b.it) : a = b := by
 cases a with
 |col c => cases b with
  |col d => obtain ⟨t, n⟩ := c; obtain ⟨t', n'⟩ := d; simp only [Im.it, It.mk.injEq] at h; rw [h.2.1, h.2.2]
  |count => simp [Im.it] at h
  |agg k d => simp only [Im.it, It.mk.injEq] at h; exact absurd h.1 (by omega)
 |count => cases b with
  |col d => simp [Im.it] at h
  |count => rfl
  |agg k d => simp only [Im.it, It.mk.injEq] at h; exact absurd h.1 (by omega)
 |agg k c => cases b with
  |col d => simp only [Im.it, It.mk.injEq] at h; exact absurd h.1 (by omega)
  |count => simp only [Im.it, It.mk.injEq] at h; exact absurd h.1 (by omega)
  |agg k' d => obtain ⟨t, n⟩ := c; obtain ⟨t', n'⟩ := d; simp only [Im.it, It.mk.injEq] at h; rw [h.2.1, h.2.2, show k = k' by omega]
theorem co_inj {a b : Co} (h : a.col = b.col) : a = b := by
 obtain ⟨n, t, r⟩ := a
 obtain ⟨n', t', r'⟩ := b
 simp only [Co.col, Col.mk.injEq] at h
 obtain ⟨rfl, h, rfl⟩ := h
 cases t <;> cases t' <;> simp at h <;> rfl
theorem wh_inj {D : Nat} {a b : Option Pr} (h1 : okW D a = true) (h2 : okW D b = true) (h : whE a = whE b) : a = b := by
 cases a with
 |none => cases b with
  |none => rfl
  |some y => cases h
 |some x => cases b with
  |none => cases h
  |some y => rw [pr_inj (okPr_ok h1) (okPr_ok h2) (List.cons.inj h).1]
theorem jn_inj {a b : Option (B × Cl × Cl)} (h1 : joinN a = joinN b) (h2 : joinE a = joinE b) : a = b := by
 cases a with
 |none => cases b with
  |none => rfl
  |some y => cases h2
 |some x => cases b with
  |none => cases h2
  |some y =>
   obtain ⟨j, c, d⟩ := x
   obtain ⟨j', c', d'⟩ := y
   simp only [joinN, joinE] at h1 h2
   have e := List.cons.inj h2
   rw [h1, cl_inj e.1, cl_inj (List.cons.inj e.2).1]
theorem or_inj {a b : Option (Cl × Bool)} (h1 : orderE a = orderE b) (h2 : orderD a = orderD b) : a = b := by
 cases a with
 |none => cases b with
  |none => rfl
  |some y => cases h1
 |some x => cases b with
  |none => cases h1
  |some y =>
   obtain ⟨c, d⟩ := x
   obtain ⟨c', d'⟩ := y
   simp only [orderE, orderD] at h1 h2
   rw [h2, cl_inj (List.cons.inj h1).1]
theorem sel_inj {D : Nat} {a b : Sel} (h1 : a.ok D = true) (h2 : b.ok D = true) (h : a.st = b.st) : a = b := by
 obtain ⟨its, t, j, wh, o⟩ := a
 obtain ⟨its', t', j', wh', o'⟩ := b
 simp only [Sel.ok, Bool.and_eq_true] at h1 h2
 simp only [Sel.st, St.mk.injEq] at h
 obtain ⟨_, rfl, _, _, _, _, e1, e2, e3, e4, e5, e6, _⟩ := h
 rw [map_inj im_inj h1.1.1.1.1 h2.1.1.1.1 e1, jn_inj e2 e3, wh_inj h1.1.2 h2.1.2 e4, or_inj e5 e6]
theorem wr_inj {D : Nat} {a b : Wr} (h1 : a.ok D = true) (h2 : b.ok D = true) (h : a.st = b.st) : a = b := by
 cases a <;> cases b <;> simp only [Wr.st, St.mk.injEq] at h <;> first | exact absurd h.1 (by decide) | skip
 ·rename_i t x r t' x' r'
  obtain ⟨_, rfl, _, _, _, e, _⟩ := h
  simp only [Wr.ok, Bool.and_eq_true] at h1 h2
  have e := List.cons.inj e
  rw [pr_inj (okPr_ok h1.1.2) (okPr_ok h2.1.2) e.1, map_inj (p := okPr D) (fun a b => pr_inj (okPr_ok a) (okPr_ok b)) h1.2 h2.2 e.2]
 ·rename_i t m x wh t' m' x' wh'
  obtain ⟨_, rfl, rfl, _, _, e, _, _, _, e2, _⟩ := h
  simp only [Wr.ok, Bool.and_eq_true] at h1 h2
  rw [pr_inj (okPr_ok h1.1.2) (okPr_ok h2.1.2) (List.cons.inj e).1, wh_inj h1.2 h2.2 e2]
 ·rename_i t wh t' wh'
  obtain ⟨_, rfl, _, _, _, _, _, _, _, e2, _⟩ := h
  simp only [Wr.ok, Bool.and_eq_true] at h1 h2
  rw [wh_inj h1.2 h2.2 e2]
theorem tag_inj {a b : Nat} (h : tagI a = tagI b) : a = b := by unfold tagI at h; omega
def St.kind : St -> Int | .mk k _ _ _ _ _ _ _ _ _ _ _ _ => k
theorem qs_inj {D : Nat} {a b : Qs} (h1 : a.ok D = true) (h2 : b.ok D = true) (h : a.st = b.st) : a = b := by
 cases a <;> cases b
 case table.table m c r m' c' r' =>
  simp only [Qs.st, St.mk.injEq] at h
  obtain ⟨_, _, rfl, e, _⟩ := h
  have e := List.cons.inj e
  simp only [Qs.ok, Bool.and_eq_true] at h1 h2
  rw [co_inj e.1, map_inj (p := Co.ok) (fun _ _ h => co_inj h) h1.2 h2.2 e.2]
 case index.index => simp only [Qs.st, St.mk.injEq] at h; obtain ⟨_, rfl, rfl, _⟩ := h; rfl
 case view.view m ts s m' ts' s' =>
  simp only [Qs.st, doorSt, St.mk.injEq] at h
  obtain ⟨_, _, rfl, _, e, _, _, _, _, _, _, _, e2⟩ := h
  simp only [Qs.ok, Bool.and_eq_true] at h1 h2
  rw [map_inj (p := okTag) (fun _ _ h => tag_inj h) h1.1.2 h2.1.2 e, sel_inj h1.2 h2.2 (List.cons.inj e2).1]
 case closure.closure m ts s m' ts' s' =>
  simp only [Qs.st, doorSt, St.mk.injEq] at h
  obtain ⟨_, _, rfl, _, e, _, _, _, _, _, _, _, e2⟩ := h
  simp only [Qs.ok, Bool.and_eq_true] at h1 h2
  rw [map_inj (p := okTag) (fun _ _ h => tag_inj h) h1.1.2 h2.1.2 e, wr_inj h1.2 h2.2 (List.cons.inj e2).1]
 case select.select s s' => rw [sel_inj h1 h2 h]
 case write.write s s' => rw [wr_inj h1 h2 h]
 case plain.plain k k' => simp only [Qs.st, St.ofKind, St.mk.injEq] at h; rw [show k = k' by omega]
 case raise.raise t r t' r' =>
  simp only [Qs.st, St.mk.injEq] at h
  have e := List.cons.inj h.2.2.2.2.1
  simp only [Qs.ok, Bool.and_eq_true] at h1 h2
  rw [tag_inj e.1, map_inj (p := okTag) (fun _ _ h => tag_inj h) h1.2 h2.2 e.2]
 case call.call => simp only [Qs.st, St.mk.injEq] at h; obtain ⟨_, _, rfl, _⟩ := h; rfl
 all_goals
  exfalso
  have hk := congrArg St.kind h
  simp only [Qs.ok, decide_eq_true_eq] at h1 h2
  first
  |(simp only [Qs.st, doorSt, Sel.st, St.ofKind, St.kind] at hk; omega)
  |(rename_i s _ _ _; cases s <;> simp only [Qs.st, Wr.st, doorSt, Sel.st, St.ofKind, St.kind] at hk <;> omega)
  |(rename_i s _ _; cases s <;> simp only [Qs.st, Wr.st, doorSt, Sel.st, St.ofKind, St.kind] at hk <;> omega)
  |(rename_i s _; cases s <;> simp only [Qs.st, Wr.st, doorSt, Sel.st, St.ofKind, St.kind] at hk <;> omega)
  |(rename_i s; cases s <;> simp only [Qs.st, Wr.st, doorSt, Sel.st, St.ofKind, St.kind] at hk <;> omega)
  |trace_state
end CM
end Go.Proofs.YtmdnhinpaflamaaGreatDoor
