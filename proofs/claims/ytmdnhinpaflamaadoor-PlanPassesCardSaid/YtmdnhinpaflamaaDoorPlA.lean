/- The words of a text, in plain Lean: what lex does, on lists of bytes. No program in sight. -/

namespace Go.Proofs.YtmdnhinpaflamaaDoor
namespace LexM

/-- a word of a text -/
structure Tok where
  kind : Int
  text : List UInt8
  int : Int
  pos : Nat

def words : List (List UInt8) := [[97, 110, 100], [97, 115], [98, 101, 103, 105, 110], [98, 121], [99, 97, 108, 108], [99, 108, 111, 115, 117, 114, 101], [99, 111, 109, 109, 105, 116], [99, 111, 117, 110, 116], [99, 114, 101, 97, 116, 101], [100, 101, 108, 101, 116, 101], [100, 101, 115, 99], [102, 114, 111, 109], [103, 114, 111, 117, 112], [105, 110, 100, 101, 120], [105, 110, 115, 101, 114, 116], [105, 110, 116], [105, 110, 116, 111], [106, 111, 105, 110], [109, 97, 120], [109, 105, 110], [110, 111, 116], [111, 110], [111, 114], [111, 114, 100, 101, 114], [114, 97, 105, 115, 101], [114, 101, 102], [114, 111, 108, 108, 98, 97, 99, 107], [115, 101, 108, 101, 99, 116], [115, 101, 116], [115, 116, 114, 105, 112], [115, 117, 109], [116, 97, 98, 108, 101], [116, 101, 120, 116], [117, 112, 100, 97, 116, 101], [118, 97, 108, 117, 101, 115], [118, 105, 101, 119], [119, 104, 101, 114, 101]]
def wordsText : List UInt8 := [97, 110, 100, 32, 97, 115, 32, 98, 101, 103, 105, 110, 32, 98, 121, 32, 99, 97, 108, 108, 32, 99, 108, 111, 115, 117, 114, 101, 32, 99, 111, 109, 109, 105, 116, 32, 99, 111, 117, 110, 116, 32, 99, 114, 101, 97, 116, 101, 32, 100, 101, 108, 101, 116, 101, 32, 100, 101, 115, 99, 32, 102, 114, 111, 109, 32, 103, 114, 111, 117, 112, 32, 105, 110, 100, 101, 120, 32, 105, 110, 115, 101, 114, 116, 32, 105, 110, 116, 32, 105, 110, 116, 111, 32, 106, 111, 105, 110, 32, 109, 97, 120, 32, 109, 105, 110, 32, 110, 111, 116, 32, 111, 110, 32, 111, 114, 32, 111, 114, 100, 101, 114, 32, 114, 97, 105, 115, 101, 32, 114, 101, 102, 32, 114, 111, 108, 108, 98, 97, 99, 107, 32, 115, 101, 108, 101, 99, 116, 32, 115, 101, 116, 32, 115, 116, 114, 105, 112, 32, 115, 117, 109, 32, 116, 97, 98, 108, 101, 32, 116, 101, 120, 116, 32, 117, 112, 100, 97, 116, 101, 32, 118, 97, 108, 117, 101, 115, 32, 118, 105, 101, 119, 32, 119, 104, 101, 114, 101]
def signs : List UInt8 := [40, 41, 44, 46, 61, 60, 62, 43, 45, 42]
def letter (c : UInt8) : Bool := decide (97 ≤ c.toNat ∧ c.toNat ≤ 122) || c == 95
def dig (c : UInt8) : Bool := decide (48 ≤ c.toNat ∧ c.toNat ≤ 57)
def nameByte (c : UInt8) : Bool := letter c || dig c

/-- what digits come to; above: it does not fit -/
def val (l : List UInt8) : Nat := l.foldl (fun v c => v * 10 + (c.toNat - 48)) 0

/-- a text value behind its first sign: what it holds, and what is left; or where it is none -/
def txt (p : Nat) : List UInt8 → Nat ⊕ (List UInt8 × Nat)
  | [] => .inl p
  | c :: r =>
    if c.toNat < 32 ∨ 126 < c.toNat then .inl p
    else if c = 39 then
      match r with
      | d :: r' => if d = 39 then (match txt (p + 2) r' with | .inl q => .inl q | .inr (l, q) => .inr (39 :: l, q)) else .inr ([], p + 1)
      | [] => .inr ([], p + 1)
    else match txt (p + 1) r with | .inl q => .inl q | .inr (l, q) => .inr (c :: l, q)

/-- the word at hand (s: what is left, from place p on, not empty): the word and the place behind it; or where and why there is none -/
def tok1 (p : Nat) (s : List UInt8) : (Nat × Int) ⊕ (Tok × Nat) :=
  match s with
  | [] => .inl (p, 4)
  | c :: r =>
    if letter c then
      let t := s.takeWhile nameByte
      if words.contains t then .inr (⟨2, t, 0, p⟩, p + t.length)
      else if 16 < t.length then .inl (p, 7)
      else .inr (⟨1, t, 0, p⟩, p + t.length)
    else if dig c then
      let t := s.takeWhile dig
      if ((s.drop t.length).headD 0 |> letter) then .inl (p + t.length, 4)
      else if 9223372036854775807 < val t then .inl (p, 8)
      else .inr (⟨3, [], val t, p⟩, p + t.length)
    else if c = 39 then
      match txt (p + 1) r with
      | .inl q => .inl (q, 4)
      | .inr (l, q) => if 30 < l.length then .inl (p, 7) else .inr (⟨4, l, 0, p⟩, q)
    else if signs.contains c then
      let d := r.headD 0
      if (c = 60 ∧ (d = 62 ∨ d = 61)) ∨ (c = 62 ∧ d = 61) then .inr (⟨5, [c, d], 0, p⟩, p + 2)
      else .inr (⟨5, [c], 0, p⟩, p + 1)
    else .inl (p, 4)

/-- the words from place p on; 'n': more than are left -/
def lexN (S : List UInt8) : Nat → Nat → (Nat × Int) ⊕ List Tok
  | 0, p => .inl (p, 0)
  | n + 1, p =>
    match S.drop p with
    | [] => .inr [⟨6, [], 0, S.length⟩]
    | c :: r =>
      if c = 32 then lexN S n (p + 1)
      else match tok1 p (c :: r) with
        | .inl e => .inl e
        | .inr (t, q) => match lexN S n q with
          | .inl e => .inl e
          | .inr l => .inr (t :: l)

/-- Lex -/
def lex (S : List UInt8) : (Nat × Int) ⊕ List Tok :=
  if 400 < S.length then .inl (0, 7) else lexN S (S.length + 1) 0

/-! ### how far a word reaches -/
theorem txt_bound : ∀ (n : Nat) (s : List UInt8) (p : Nat), s.length ≤ n → (∀ q, txt p s = .inl q → p ≤ q ∧ q ≤ p + s.length) ∧ (∀ l q, txt p s = .inr (l, q) → p < q ∧ q ≤ p + s.length ∧ l.length ≤ q - p)
  | 0, s, p, h => by
    obtain rfl := List.eq_nil_of_length_eq_zero (by omega : s.length = 0)
    exact ⟨fun q e => (by simp [txt] at e; omega), fun l q e => (by simp [txt] at e)⟩
  | n + 1, s, p, h => by
    cases s with
    | nil => exact ⟨fun q e => (by simp [txt] at e; omega), fun l q e => (by simp [txt] at e)⟩
    | cons c r =>
      simp only [List.length_cons] at h
      unfold txt
      by_cases h1 : c.toNat < 32 ∨ 126 < c.toNat
      · rw [if_pos h1]
        exact ⟨fun q e => (by simp at e; simp; omega), fun l q e => (by simp at e)⟩
      · rw [if_neg h1]
        by_cases h2 : c = 39
        · rw [if_pos h2]
          cases r with
          | nil => exact ⟨fun q e => (by simp at e), fun l q e => (by simp at e; obtain ⟨rfl, rfl⟩ := e; simp)⟩
          | cons d r' =>
            simp only []
            by_cases h3 : d = 39
            · rw [if_pos h3]
              simp only [List.length_cons] at h
              obtain ⟨i1, i2⟩ := txt_bound n r' (p + 2) (by omega)
              cases ht : txt (p + 2) r' with
              | inl q =>
                have := i1 q ht
                exact ⟨fun q' e => (by simp at e; subst e; simp; omega), fun l q' e => (by simp at e)⟩
              | inr x =>
                obtain ⟨l, q⟩ := x
                have := i2 l q ht
                exact ⟨fun q' e => (by simp at e), fun l' q' e => (by simp at e; obtain ⟨rfl, rfl⟩ := e; simp; omega)⟩
            · rw [if_neg h3]
              exact ⟨fun q e => (by simp at e), fun l q e => (by simp at e; obtain ⟨rfl, rfl⟩ := e; simp)⟩
        · rw [if_neg h2]
          obtain ⟨i1, i2⟩ := txt_bound n r (p + 1) (by omega)
          cases ht : txt (p + 1) r with
          | inl q =>
            have := i1 q ht
            exact ⟨fun q' e => (by simp at e; subst e; simp; omega), fun l q' e => (by simp at e)⟩
          | inr x =>
            obtain ⟨l, q⟩ := x
            have := i2 l q ht
            exact ⟨fun q' e => (by simp at e), fun l' q' e => (by simp at e; obtain ⟨rfl, rfl⟩ := e; simp; omega)⟩

theorem takeWhile_len (f : UInt8 → Bool) (s : List UInt8) : (s.takeWhile f).length ≤ s.length := by
  induction s with
  | nil => simp
  | cons c r ih => rw [List.takeWhile_cons]; split <;> simp <;> omega
theorem takeWhile_pos {f : UInt8 → Bool} {c : UInt8} {r : List UInt8} (h : f c = true) : 0 < ((c :: r).takeWhile f).length := by
  rw [List.takeWhile_cons, if_pos h]; simp

theorem tok1_next {p : Nat} {s : List UInt8} {t : Tok} {q : Nat} (h : tok1 p s = .inr (t, q)) : p < q ∧ q ≤ p + s.length ∧ t.pos = p := by
  cases s with
  | nil => simp [tok1] at h
  | cons c r =>
    simp only [tok1] at h
    split at h
    · rename_i hl
      have h1 : 0 < ((c :: r).takeWhile nameByte).length := takeWhile_pos (by simp [nameByte, hl])
      have h2 := takeWhile_len nameByte (c :: r)
      split at h
      · simp only [Sum.inr.injEq, Prod.mk.injEq] at h; obtain ⟨rfl, rfl⟩ := h; rw [List.length_cons] at h2; refine ⟨by omega, by rw [List.length_cons]; omega, rfl⟩
      · split at h
        · simp at h
        · simp only [Sum.inr.injEq, Prod.mk.injEq] at h; obtain ⟨rfl, rfl⟩ := h; rw [List.length_cons] at h2; refine ⟨by omega, by rw [List.length_cons]; omega, rfl⟩
    · split at h
      · rename_i hd
        have h1 : 0 < ((c :: r).takeWhile dig).length := takeWhile_pos hd
        have h2 := takeWhile_len dig (c :: r)
        split at h
        · simp at h
        · split at h
          · simp at h
          · simp only [Sum.inr.injEq, Prod.mk.injEq] at h; obtain ⟨rfl, rfl⟩ := h; rw [List.length_cons] at h2; refine ⟨by omega, by rw [List.length_cons]; omega, rfl⟩
      · split at h
        · cases ht : txt (p + 1) r with
          | inl q' => rw [ht] at h; simp at h
          | inr x =>
            obtain ⟨l, q'⟩ := x
            rw [ht] at h
            have := (txt_bound r.length r (p + 1) (Nat.le_refl _)).2 l q' ht
            simp only [] at h
            split at h
            · simp at h
            · simp only [Sum.inr.injEq, Prod.mk.injEq] at h; obtain ⟨rfl, rfl⟩ := h; refine ⟨by omega, by rw [List.length_cons]; omega, rfl⟩
        · split at h
          · split at h
            · rename_i hs
              have : 1 ≤ r.length := by
                cases r with
                | nil => simp at hs
                | cons => simp
              simp only [Sum.inr.injEq, Prod.mk.injEq] at h; obtain ⟨rfl, rfl⟩ := h; refine ⟨by omega, by rw [List.length_cons]; omega, rfl⟩
            · simp only [Sum.inr.injEq, Prod.mk.injEq] at h; obtain ⟨rfl, rfl⟩ := h; refine ⟨by omega, by rw [List.length_cons]; omega, rfl⟩
          · simp at h
end LexM
end Go.Proofs.YtmdnhinpaflamaaDoor
namespace Go.Proofs.YtmdnhinpaflamaaDoor
namespace PM
open LexM (Tok)

abbrev B := List UInt8
/-- an expression: its operation, its value's kind, number and text, table, name, what it is of -/
inductive Ex where
  | mk (op kind int : Int) (text table name : B) (args : List Ex) : Ex
structure Col where
  name : B
  kind : Int
  ref : B
structure It where
  agg : Int
  table : B
  name : B
/-- a statement -/
inductive St where
  | mk (kind : Int) (table name : B) (cols : List Col) (tags : List Int) (values : List Ex) (items : List It) (join : B) (on wher order : List Ex) (desc : Bool) (inner : List St) : St

def Ex.zero : Ex := .mk 0 0 0 [] [] [] []
def St.zero : St := .mk 0 [] [] [] [] [] [] [] [] [] [] false []
def St.ofKind (k : Int) : St := .mk k [] [] [] [] [] [] [] [] [] [] false []
def two (op : Int) (a b : Ex) : Ex := .mk op 0 0 [] [] [] [a, b]
def un (op : Int) (a : Ex) : Ex := .mk op 0 0 [] [] [] [a]
def colEx (t n : B) : Ex := .mk 2 0 0 [] t n []

/-- the parser: the words left, how deep, the first error and where -/
structure PS where
  l : List Tok
  deep : Int
  pos : Int
  e : Int

def zeroTok : Tok := ⟨0, [], 0, 0⟩
def PS.now (s : PS) : Tok := s.l.headD zeroTok
def fails (x : Int) (s : PS) : PS := if s.e = 0 then { s with e := x, pos := s.now.pos } else s
/-- a word, or a sign -/
def wordy (t : Tok) : Bool := t.kind == 2 || t.kind == 5
def is (w : B) (s : PS) : Bool := s.e == 0 && wordy s.now && s.now.text == w
def skip (s : PS) : PS := { s with l := s.l.tail }
def skips (w : B) (s : PS) : Bool × PS := if is w s then (true, skip s) else (false, s)
def need (w : B) (s : PS) : PS := if is w s then skip s else fails 5 s
def needs : List B → PS → PS
  | [], s => s
  | w :: r, s => needs r (need w s)
def word (k : Int) (s : PS) : Tok × PS := if s.e ≠ 0 ∨ s.now.kind ≠ k then (zeroTok, fails 5 s) else (s.now, skip s)
def name (s : PS) : B × PS := let (t, s) := word 1 s; (t.text, s)

/-- more behind commas ('f': more than there are) -/
def more {α : Type} (one : PS → α × PS) : Nat → List α → PS → List α × PS
  | 0, acc, s => (acc, s)
  | f + 1, acc, s =>
    if is [44] s then
      let (x, s) := one (skip s)
      more one f (acc ++ [x]) s
    else (acc, s)
def list {α : Type} (one : PS → α × PS) (s : PS) : List α × PS :=
  let (x, s) := one s
  more one s.l.length [x] s

def tag (s : PS) : Int × PS :=
  let s := if s.now.kind = 3 ∧ 65535 < s.now.int then fails 3 s else s
  let (t, s) := word 3 s
  (t.int % 65536, s)
def column (s : PS) : Ex × PS :=
  let (n, s) := name s
  if is [46] s then
    let (m, s) := name (skip s)
    (colEx n m, s)
  else (colEx [] n, s)
/-- one deeper -/
def nests (sign : B) (inn : PS → Ex × PS) (s : PS) : Ex × PS :=
  if s.deep = 64 then (.zero, fails 6 s)
  else
    let s := needs [sign] s
    let (x, s) := inn { s with deep := s.deep + 1 }
    (x, { s with deep := s.deep - 1 })
def sign (s : PS) : B := if s.e == 0 && wordy s.now then s.now.text else []
/-- more behind some signs -/
def rowsF (one : PS → Ex × PS) (ops : B → Option Int) : Nat → Ex → PS → Ex × PS
  | 0, x, s => (x, s)
  | f + 1, x, s => match ops (sign s) with
    | none => (x, s)
    | some op =>
      let (y, s) := one (skip s)
      rowsF one ops f (two op x y) s
def rows (one : PS → Ex × PS) (ops : B → Option Int) (s : PS) : Ex × PS :=
  let (x, s) := one s
  rowsF one ops s.l.length x s

def opOr (w : B) : Option Int := if w = [111, 114] then some 15 else none
def opAnd (w : B) : Option Int := if w = [97, 110, 100] then some 14 else none
def opSum (w : B) : Option Int := if w = [43] then some 5 else if w = [45] then some 6 else none
def opTerm (w : B) : Option Int := if w = [42] then some 7 else none
def opComp (w : B) : Option Int :=
  if w = [61] then some 8 else if w = [60, 62] then some 9 else if w = [60] then some 10 else if w = [60, 61] then some 11 else if w = [62] then some 12 else if w = [62, 61] then some 13 else none

def exprF (nt : PS → Ex × PS) (s : PS) : Ex × PS := rows (rows nt opAnd) opOr s
def sumF (u : PS → Ex × PS) (s : PS) : Ex × PS := rows (rows u opTerm) opSum s
def compF (u : PS → Ex × PS) (s : PS) : Ex × PS :=
  let (x, s) := sumF u s
  match opComp (sign s) with
  | none => (x, s)
  | some op =>
    let (y, s) := sumF u (skip s)
    (two op x y, s)
def notF (u nt : PS → Ex × PS) (s : PS) : Ex × PS :=
  if is [110, 111, 116] s then nests [110, 111, 116] (fun s => let (x, s) := nt s; (un 4 x, s)) s else compF u s
def unaryF (u nt : PS → Ex × PS) (s : PS) : Ex × PS :=
  if is [45] s then nests [45] (fun s => let (x, s) := u s; (un 3 x, s)) s
  else if is [40] s then nests [40] (fun s => let (x, s) := exprF nt s; (x, needs [[41]] s)) s
  else if s.now.kind = 3 then let (t, s) := word 3 s; (.mk 1 1 t.int [] [] [] [], s)
  else if s.now.kind = 4 then let (t, s) := word 4 s; (.mk 1 2 0 t.text [] [] [], s)
  else column s
/-- a unary, a not: so many words deep at most -/
def lev : Nat → (PS → Ex × PS) × (PS → Ex × PS)
  | 0 => (fun s => (.zero, s), fun s => (.zero, s))
  | n + 1 => (unaryF (lev n).1 (lev n).2, notF (unaryF (lev n).1 (lev n).2) (lev n).2)
def expr (n : Nat) (s : PS) : Ex × PS := exprF (lev n).2 s

def col (s : PS) : Col × PS :=
  let (n, s) := name s
  let (k, s) := if is [105, 110, 116] s then ((1 : Int), skip s) else if is [116, 101, 120, 116] s then (2, skip s) else (0, fails 5 s)
  if is [114, 101, 102] s then
    let (r, s) := name (skip s)
    (⟨n, k, r⟩, s)
  else (⟨n, k, []⟩, s)
def item (s : PS) : It × PS :=
  if is [99, 111, 117, 110, 116] s then (⟨1, [], []⟩, needs [[40], [42], [41]] (skip s))
  else
    let agg : Int := if sign s = [115, 117, 109] then 2 else if sign s = [109, 105, 110] then 3 else if sign s = [109, 97, 120] then 4 else 0
    if agg = 0 then
      match column s with | (.mk _ _ _ _ t n _, s) => (⟨0, t, n⟩, s)
    else
      match column (needs [[40]] (skip s)) with | (.mk _ _ _ _ t n _, s) => (⟨agg, t, n⟩, needs [[41]] s)
def wheres (n : Nat) (s : PS) : List Ex × PS :=
  if is [119, 104, 101, 114, 101] s then
    let (x, s) := expr n (skip s)
    ([x], s)
  else ([], s)
def selects (n : Nat) (s : PS) : St × PS :=
  let (items, s) := if is [42] s then ([], skip s) else list item s
  let s := needs [[102, 114, 111, 109]] s
  let (table, s) := name s
  let (join, on, s) := if is [106, 111, 105, 110] s then
      let (j, s) := name (skip s)
      let s := needs [[111, 110]] s
      let (a, s) := column s
      let s := needs [[61]] s
      let (b, s) := column s
      (j, [a, b], s)
    else ([], [], s)
  let (wh, s) := wheres n s
  let (order, desc, s) := if is [111, 114, 100, 101, 114] s then
      let s := needs [[98, 121]] (skip s)
      let (c, s) := column s
      let (d, s) := skips [100, 101, 115, 99] s
      ([c], d, s)
    else ([], false, s)
  (.mk 6 table [] [] [] [] items join on wh order desc [], s)
/-- an insert, an update, a delete, a select -/
def data (n : Nat) (s : PS) : Option (St × PS) :=
  if is [105, 110, 115, 101, 114, 116] s then
    let s := needs [[105, 110, 116, 111]] (skip s)
    let (t, s) := name s
    let s := needs [[118, 97, 108, 117, 101, 115], [40]] s
    let (vs, s) := list (expr n) s
    some (.mk 5 t [] [] [] vs [] [] [] [] [] false [], needs [[41]] s)
  else if is [115, 101, 108, 101, 99, 116] s then some (selects n (skip s))
  else if is [117, 112, 100, 97, 116, 101] s then
    let (t, s) := name (skip s)
    let s := needs [[115, 101, 116]] s
    let (m, s) := name s
    let s := needs [[61]] s
    let (x, s) := expr n s
    let (wh, s) := wheres n s
    some (.mk 7 t m [] [] [x] [] [] [] wh [] false [], s)
  else if is [100, 101, 108, 101, 116, 101] s then
    let s := needs [[102, 114, 111, 109]] (skip s)
    let (t, s) := name s
    let (wh, s) := wheres n s
    some (.mk 8 t [] [] [] [] [] [] [] wh [] false [], s)
  else none
def door (n : Nat) (kind : Int) (inner : List B) (s : PS) : St × PS :=
  let (m, s) := name s
  let s := needs [[115, 116, 114, 105, 112]] s
  let (tags, s) := if s.now.kind = 3 then list tag s else ([], s)
  let s := needs [[97, 115]] s
  if inner.any (fun w => is w s) then
    match data n s with
    | some (st, s) => (.mk kind [] m [] tags [] [] [] [] [] [] false [st], s)
    | none => (.mk kind [] m [] tags [] [] [] [] [] [] false [], s)
  else (.mk kind [] m [] tags [] [] [] [] [] [] false [], fails 5 s)
def create (n : Nat) (s : PS) : St × PS :=
  if is [116, 97, 98, 108, 101] s then
    let (m, s) := name (skip s)
    let s := needs [[40]] s
    let (cs, s) := list col s
    (.mk 1 [] m cs [] [] [] [] [] [] [] false [], needs [[41]] s)
  else if is [105, 110, 100, 101, 120] s then
    let s := needs [[111, 110]] (skip s)
    let (t, s) := name s
    let s := needs [[40]] s
    let (m, s) := name s
    (.mk 2 t m [] [] [] [] [] [] [] [] false [], needs [[41]] s)
  else if is [118, 105, 101, 119] s then door n 3 [[115, 101, 108, 101, 99, 116]] (skip s)
  else if is [99, 108, 111, 115, 117, 114, 101] s then door n 4 [[105, 110, 115, 101, 114, 116], [117, 112, 100, 97, 116, 101], [100, 101, 108, 101, 116, 101]] (skip s)
  else (.zero, fails 5 s)
def stmt (n : Nat) (s : PS) : St × PS :=
  if is [99, 114, 101, 97, 116, 101] s then create n (skip s)
  else match data n s with
    | some r => r
    | none =>
      if is [114, 97, 105, 115, 101] s then
        let (tags, s) := list tag (skip s)
        (.mk 12 [] [] [] tags [] [] [] [] [] [] false [], s)
      else if is [99, 97, 108, 108] s then
        let (m, s) := name (skip s)
        (.mk 13 [] m [] [] [] [] [] [] [] [] false [], s)
      else if is [98, 101, 103, 105, 110] s then (.ofKind 9, skip s)
      else if is [99, 111, 109, 109, 105, 116] s then (.ofKind 10, skip s)
      else if is [114, 111, 108, 108, 98, 97, 99, 107] s then (.ofKind 11, skip s)
      else (.zero, fails 5 s)
/-- Parse: the statement; or where and why it is none -/
def parse (S : B) : (Int × Int) ⊕ St :=
  match LexM.lex S with
  | .inl (q, x) => .inl (q, x)
  | .inr l =>
    let (st, s) := stmt l.length ⟨l, 0, 0, 0⟩
    let s := if s.now.kind ≠ 6 then fails 5 s else s
    if s.e ≠ 0 then .inl (s.pos, s.e) else .inr st
end PM
end Go.Proofs.YtmdnhinpaflamaaDoor
