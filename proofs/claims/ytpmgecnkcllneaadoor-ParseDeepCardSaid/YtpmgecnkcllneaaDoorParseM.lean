/- The statements of a text, in plain Lean: what parse does, on lists of words. No program in sight. -/
import Derived.Test.YtpmgecnkcllneaaDoorLexM
namespace Go.Proofs.YtpmgecnkcllneaaDoor
namespace PM
open LexM (Tok)

abbrev B := List UInt8
/-- an expression: its operation, its value's kind, number and text, table, name, what it is of -/
inductive Ex where
  | mk (op kind int : Int) (text table name : B) (args : List Ex) : Ex
structure Col where
  name : B
  kind : Int
  ref : B
structure It where
  agg : Int
  table : B
  name : B
/-- a statement -/
inductive St where
  | mk (kind : Int) (table name : B) (cols : List Col) (tags : List Int) (values : List Ex) (items : List It) (join : B) (on wher order : List Ex) (desc : Bool) (inner : List St) : St

def Ex.zero : Ex := .mk 0 0 0 [] [] [] []
def St.zero : St := .mk 0 [] [] [] [] [] [] [] [] [] [] false []
def St.ofKind (k : Int) : St := .mk k [] [] [] [] [] [] [] [] [] [] false []
def two (op : Int) (a b : Ex) : Ex := .mk op 0 0 [] [] [] [a, b]
def un (op : Int) (a : Ex) : Ex := .mk op 0 0 [] [] [] [a]
def colEx (t n : B) : Ex := .mk 2 0 0 [] t n []

/-- the parser: the words left, how deep, the first error and where -/
structure PS where
  l : List Tok
  deep : Int
  pos : Int
  e : Int

def zeroTok : Tok := ⟨0, [], 0, 0⟩
def PS.now (s : PS) : Tok := s.l.headD zeroTok
def fails (x : Int) (s : PS) : PS := if s.e = 0 then { s with e := x, pos := s.now.pos } else s
/-- a word, or a sign -/
def wordy (t : Tok) : Bool := t.kind == 2 || t.kind == 5
def is (w : B) (s : PS) : Bool := s.e == 0 && wordy s.now && s.now.text == w
def skip (s : PS) : PS := { s with l := s.l.tail }
def skips (w : B) (s : PS) : Bool × PS := if is w s then (true, skip s) else (false, s)
def need (w : B) (s : PS) : PS := if is w s then skip s else fails 5 s
def needs : List B → PS → PS
  | [], s => s
  | w :: r, s => needs r (need w s)
def word (k : Int) (s : PS) : Tok × PS := if s.e ≠ 0 ∨ s.now.kind ≠ k then (zeroTok, fails 5 s) else (s.now, skip s)
def name (s : PS) : B × PS := let (t, s) := word 1 s; (t.text, s)

/-- more behind commas ('f': more than there are) -/
def more {α : Type} (one : PS → α × PS) : Nat → List α → PS → List α × PS
  | 0, acc, s => (acc, s)
  | f + 1, acc, s =>
    if is [44] s then
      let (x, s) := one (skip s)
      more one f (acc ++ [x]) s
    else (acc, s)
def list {α : Type} (one : PS → α × PS) (s : PS) : List α × PS :=
  let (x, s) := one s
  more one s.l.length [x] s

def tag (s : PS) : Int × PS :=
  let s := if s.now.kind = 3 ∧ 65535 < s.now.int then fails 3 s else s
  let (t, s) := word 3 s
  (t.int % 65536, s)
def column (s : PS) : Ex × PS :=
  let (n, s) := name s
  if is [46] s then
    let (m, s) := name (skip s)
    (colEx n m, s)
  else (colEx [] n, s)
/-- one deeper -/
def nests (sign : B) (inn : PS → Ex × PS) (s : PS) : Ex × PS :=
  if s.deep = 64 then (.zero, fails 6 s)
  else
    let s := needs [sign] s
    let (x, s) := inn { s with deep := s.deep + 1 }
    (x, { s with deep := s.deep - 1 })
def sign (s : PS) : B := if s.e == 0 && wordy s.now then s.now.text else []
/-- more behind some signs -/
def rowsF (one : PS → Ex × PS) (ops : B → Option Int) : Nat → Ex → PS → Ex × PS
  | 0, x, s => (x, s)
  | f + 1, x, s => match ops (sign s) with
    | none => (x, s)
    | some op =>
      let (y, s) := one (skip s)
      rowsF one ops f (two op x y) s
def rows (one : PS → Ex × PS) (ops : B → Option Int) (s : PS) : Ex × PS :=
  let (x, s) := one s
  rowsF one ops s.l.length x s

def opOr (w : B) : Option Int := if w = [111, 114] then some 15 else none
def opAnd (w : B) : Option Int := if w = [97, 110, 100] then some 14 else none
def opSum (w : B) : Option Int := if w = [43] then some 5 else if w = [45] then some 6 else none
def opTerm (w : B) : Option Int := if w = [42] then some 7 else none
def opComp (w : B) : Option Int :=
  if w = [61] then some 8 else if w = [60, 62] then some 9 else if w = [60] then some 10 else if w = [60, 61] then some 11 else if w = [62] then some 12 else if w = [62, 61] then some 13 else none

def exprF (nt : PS → Ex × PS) (s : PS) : Ex × PS := rows (rows nt opAnd) opOr s
def sumF (u : PS → Ex × PS) (s : PS) : Ex × PS := rows (rows u opTerm) opSum s
def compF (u : PS → Ex × PS) (s : PS) : Ex × PS :=
  let (x, s) := sumF u s
  match opComp (sign s) with
  | none => (x, s)
  | some op =>
    let (y, s) := sumF u (skip s)
    (two op x y, s)
def notF (u nt : PS → Ex × PS) (s : PS) : Ex × PS :=
  if is [110, 111, 116] s then nests [110, 111, 116] (fun s => let (x, s) := nt s; (un 4 x, s)) s else compF u s
def unaryF (u nt : PS → Ex × PS) (s : PS) : Ex × PS :=
  if is [45] s then nests [45] (fun s => let (x, s) := u s; (un 3 x, s)) s
  else if is [40] s then nests [40] (fun s => let (x, s) := exprF nt s; (x, needs [[41]] s)) s
  else if s.now.kind = 3 then let (t, s) := word 3 s; (.mk 1 1 t.int [] [] [] [], s)
  else if s.now.kind = 4 then let (t, s) := word 4 s; (.mk 1 2 0 t.text [] [] [], s)
  else column s
/-- a unary, a not: so many words deep at most -/
def lev : Nat → (PS → Ex × PS) × (PS → Ex × PS)
  | 0 => (fun s => (.zero, s), fun s => (.zero, s))
  | n + 1 => (unaryF (lev n).1 (lev n).2, notF (unaryF (lev n).1 (lev n).2) (lev n).2)
def expr (n : Nat) (s : PS) : Ex × PS := exprF (lev n).2 s

def col (s : PS) : Col × PS :=
  let (n, s) := name s
  let (k, s) := if is [105, 110, 116] s then ((1 : Int), skip s) else if is [116, 101, 120, 116] s then (2, skip s) else (0, fails 5 s)
  if is [114, 101, 102] s then
    let (r, s) := name (skip s)
    (⟨n, k, r⟩, s)
  else (⟨n, k, []⟩, s)
def item (s : PS) : It × PS :=
  if is [99, 111, 117, 110, 116] s then (⟨1, [], []⟩, needs [[40], [42], [41]] (skip s))
  else
    let agg : Int := if sign s = [115, 117, 109] then 2 else if sign s = [109, 105, 110] then 3 else if sign s = [109, 97, 120] then 4 else 0
    if agg = 0 then
      match column s with | (.mk _ _ _ _ t n _, s) => (⟨0, t, n⟩, s)
    else
      match column (needs [[40]] (skip s)) with | (.mk _ _ _ _ t n _, s) => (⟨agg, t, n⟩, needs [[41]] s)
def wheres (n : Nat) (s : PS) : List Ex × PS :=
  if is [119, 104, 101, 114, 101] s then
    let (x, s) := expr n (skip s)
    ([x], s)
  else ([], s)
def selects (n : Nat) (s : PS) : St × PS :=
  let (items, s) := if is [42] s then ([], skip s) else list item s
  let s := needs [[102, 114, 111, 109]] s
  let (table, s) := name s
  let (join, on, s) := if is [106, 111, 105, 110] s then
      let (j, s) := name (skip s)
      let s := needs [[111, 110]] s
      let (a, s) := column s
      let s := needs [[61]] s
      let (b, s) := column s
      (j, [a, b], s)
    else ([], [], s)
  let (wh, s) := wheres n s
  let (order, desc, s) := if is [111, 114, 100, 101, 114] s then
      let s := needs [[98, 121]] (skip s)
      let (c, s) := column s
      let (d, s) := skips [100, 101, 115, 99] s
      ([c], d, s)
    else ([], false, s)
  (.mk 6 table [] [] [] [] items join on wh order desc [], s)
/-- an insert, an update, a delete, a select -/
def data (n : Nat) (s : PS) : Option (St × PS) :=
  if is [105, 110, 115, 101, 114, 116] s then
    let s := needs [[105, 110, 116, 111]] (skip s)
    let (t, s) := name s
    let s := needs [[118, 97, 108, 117, 101, 115], [40]] s
    let (vs, s) := list (expr n) s
    some (.mk 5 t [] [] [] vs [] [] [] [] [] false [], needs [[41]] s)
  else if is [115, 101, 108, 101, 99, 116] s then some (selects n (skip s))
  else if is [117, 112, 100, 97, 116, 101] s then
    let (t, s) := name (skip s)
    let s := needs [[115, 101, 116]] s
    let (m, s) := name s
    let s := needs [[61]] s
    let (x, s) := expr n s
    let (wh, s) := wheres n s
    some (.mk 7 t m [] [] [x] [] [] [] wh [] false [], s)
  else if is [100, 101, 108, 101, 116, 101] s then
    let s := needs [[102, 114, 111, 109]] (skip s)
    let (t, s) := name s
    let (wh, s) := wheres n s
    some (.mk 8 t [] [] [] [] [] [] [] wh [] false [], s)
  else none
def door (n : Nat) (kind : Int) (inner : List B) (s : PS) : St × PS :=
  let (m, s) := name s
  let s := needs [[115, 116, 114, 105, 112]] s
  let (tags, s) := if s.now.kind = 3 then list tag s else ([], s)
  let s := needs [[97, 115]] s
  if inner.any (fun w => is w s) then
    match data n s with
    | some (st, s) => (.mk kind [] m [] tags [] [] [] [] [] [] false [st], s)
    | none => (.mk kind [] m [] tags [] [] [] [] [] [] false [], s)
  else (.mk kind [] m [] tags [] [] [] [] [] [] false [], fails 5 s)
def create (n : Nat) (s : PS) : St × PS :=
  if is [116, 97, 98, 108, 101] s then
    let (m, s) := name (skip s)
    let s := needs [[40]] s
    let (cs, s) := list col s
    (.mk 1 [] m cs [] [] [] [] [] [] [] false [], needs [[41]] s)
  else if is [105, 110, 100, 101, 120] s then
    let s := needs [[111, 110]] (skip s)
    let (t, s) := name s
    let s := needs [[40]] s
    let (m, s) := name s
    (.mk 2 t m [] [] [] [] [] [] [] [] false [], needs [[41]] s)
  else if is [118, 105, 101, 119] s then door n 3 [[115, 101, 108, 101, 99, 116]] (skip s)
  else if is [99, 108, 111, 115, 117, 114, 101] s then door n 4 [[105, 110, 115, 101, 114, 116], [117, 112, 100, 97, 116, 101], [100, 101, 108, 101, 116, 101]] (skip s)
  else (.zero, fails 5 s)
def stmt (n : Nat) (s : PS) : St × PS :=
  if is [99, 114, 101, 97, 116, 101] s then create n (skip s)
  else match data n s with
    | some r => r
    | none =>
      if is [114, 97, 105, 115, 101] s then
        let (tags, s) := list tag (skip s)
        (.mk 12 [] [] [] tags [] [] [] [] [] [] false [], s)
      else if is [99, 97, 108, 108] s then
        let (m, s) := name (skip s)
        (.mk 13 [] m [] [] [] [] [] [] [] [] false [], s)
      else if is [98, 101, 103, 105, 110] s then (.ofKind 9, skip s)
      else if is [99, 111, 109, 109, 105, 116] s then (.ofKind 10, skip s)
      else if is [114, 111, 108, 108, 98, 97, 99, 107] s then (.ofKind 11, skip s)
      else (.zero, fails 5 s)
/-- Parse: the statement; or where and why it is none -/
def parse (S : B) : (Int × Int) ⊕ St :=
  match LexM.lex S with
  | .inl (q, x) => .inl (q, x)
  | .inr l =>
    let (st, s) := stmt l.length ⟨l, 0, 0, 0⟩
    let s := if s.now.kind ≠ 6 then fails 5 s else s
    if s.e ≠ 0 then .inl (s.pos, s.e) else .inr st
end PM
end Go.Proofs.YtpmgecnkcllneaaDoor
