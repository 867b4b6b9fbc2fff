/- Texts made of words, with spaces between. No program in sight. -/
import Derived.Test.YtpmgecnkcllneaaDoorLexM
import Derived.Lib.ItoaLen
namespace Go.Proofs.YtpmgecnkcllneaaDoor
open Go.RowKit
namespace Pc
open LexM (Tok)
abbrev B := List UInt8

/-- the digits; none of nought -/
def digs (n : Nat) : List UInt8 := if n = 0 then [] else Lib.decDigits n
theorem dec_step (n : Nat) : Lib.decDigits n = digs (n / 10) ++ [UInt8.ofNat (48 + n % 10)] := by
  rw [Lib.decDigits]
  unfold digs
  split
  · rename_i h
    rw [if_pos (by omega), Nat.mod_eq_of_lt h]; rfl
  · rw [if_neg (by omega)]
/-- each mark twice -/
def quo : B → B
  | [] => []
  | c :: r => if c = 39 then 39 :: 39 :: quo r else c :: quo r
def good (c : UInt8) : Bool := decide (32 ≤ c.toNat) && decide (c.toNat ≤ 126)
/-- a word of a text -/
inductive Pc where
  | name (t : B)
  | word (t : B)
  | num (v : Nat)
  | text (t : B)
  | sign (t : B)
def Pc.bytes : Pc → B
  | .name t => t
  | .word t => t
  | .num v => Lib.decDigits v
  | .text t => 39 :: (quo t ++ [39])
  | .sign t => t
def Pc.tok (q : Nat) : Pc → Tok
  | .name t => ⟨1, t, 0, q⟩
  | .word t => ⟨2, t, 0, q⟩
  | .num v => ⟨3, [], v, q⟩
  | .text t => ⟨4, t, 0, q⟩
  | .sign t => ⟨5, t, 0, q⟩
def okName (t : B) : Bool := LexM.letter (t.headD 0) && t.all LexM.nameByte && !LexM.words.contains t && decide (t.length ≤ 16)
def okText (t : B) : Bool := t.all good && decide (t.length ≤ 30)
def signL : List B := [[40], [41], [44], [46], [61], [60], [62], [43], [45], [42], [60, 62], [60, 61], [62, 61]]
def Pc.ok : Pc → Bool
  | .name t => okName t
  | .word t => LexM.words.contains t
  | .num v => decide (v ≤ 9223372036854775807)
  | .text t => okText t
  | .sign t => signL.contains t
/-- a byte behind it does not lengthen it -/
def Pc.stops (x : UInt8) : Pc → Bool
  | .name _ => !LexM.nameByte x
  | .word _ => !LexM.nameByte x
  | .num _ => !LexM.nameByte x
  | .text _ => x != 39
  | .sign t => !((t == [60] && (x == 62 || x == 61)) || (t == [62] && x == 61))
/-- words, each with so many spaces ahead -/
abbrev Line := List (Nat × Pc)
def blanks (n : Nat) : B := List.replicate n 32
def render : Line → B
  | [] => []
  | (g, c) :: L => blanks g ++ (c.bytes ++ render L)
def toks (q : Nat) : Line → List Tok
  | [] => []
  | (g, c) :: L => c.tok (q + g) :: toks (q + g + c.bytes.length) L
/-- the byte at which a line begins; nought: nothing, or a space -/
def first : Line → UInt8
  | (0, c) :: _ => c.bytes.headD 0
  | _ => 0
def fits : Line → Bool
  | [] => true
  | (_, c) :: L => c.ok && c.stops (first L) && fits L
end Pc
end Go.Proofs.YtpmgecnkcllneaaDoor
