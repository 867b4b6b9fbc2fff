/- The statements of a text, once more: readers that end at the first error. No program in sight. -/
import Derived.Test.YtmdnhinpaflamaaDoorPlA
import Derived.Lib.ItoaLen
namespace Go.Proofs.YtmdnhinpaflamaaDoor
namespace CM
open LexM (Tok)
open PM (B Ex Col It St PS zeroTok wordy two un colEx opOr opAnd opSum opTerm opComp)

/-- a reader: of the words left; or where and why not -/
abbrev P (α : Type) := List Tok → Except (Int × Int) (α × List Tok)
def now (l : List Tok) : Tok := l.headD zeroTok
def is (w : B) (l : List Tok) : Bool := wordy (now l) && (now l).text == w
def sign (l : List Tok) : B := if wordy (now l) then (now l).text else []
def err {α : Type} (x : Int) : P α := fun l => .error ((now l).pos, x)
def ret {α : Type} (a : α) : P α := fun l => .ok (a, l)
def bnd {α β : Type} (f : P α) (g : α → P β) : P β := fun l => match f l with | .error e => .error e | .ok (a, l) => g a l
def opt {α : Type} (w : B) (f g : P α) : P α := fun l => if is w l then f l.tail else g l
def need (w : B) : P Unit := opt w (ret ()) (err 5)
def needs : List B → P Unit
  | [] => ret ()
  | w :: r => bnd (need w) fun _ => needs r
def word (k : Int) : P Tok := fun l => if (now l).kind = k then .ok (now l, l.tail) else .error ((now l).pos, 5)
def name : P B := bnd (word 1) fun t => ret t.text
def more {α : Type} (one : P α) : Nat → List α → P (List α)
  | 0, acc => ret acc
  | f + 1, acc => opt [44] (bnd one fun x => more one f (acc ++ [x])) (ret acc)
def list {α : Type} (one : P α) : P (List α) := bnd one fun x l => more one l.length [x] l

def tag : P Int := fun l => if (now l).kind = 3 ∧ 65535 < (now l).int then .error ((now l).pos, 3) else bnd (word 3) (fun t => ret (t.int % 65536)) l
def column : P Ex := bnd name fun n => opt [46] (bnd name fun m => ret (colEx n m)) (ret (colEx [] n))
/-- one deeper -/
def nests (sg : B) (inn : Int → P Ex) (d : Int) : P Ex := if d = 64 then err 6 else bnd (need sg) fun _ => inn (d + 1)
def rowsF (one : P Ex) (ops : B → Option Int) : Nat → Ex → P Ex
  | 0, x => ret x
  | f + 1, x => fun l => match ops (sign l) with
    | none => .ok (x, l)
    | some op => bnd one (fun y => rowsF one ops f (two op x y)) l.tail
def rows (one : P Ex) (ops : B → Option Int) : P Ex := bnd one fun x l => rowsF one ops l.length x l
def exprF (nt : P Ex) : P Ex := rows (rows nt opAnd) opOr
def sumF (u : P Ex) : P Ex := rows (rows u opTerm) opSum
def compF (u : P Ex) : P Ex := bnd (sumF u) fun x l => match opComp (sign l) with
  | none => .ok (x, l)
  | some op => bnd (sumF u) (fun y => ret (two op x y)) l.tail
def notF (u nt : Int → P Ex) (d : Int) : P Ex := fun l =>
  if is [110, 111, 116] l then nests [110, 111, 116] (fun d => bnd (nt d) fun x => ret (un 4 x)) d l else compF (u d) l
def unaryF (u nt : Int → P Ex) (d : Int) : P Ex := fun l =>
  if is [45] l then nests [45] (fun d => bnd (u d) fun x => ret (un 3 x)) d l
  else if is [40] l then nests [40] (fun d => bnd (exprF (nt d)) fun x => bnd (needs [[41]]) fun _ => ret x) d l
  else if (now l).kind = 3 then bnd (word 3) (fun t => ret (.mk 1 1 t.int [] [] [] [])) l
  else if (now l).kind = 4 then bnd (word 4) (fun t => ret (.mk 1 2 0 t.text [] [] [])) l
  else column l
def lev : Nat → (Int → P Ex) × (Int → P Ex)
  | 0 => (fun _ => ret .zero, fun _ => ret .zero)
  | n + 1 => (unaryF (lev n).1 (lev n).2, notF (unaryF (lev n).1 (lev n).2) (lev n).2)
def expr (n : Nat) (d : Int) : P Ex := exprF ((lev n).2 d)

def colKind : P Int := opt [105, 110, 116] (ret 1) (opt [116, 101, 120, 116] (ret 2) (err 5))
def col : P Col := bnd name fun n => bnd colKind fun k => opt [114, 101, 102] (bnd name fun r => ret ⟨n, k, r⟩) (ret ⟨n, k, []⟩)
def Ex.table : Ex → B | .mk _ _ _ _ t _ _ => t
def Ex.name : Ex → B | .mk _ _ _ _ _ n _ => n
def agg (w : B) : Int := if w = [115, 117, 109] then 2 else if w = [109, 105, 110] then 3 else if w = [109, 97, 120] then 4 else 0
def item : P It := opt [99, 111, 117, 110, 116] (bnd (needs [[40], [42], [41]]) fun _ => ret ⟨1, [], []⟩) fun l =>
  if agg (sign l) = 0 then bnd column (fun c => ret ⟨0, Ex.table c, Ex.name c⟩) l
  else bnd (needs [[40]]) (fun _ => bnd column fun c => bnd (needs [[41]]) fun _ => ret ⟨agg (sign l), Ex.table c, Ex.name c⟩) l.tail
def wheres (n : Nat) (d : Int) : P (List Ex) := opt [119, 104, 101, 114, 101] (bnd (expr n d) fun x => ret [x]) (ret [])
def joins : P (B × List Ex) := opt [106, 111, 105, 110] (bnd name fun j => bnd (needs [[111, 110]]) fun _ => bnd column fun a => bnd (needs [[61]]) fun _ => bnd column fun b => ret (j, [a, b])) (ret ([], []))
def desc : P Bool := opt [100, 101, 115, 99] (ret true) (ret false)
def orders : P (List Ex × Bool) := opt [111, 114, 100, 101, 114] (bnd (needs [[98, 121]]) fun _ => bnd column fun c => bnd desc fun d => ret ([c], d)) (ret ([], false))
def items : P (List It) := opt [42] (ret []) (list item)
def selects (n : Nat) (d : Int) : P St := bnd items fun its => bnd (needs [[102, 114, 111, 109]]) fun _ => bnd name fun t => bnd joins fun j => bnd (wheres n d) fun wh => bnd orders fun o =>
  ret (.mk 6 t [] [] [] [] its j.1 j.2 wh o.1 o.2 [])
def inserts (n : Nat) (d : Int) : P St := bnd (needs [[105, 110, 116, 111]]) fun _ => bnd name fun t => bnd (needs [[118, 97, 108, 117, 101, 115], [40]]) fun _ => bnd (list (expr n d)) fun vs => bnd (needs [[41]]) fun _ => ret (.mk 5 t [] [] [] vs [] [] [] [] [] false [])
def updates (n : Nat) (d : Int) : P St := bnd name fun t => bnd (needs [[115, 101, 116]]) fun _ => bnd name fun m => bnd (needs [[61]]) fun _ => bnd (expr n d) fun x => bnd (wheres n d) fun wh => ret (.mk 7 t m [] [] [x] [] [] [] wh [] false [])
def deletes (n : Nat) (d : Int) : P St := bnd (needs [[102, 114, 111, 109]]) fun _ => bnd name fun t => bnd (wheres n d) fun wh => ret (.mk 8 t [] [] [] [] [] [] [] wh [] false [])
def writes (n : Nat) (d : Int) (els : P St) : P St := opt [105, 110, 115, 101, 114, 116] (inserts n d) (opt [117, 112, 100, 97, 116, 101] (updates n d) (opt [100, 101, 108, 101, 116, 101] (deletes n d) els))
def tags : P (List Int) := fun l => if (now l).kind = 3 then list tag l else .ok ([], l)
def doorSt (kind : Int) (m : B) (tags : List Int) (inner : St) : St := .mk kind [] m [] tags [] [] [] [] [] [] false [inner]
def door (kind : Int) (inn : P St) : P St := bnd name fun m => bnd (needs [[115, 116, 114, 105, 112]]) fun _ => bnd tags fun ts => bnd (needs [[97, 115]]) fun _ => bnd inn fun st => ret (doorSt kind m ts st)
def tables : P St := bnd name fun m => bnd (needs [[40]]) fun _ => bnd (list col) fun cs => bnd (needs [[41]]) fun _ => ret (.mk 1 [] m cs [] [] [] [] [] [] [] false [])
def indexes : P St := bnd (needs [[111, 110]]) fun _ => bnd name fun t => bnd (needs [[40]]) fun _ => bnd name fun m => bnd (needs [[41]]) fun _ => ret (.mk 2 t m [] [] [] [] [] [] [] [] false [])
def create (n : Nat) (d : Int) : P St :=
  opt [116, 97, 98, 108, 101] tables (opt [105, 110, 100, 101, 120] indexes (opt [118, 105, 101, 119] (door 3 (opt [115, 101, 108, 101, 99, 116] (selects n d) (err 5))) (opt [99, 108, 111, 115, 117, 114, 101] (door 4 (writes n d (err 5))) (err 5))))
def raises : P St := bnd (list tag) fun ts => ret (.mk 12 [] [] [] ts [] [] [] [] [] [] false [])
def calls : P St := bnd name fun m => ret (.mk 13 [] m [] [] [] [] [] [] [] [] false [])
def rest : P St := opt [114, 97, 105, 115, 101] raises (opt [99, 97, 108, 108] calls (opt [98, 101, 103, 105, 110] (ret (.ofKind 9)) (opt [99, 111, 109, 109, 105, 116] (ret (.ofKind 10)) (opt [114, 111, 108, 108, 98, 97, 99, 107] (ret (.ofKind 11)) (err 5)))))
def stmt (n : Nat) (d : Int) : P St := opt [99, 114, 101, 97, 116, 101] (create n d) (opt [105, 110, 115, 101, 114, 116] (inserts n d) (opt [115, 101, 108, 101, 99, 116] (selects n d) (opt [117, 112, 100, 97, 116, 101] (updates n d) (opt [100, 101, 108, 101, 116, 101] (deletes n d) rest))))
def ends (r : Except (Int × Int) (St × List Tok)) : (Int × Int) ⊕ St := match r with
  | .error e => .inl e
  | .ok (st, l) => if (now l).kind = 6 then .inr st else .inl ((now l).pos, 5)
/-- of words -/
def parseL (l : List Tok) : (Int × Int) ⊕ St := ends (stmt l.length 0 l)
/-- Parse -/
def parse (S : B) : (Int × Int) ⊕ St :=
  match LexM.lex S with
  | .inl (q, x) => .inl (q, x)
  | .inr l => parseL l

/-! ### the parser's readers are these, as long as nothing has failed; and what has failed stays so -/
def Meets {α : Type} (s : PS) (r : α × PS) : Except (Int × Int) (α × List Tok) → Prop
  | .ok (a, l) => r = (a, { s with l := l })
  | .error (q, x) => r.2.e = x ∧ r.2.pos = q ∧ x ≠ 0
def Cor {α : Type} (f : PS → α × PS) (c : Int → P α) : Prop :=
  ∀ s, (s.e ≠ 0 → (f s).2.e = s.e ∧ (f s).2.pos = s.pos) ∧ (s.e = 0 → Meets s (f s) (c s.deep s.l))
theorem pis0 {s : PS} (h : s.e = 0) (w : B) : PM.is w s = is w s.l := by
  unfold PM.is is PS.now now
  rw [h]
  rfl
theorem pis1 {s : PS} (h : s.e ≠ 0) (w : B) : PM.is w s = false := by
  unfold PM.is
  have : (s.e == 0) = false := by simpa using h
  rw [this]
  rfl
theorem fails0 {s : PS} (h : s.e = 0) (x : Int) : (PM.fails x s).e = x ∧ (PM.fails x s).pos = (now s.l).pos := by
  unfold PM.fails
  rw [if_pos h]
  exact ⟨rfl, rfl⟩
theorem fails1 {s : PS} (h : s.e ≠ 0) (x : Int) : PM.fails x s = s := by
  unfold PM.fails
  rw [if_neg h]
theorem cor_err {α : Type} (a : α) (x : Int) (hx : x ≠ 0) : Cor (fun s => (a, PM.fails x s)) (fun _ => err x) := fun s => by
  refine ⟨fun h => ?_, fun h => ?_⟩
  · simp only [fails1 h]
    exact ⟨trivial, trivial⟩
  · exact ⟨(fails0 h x).1, (fails0 h x).2, hx⟩
theorem cor_ret {α : Type} (a : α) : Cor (fun s => (a, s)) (fun _ => ret a) := fun _ => ⟨fun _ => ⟨rfl, rfl⟩, fun _ => rfl⟩
theorem cor_bnd {α β : Type} {f : PS → α × PS} {c : Int → P α} {g : α → PS → β × PS} {d : α → Int → P β} (hf : Cor f c) (hg : ∀ a, Cor (g a) (d a)) :
    Cor (fun s => g (f s).1 (f s).2) (fun dp => bnd (c dp) fun a => d a dp) := fun s => by
  obtain ⟨f1, f2⟩ := hf s
  refine ⟨fun h => ?_, fun h => ?_⟩
  · obtain ⟨e1, e2⟩ := f1 h
    obtain ⟨g1, _⟩ := hg (f s).1 (f s).2
    obtain ⟨e3, e4⟩ := g1 (by rw [e1]; exact h)
    exact ⟨e3.trans e1, e4.trans e2⟩
  · have f2 := f2 h
    show Meets s _ (bnd (c s.deep) (fun a => d a s.deep) s.l)
    unfold bnd
    cases hc : c s.deep s.l with
    | error e =>
      obtain ⟨q, x⟩ := e
      rw [hc] at f2
      obtain ⟨e1, e2, e3⟩ := f2
      obtain ⟨g1, _⟩ := hg (f s).1 (f s).2
      obtain ⟨e4, e5⟩ := g1 (by rw [e1]; exact e3)
      exact ⟨e4.trans e1, e5.trans e2, e3⟩
    | ok r =>
      obtain ⟨a, l⟩ := r
      rw [hc] at f2
      have f2 : f s = (a, { s with l := l }) := f2
      show Meets s (g (f s).1 (f s).2) (d a s.deep l)
      rw [f2]
      exact (hg a { s with l := l }).2 h
theorem cor_opt {α : Type} (w : B) {f g : PS → α × PS} {c d : Int → P α} (hf : Cor f c) (hg : Cor g d) :
    Cor (fun s => if PM.is w s then f (PM.skip s) else g s) (fun dp => opt w (c dp) (d dp)) := fun s => by
  refine ⟨fun h => ?_, fun h => ?_⟩
  · simp only [pis1 h]
    exact (hg s).1 h
  · show Meets s _ (if is w s.l then _ else _)
    simp only [pis0 h]
    split
    · exact (hf (PM.skip s)).2 h
    · exact (hg s).2 h
theorem cor_need (w : B) : Cor (fun s => ((), PM.need w s)) (fun _ => need w) := fun s => by
  refine ⟨fun h => ?_, fun h => ?_⟩
  · simp only [PM.need, pis1 h]
    exact (cor_err () 5 (by decide) s).1 h
  · show Meets s _ (if is w s.l then _ else _)
    simp only [PM.need, pis0 h]
    split
    · rfl
    · exact (cor_err () 5 (by decide) s).2 h
theorem cor_needs (ws : List B) : Cor (fun s => ((), PM.needs ws s)) (fun _ => needs ws) := by
  induction ws with
  | nil => exact cor_ret ()
  | cons w r ih => exact cor_bnd (cor_need w) (fun _ => ih)
theorem cor_word (k : Int) : Cor (PM.word k) (fun _ => word k) := fun s => by
  refine ⟨fun h => ?_, fun h => ?_⟩
  · unfold PM.word
    rw [if_pos (.inl h)]
    exact (cor_err PM.zeroTok 5 (by decide) s).1 h
  · show Meets s _ (if (now s.l).kind = k then _ else _)
    unfold PM.word
    by_cases hk : (now s.l).kind = k
    · rw [if_pos hk, if_neg (by rintro (h1 | h1); exact h1 h; exact h1 hk)]
      rfl
    · rw [if_neg hk, if_pos (.inr hk)]
      exact (cor_err PM.zeroTok 5 (by decide) s).2 h
theorem cor_name : Cor PM.name (fun _ => name) := cor_bnd (cor_word 1) (fun t => cor_ret t.text)
theorem cor_more {α : Type} {one : PS → α × PS} {c : Int → P α} (h1 : Cor one c) : ∀ (f : Nat) (acc : List α), Cor (PM.more one f acc) (fun d => more (c d) f acc)
  | 0, acc => cor_ret acc
  | f + 1, acc => cor_opt _ (cor_bnd h1 fun x => cor_more h1 f (acc ++ [x])) (cor_ret acc)
/-- what looks at the words itself -/
theorem cor_len {α : Type} {f : Nat → PS → α × PS} {c : Nat → Int → P α} (h : ∀ n, Cor (f n) (c n)) : Cor (fun s => f s.l.length s) (fun d l => c l.length d l) :=
  fun s => ⟨fun e => (h _ s).1 e, fun e => (h _ s).2 e⟩
theorem cor_list {α : Type} {one : PS → α × PS} {c : Int → P α} (h1 : Cor one c) : Cor (PM.list one) (fun d => list (c d)) :=
  cor_bnd h1 fun x => cor_len (f := fun n s => PM.more one n [x] s) (c := fun n d => more (c d) n [x]) fun n => cor_more h1 n [x]
theorem cor_tag : Cor PM.tag (fun _ => tag) := fun s => by
  have key := cor_bnd (cor_word 3) (fun t => cor_ret (t.int % 65536))
  refine ⟨fun h => ?_, fun h => ?_⟩
  · unfold PM.tag
    simp only [fails1 h, ite_self]
    exact (key s).1 h
  · show Meets s _ (if (now s.l).kind = 3 ∧ 65535 < (now s.l).int then _ else _)
    unfold PM.tag
    by_cases hk : (now s.l).kind = 3 ∧ 65535 < (now s.l).int
    · rw [if_pos hk]
      simp only [if_pos (show s.now.kind = 3 ∧ 65535 < s.now.int from hk)]
      obtain ⟨e1, e2⟩ := fails0 h 3
      obtain ⟨g1, g2⟩ := (key (PM.fails 3 s)).1 (by rw [e1]; decide)
      exact ⟨g1.trans e1, g2.trans e2, by decide⟩
    · rw [if_neg hk]
      simp only [if_neg (show ¬ (s.now.kind = 3 ∧ 65535 < s.now.int) from hk)]
      exact (key s).2 h
theorem cor_column : Cor PM.column (fun _ => column) := cor_bnd cor_name fun n => cor_opt _ (cor_bnd cor_name fun m => cor_ret (colEx n m)) (cor_ret (colEx [] n))
theorem cor_deeper {α : Type} {f : PS → α × PS} {c : Int → P α} (h : Cor f c) : Cor (fun s => ((f { s with deep := s.deep + 1 }).1, { (f { s with deep := s.deep + 1 }).2 with deep := (f { s with deep := s.deep + 1 }).2.deep - 1 })) (fun d => c (d + 1)) := fun s => by
  obtain ⟨h1, h2⟩ := h { s with deep := s.deep + 1 }
  refine ⟨fun e => h1 e, fun e => ?_⟩
  have h2 := h2 e
  show Meets s _ (c (s.deep + 1) s.l)
  change Meets _ _ (c (s.deep + 1) s.l) at h2
  cases hc : c (s.deep + 1) s.l with
  | error x => rw [hc] at h2; exact h2
  | ok r =>
    obtain ⟨a, l⟩ := r
    rw [hc] at h2
    have h2 : f { s with deep := s.deep + 1 } = (a, { s with deep := s.deep + 1, l := l }) := h2
    show ((f { s with deep := s.deep + 1 }).1, { (f { s with deep := s.deep + 1 }).2 with deep := (f { s with deep := s.deep + 1 }).2.deep - 1 }) = (a, { s with l := l })
    rw [h2]
    simp only [Int.add_sub_cancel]
theorem cor_nests (sg : B) {inn : PS → Ex × PS} {c : Int → P Ex} (h : Cor inn c) : Cor (PM.nests sg inn) (nests sg c) := fun s => by
  have key := cor_bnd (cor_needs [sg]) (fun _ => cor_deeper h)
  by_cases hd : s.deep = 64
  · unfold PM.nests nests
    rw [if_pos hd]
    simp only [if_pos hd]
    exact cor_err Ex.zero 6 (by decide) s
  · unfold PM.nests nests
    rw [if_neg hd]
    simp only [if_neg hd]
    have e : needs [sg] = need sg := by
      funext l
      show bnd (need sg) (fun _ => ret ()) l = _
      unfold bnd
      cases need sg l <;> rfl
    rw [← e]
    exact key s
theorem sign0 {s : PS} (h : s.e = 0) : PM.sign s = sign s.l := by
  unfold PM.sign sign PS.now now
  rw [h]
  rfl
theorem sign1 {s : PS} (h : s.e ≠ 0) : PM.sign s = [] := by
  unfold PM.sign
  have : (s.e == 0) = false := by simpa using h
  rw [this]
  rfl
theorem cor_rowsF {one : PS → Ex × PS} {c : Int → P Ex} (h1 : Cor one c) {ops : B → Option Int} (h0 : ops [] = none) : ∀ (f : Nat) (x : Ex), Cor (PM.rowsF one ops f x) (fun d => rowsF (c d) ops f x)
  | 0, x => cor_ret x
  | f + 1, x => fun s => by
    refine ⟨fun h => ?_, fun h => ?_⟩
    · rw [PM.rowsF, sign1 h, h0]
      exact ⟨rfl, rfl⟩
    · show Meets s _ (match ops (sign s.l) with | none => .ok (x, s.l) | some op => bnd (c s.deep) (fun y => rowsF (c s.deep) ops f (two op x y)) s.l.tail)
      rw [PM.rowsF, sign0 h]
      cases ops (sign s.l) with
      | none => rfl
      | some op => exact (cor_bnd h1 (fun y => cor_rowsF h1 h0 f (two op x y)) (PM.skip s)).2 h
theorem cor_rows {one : PS → Ex × PS} {c : Int → P Ex} (h1 : Cor one c) {ops : B → Option Int} (h0 : ops [] = none) : Cor (PM.rows one ops) (fun d => rows (c d) ops) :=
  cor_bnd h1 fun x => cor_len (f := fun n s => PM.rowsF one ops n x s) (c := fun n d => rowsF (c d) ops n x) fun n => cor_rowsF h1 h0 n x
theorem cor_exprF {nt : PS → Ex × PS} {c : Int → P Ex} (h : Cor nt c) : Cor (PM.exprF nt) (fun d => exprF (c d)) := cor_rows (cor_rows h (by decide)) (by decide)
theorem cor_sumF {u : PS → Ex × PS} {c : Int → P Ex} (h : Cor u c) : Cor (PM.sumF u) (fun d => sumF (c d)) := cor_rows (cor_rows h (by decide)) (by decide)
theorem cor_compF {u : PS → Ex × PS} {c : Int → P Ex} (h : Cor u c) : Cor (PM.compF u) (fun d => compF (c d)) := by
  refine cor_bnd (cor_sumF h) (g := fun x s => match PM.opComp (PM.sign s) with | none => (x, s) | some op => (two op x (PM.sumF u (PM.skip s)).1, (PM.sumF u (PM.skip s)).2)) (d := fun x d l => match opComp (sign l) with | none => .ok (x, l) | some op => bnd (sumF (c d)) (fun y => ret (two op x y)) l.tail) fun x s => ?_
  refine ⟨fun e => ?_, fun e => ?_⟩
  · simp only [sign1 e]
    exact ⟨rfl, rfl⟩
  · simp only [sign0 e]
    cases opComp (sign s.l) with
    | none => rfl
    | some op => exact (cor_bnd (cor_sumF h) (fun y => cor_ret (two op x y)) (PM.skip s)).2 e
/-- a way by a test that fails behind an error -/
theorem cor_if {α : Type} (w : B) {f g : PS → α × PS} {c d : Int → P α} (hf : Cor f c) (hg : Cor g d) :
    Cor (fun s => if PM.is w s then f s else g s) (fun dp l => if is w l then c dp l else d dp l) := fun s => by
  refine ⟨fun h => ?_, fun h => ?_⟩
  · simp only [pis1 h]
    exact (hg s).1 h
  · show Meets s _ (if is w s.l then _ else _)
    simp only [pis0 h]
    split
    · exact (hf s).2 h
    · exact (hg s).2 h
theorem cor_dec {α : Type} (p : Tok → Prop) [DecidablePred p] {f g : PS → α × PS} {c d : Int → P α} (hf : Cor f c) (hg : Cor g d) :
    Cor (fun s => if p s.now then f s else g s) (fun dp l => if p (now l) then c dp l else d dp l) := fun s => by
  refine ⟨fun h => ?_, fun h => ?_⟩
  · show (if p s.now then f s else g s).2.e = s.e ∧ (if p s.now then f s else g s).2.pos = s.pos
    split
    · exact (hf s).1 h
    · exact (hg s).1 h
  · show Meets s (if p (now s.l) then f s else g s) (if p (now s.l) then _ else _)
    split
    · exact (hf s).2 h
    · exact (hg s).2 h
theorem cor_notF {u nt : PS → Ex × PS} {c d : Int → P Ex} (hu : Cor u c) (hn : Cor nt d) : Cor (PM.notF u nt) (notF c d) :=
  cor_if _ (cor_nests _ (cor_bnd hn fun x => cor_ret (un 4 x))) (cor_compF hu)
theorem cor_unaryF {u nt : PS → Ex × PS} {c d : Int → P Ex} (hu : Cor u c) (hn : Cor nt d) : Cor (PM.unaryF u nt) (unaryF c d) :=
  cor_if _ (cor_nests _ (cor_bnd hu fun x => cor_ret (un 3 x))) (cor_if _ (cor_nests _ (cor_bnd (cor_exprF hn) fun x => cor_bnd (cor_needs _) fun _ => cor_ret x))
    (cor_dec (fun t => t.kind = 3) (cor_bnd (cor_word 3) fun _ => cor_ret _) (cor_dec (fun t => t.kind = 4) (cor_bnd (cor_word 4) fun _ => cor_ret _) cor_column)))
theorem cor_lev : ∀ n, Cor (PM.lev n).1 (lev n).1 ∧ Cor (PM.lev n).2 (lev n).2
  | 0 => ⟨cor_ret _, cor_ret _⟩
  | n + 1 => ⟨cor_unaryF (cor_lev n).1 (cor_lev n).2, cor_notF (cor_unaryF (cor_lev n).1 (cor_lev n).2) (cor_lev n).2⟩
theorem cor_expr (n : Nat) : Cor (PM.expr n) (expr n) := cor_exprF (cor_lev n).2
end CM
end Go.Proofs.YtmdnhinpaflamaaDoor
namespace Go.Proofs.YtmdnhinpaflamaaDoor
namespace CM
open LexM (Tok)
open PM (B Ex Col It St PS zeroTok wordy two un colEx)

theorem cor_col : Cor PM.col (fun _ => col) := by
  have h := cor_bnd cor_name fun n => cor_bnd (cor_opt [105, 110, 116] (cor_ret (1 : Int)) (cor_opt [116, 101, 120, 116] (cor_ret 2) (cor_err 0 5 (by decide)))) fun k => cor_opt [114, 101, 102] (cor_bnd cor_name fun r => cor_ret (⟨n, k, r⟩ : Col)) (cor_ret (⟨n, k, []⟩ : Col))
  exact h
theorem cor_eq {α : Type} {f g : PS → α × PS} {c : Int → P α} (h : Cor g c) (e : ∀ s, f s = g s) : Cor f c := by
  rw [show f = g from funext e]
  exact h
theorem cor_item : Cor PM.item (fun _ => item) := by
  have hA := cor_bnd cor_column fun c => cor_ret (⟨0, Ex.table c, Ex.name c⟩ : It)
  have hB : ∀ a, Cor _ _ := fun a => cor_bnd (cor_needs [[40]]) fun _ => cor_bnd cor_column fun c => cor_bnd (cor_needs [[41]]) fun _ => cor_ret (⟨a, Ex.table c, Ex.name c⟩ : It)
  have hC := cor_bnd (cor_needs [[40], [42], [41]]) fun _ => cor_ret (⟨1, [], []⟩ : It)
  have hD : Cor (fun s => if agg (PM.sign s) = 0 then ((⟨0, Ex.table (PM.column s).1, Ex.name (PM.column s).1⟩ : It), (PM.column s).2) else (⟨agg (PM.sign s), Ex.table (PM.column (PM.needs [[40]] (PM.skip s))).1, Ex.name (PM.column (PM.needs [[40]] (PM.skip s))).1⟩, PM.needs [[41]] (PM.column (PM.needs [[40]] (PM.skip s))).2)) (fun _ l =>
      if agg (sign l) = 0 then bnd column (fun c => ret ⟨0, Ex.table c, Ex.name c⟩) l
      else bnd (needs [[40]]) (fun _ => bnd column fun c => bnd (needs [[41]]) fun _ => ret ⟨agg (sign l), Ex.table c, Ex.name c⟩) l.tail) := fun s => by
    refine ⟨fun e => ?_, fun e => ?_⟩
    · simp only [sign1 e]
      rw [if_pos (by decide)]
      exact (hA s).1 e
    · simp only [sign0 e]
      by_cases h0 : agg (sign s.l) = 0
      · rw [if_pos h0, if_pos h0]
        exact (hA s).2 e
      · rw [if_neg h0, if_neg h0]
        exact (hB (agg (sign s.l)) (PM.skip s)).2 e
  have hE := cor_opt [99, 111, 117, 110, 116] hC hD
  refine cor_eq hE fun s => ?_
  unfold PM.item
  split
  · rfl
  · show (if agg (PM.sign s) = 0 then _ else _) = (if agg (PM.sign s) = 0 then _ else _)
    split
    · rcases PM.column s with ⟨⟨_, _, _, _, t, n, _⟩, s'⟩
      rfl
    · rcases PM.column (PM.needs [[40]] (PM.skip s)) with ⟨⟨_, _, _, _, t, n, _⟩, s'⟩
      rfl
theorem cor_wheres (n : Nat) : Cor (PM.wheres n) (wheres n) := cor_opt [119, 104, 101, 114, 101] (cor_bnd (cor_expr n) fun x => cor_ret [x]) (cor_ret [])
def pj (s : PS) : (B × List Ex) × PS :=
  if PM.is [106, 111, 105, 110] s then
    let (j, s) := PM.name (PM.skip s)
    let s := PM.needs [[111, 110]] s
    let (a, s) := PM.column s
    let s := PM.needs [[61]] s
    let (b, s) := PM.column s
    ((j, [a, b]), s)
  else (([], []), s)
def po (s : PS) : (List Ex × Bool) × PS :=
  if PM.is [111, 114, 100, 101, 114] s then
    let s := PM.needs [[98, 121]] (PM.skip s)
    let (c, s) := PM.column s
    let (d, s) := PM.skips [100, 101, 115, 99] s
    (([c], d), s)
  else (([], false), s)
def ps (n : Nat) (s : PS) : St × PS :=
  let (items, s) := if PM.is [42] s then ([], PM.skip s) else PM.list PM.item s
  let s := PM.needs [[102, 114, 111, 109]] s
  let (table, s) := PM.name s
  let (j, s) := pj s
  let (wh, s) := PM.wheres n s
  let (o, s) := po s
  (.mk 6 table [] [] [] [] items j.1 j.2 wh o.1 o.2 [], s)
theorem ps_eq (n : Nat) (s : PS) : PM.selects n s = ps n s := by
  unfold PM.selects ps
  generalize (if PM.is [42] s then ([], PM.skip s) else PM.list PM.item s) = a
  obtain ⟨its, s1⟩ := a
  dsimp only
  generalize PM.name (PM.needs [[102, 114, 111, 109]] s1) = a
  obtain ⟨t, s2⟩ := a
  dsimp only
  unfold pj po
  by_cases hj : PM.is [106, 111, 105, 110] s2 = true
  · rw [if_pos hj, if_pos hj]
    dsimp only
    split <;> rfl
  · rw [if_neg hj, if_neg hj]
    dsimp only
    split <;> rfl
theorem cor_desc : Cor (PM.skips [100, 101, 115, 99]) (fun _ => desc) := cor_opt [100, 101, 115, 99] (cor_ret true) (cor_ret false)
theorem cor_pj : Cor pj (fun _ => joins) := by
  have h := cor_opt [106, 111, 105, 110] (cor_bnd cor_name fun j => cor_bnd (cor_needs [[111, 110]]) fun _ => cor_bnd cor_column fun a => cor_bnd (cor_needs [[61]]) fun _ => cor_bnd cor_column fun b => cor_ret (j, [a, b])) (cor_ret (([] : B), ([] : List Ex)))
  exact h
theorem cor_po : Cor po (fun _ => orders) := by
  have h := cor_opt [111, 114, 100, 101, 114] (cor_bnd (cor_needs [[98, 121]]) fun _ => cor_bnd cor_column fun c => cor_bnd cor_desc fun d => cor_ret ([c], d)) (cor_ret (([] : List Ex), false))
  exact h
theorem cor_items : Cor (fun s => if PM.is [42] s then ([], PM.skip s) else PM.list PM.item s) (fun _ => items) := by
  have h := cor_opt [42] (cor_ret ([] : List It)) (cor_list cor_item)
  exact h
theorem cor_selects (n : Nat) : Cor (PM.selects n) (selects n) := by
  refine cor_eq ?_ (ps_eq n)
  have h := cor_bnd cor_items fun its => cor_bnd (cor_needs [[102, 114, 111, 109]]) fun _ => cor_bnd cor_name fun t => cor_bnd cor_pj fun j => cor_bnd (cor_wheres n) fun wh => cor_bnd cor_po fun o => cor_ret (St.mk 6 t [] [] [] [] its j.1 j.2 wh o.1 o.2 [])
  exact h
def pins (n : Nat) (s : PS) : St × PS :=
  let s := PM.needs [[105, 110, 116, 111]] s
  let (t, s) := PM.name s
  let s := PM.needs [[118, 97, 108, 117, 101, 115], [40]] s
  let (vs, s) := PM.list (PM.expr n) s
  (.mk 5 t [] [] [] vs [] [] [] [] [] false [], PM.needs [[41]] s)
def pupd (n : Nat) (s : PS) : St × PS :=
  let (t, s) := PM.name s
  let s := PM.needs [[115, 101, 116]] s
  let (m, s) := PM.name s
  let s := PM.needs [[61]] s
  let (x, s) := PM.expr n s
  let (wh, s) := PM.wheres n s
  (.mk 7 t m [] [] [x] [] [] [] wh [] false [], s)
def pdel (n : Nat) (s : PS) : St × PS :=
  let s := PM.needs [[102, 114, 111, 109]] s
  let (t, s) := PM.name s
  let (wh, s) := PM.wheres n s
  (.mk 8 t [] [] [] [] [] [] [] wh [] false [], s)
theorem data_eq (n : Nat) (s : PS) : PM.data n s = (if PM.is [105, 110, 115, 101, 114, 116] s then some (pins n (PM.skip s)) else if PM.is [115, 101, 108, 101, 99, 116] s then some (PM.selects n (PM.skip s)) else if PM.is [117, 112, 100, 97, 116, 101] s then some (pupd n (PM.skip s)) else if PM.is [100, 101, 108, 101, 116, 101] s then some (pdel n (PM.skip s)) else none) := rfl
theorem cor_ins (n : Nat) : Cor (pins n) (inserts n) := by
  have h := cor_bnd (cor_needs [[105, 110, 116, 111]]) fun _ => cor_bnd cor_name fun t => cor_bnd (cor_needs [[118, 97, 108, 117, 101, 115], [40]]) fun _ => cor_bnd (cor_list (cor_expr n)) fun vs => cor_bnd (cor_needs [[41]]) fun _ => cor_ret (St.mk 5 t [] [] [] vs [] [] [] [] [] false [])
  exact h
theorem cor_upd (n : Nat) : Cor (pupd n) (updates n) := by
  have h := cor_bnd cor_name fun t => cor_bnd (cor_needs [[115, 101, 116]]) fun _ => cor_bnd cor_name fun m => cor_bnd (cor_needs [[61]]) fun _ => cor_bnd (cor_expr n) fun x => cor_bnd (cor_wheres n) fun wh => cor_ret (St.mk 7 t m [] [] [x] [] [] [] wh [] false [])
  exact h
theorem cor_del (n : Nat) : Cor (pdel n) (deletes n) := by
  have h := cor_bnd (cor_needs [[102, 114, 111, 109]]) fun _ => cor_bnd cor_name fun t => cor_bnd (cor_wheres n) fun wh => cor_ret (St.mk 8 t [] [] [] [] [] [] [] wh [] false [])
  exact h
theorem cor_data {f : PS → St × PS} {els : Int → P St} (n : Nat) (h : Cor f els) :
    Cor (fun s => match PM.data n s with | some r => r | none => f s) (fun d => opt [105, 110, 115, 101, 114, 116] (inserts n d) (opt [115, 101, 108, 101, 99, 116] (selects n d) (opt [117, 112, 100, 97, 116, 101] (updates n d) (opt [100, 101, 108, 101, 116, 101] (deletes n d) (els d))))) := by
  refine cor_eq (cor_opt [105, 110, 115, 101, 114, 116] (cor_ins n) (cor_opt [115, 101, 108, 101, 99, 116] (cor_selects n) (cor_opt [117, 112, 100, 97, 116, 101] (cor_upd n) (cor_opt [100, 101, 108, 101, 116, 101] (cor_del n) h)))) fun s => ?_
  rw [data_eq]
  by_cases h1 : PM.is [105, 110, 115, 101, 114, 116] s = true
  · simp only [if_pos h1]
  · simp only [if_neg h1]
    by_cases h2 : PM.is [115, 101, 108, 101, 99, 116] s = true
    · simp only [if_pos h2]
    · simp only [if_neg h2]
      by_cases h3 : PM.is [117, 112, 100, 97, 116, 101] s = true
      · simp only [if_pos h3]
      · simp only [if_neg h3]
        by_cases h4 : PM.is [100, 101, 108, 101, 116, 101] s = true
        · simp only [if_pos h4]
        · simp only [if_neg h4]
theorem is_two {w v : B} {s : PS} (h : PM.is w s = true) (hv : (w == v) = false) : PM.is v s = false := by
  unfold PM.is at h ⊢
  simp only [Bool.and_eq_true, beq_iff_eq] at h
  rw [h.2, hv, Bool.and_false]
def psel (n : Nat) (s : PS) : St × PS := if PM.is [115, 101, 108, 101, 99, 116] s then PM.selects n (PM.skip s) else (.zero, PM.fails 5 s)
def pwr (n : Nat) (s : PS) : St × PS := if PM.is [105, 110, 115, 101, 114, 116] s then pins n (PM.skip s) else if PM.is [117, 112, 100, 97, 116, 101] s then pupd n (PM.skip s) else if PM.is [100, 101, 108, 101, 116, 101] s then pdel n (PM.skip s) else (.zero, PM.fails 5 s)
theorem cor_psel (n : Nat) : Cor (psel n) (fun d => opt [115, 101, 108, 101, 99, 116] (selects n d) (err 5)) := cor_opt [115, 101, 108, 101, 99, 116] (cor_selects n) (cor_err St.zero 5 (by decide))
theorem cor_pwr (n : Nat) : Cor (pwr n) (fun d => writes n d (err 5)) := cor_opt [105, 110, 115, 101, 114, 116] (cor_ins n) (cor_opt [117, 112, 100, 97, 116, 101] (cor_upd n) (cor_opt [100, 101, 108, 101, 116, 101] (cor_del n) (cor_err St.zero 5 (by decide))))
theorem cor_tags : Cor (fun s => if s.now.kind = 3 then PM.list PM.tag s else ([], s)) (fun _ => tags) := cor_dec (fun t => t.kind = 3) (cor_list cor_tag) (cor_ret [])
/-- a door, of what it is told -/
def pd (kind : Int) (inn : PS → St × PS) (s : PS) : St × PS :=
  let (m, s) := PM.name s
  let s := PM.needs [[115, 116, 114, 105, 112]] s
  let (tags, s) := if s.now.kind = 3 then PM.list PM.tag s else ([], s)
  let s := PM.needs [[97, 115]] s
  let (st, s) := inn s
  (doorSt kind m tags st, s)
theorem cor_pd (kind : Int) {inn : PS → St × PS} {c : Int → P St} (h : Cor inn c) : Cor (pd kind inn) (fun d => door kind (c d)) := by
  have h := cor_bnd cor_name fun m => cor_bnd (cor_needs [[115, 116, 114, 105, 112]]) fun _ => cor_bnd cor_tags fun ts => cor_bnd (cor_needs [[97, 115]]) fun _ => cor_bnd h fun st => cor_ret (doorSt kind m ts st)
  exact h
/-- what two readers leave is the same, and what they say too where nothing failed -/
def Like {α : Type} (f g : PS → α × PS) : Prop := ∀ s, (f s).2 = (g s).2 ∧ ((f s).2.e = 0 → f s = g s)
theorem cor_like {α : Type} {f g : PS → α × PS} {c : Int → P α} (h : Cor g c) (e : Like f g) : Cor f c := fun s => by
  obtain ⟨h1, h2⟩ := h s
  obtain ⟨e1, e2⟩ := e s
  refine ⟨fun x => by rw [e1]; exact h1 x, fun x => ?_⟩
  have h2 := h2 x
  cases hc : c s.deep s.l with
  | error r =>
    rw [hc] at h2
    obtain ⟨q, y⟩ := r
    show (f s).2.e = y ∧ (f s).2.pos = q ∧ y ≠ 0
    rw [e1]
    exact h2
  | ok r =>
    rw [hc] at h2
    obtain ⟨a, l⟩ := r
    have h2 : g s = (a, { s with l := l }) := h2
    show f s = (a, { s with l := l })
    rw [← h2]
    exact e2 (by rw [e1, h2]; exact x)
theorem like_view (n : Nat) : Like (PM.door n 3 [[115, 101, 108, 101, 99, 116]]) (pd 3 (psel n)) := fun s => by
  unfold PM.door pd
  rcases PM.name s with ⟨m, s1⟩
  simp only []
  rcases (if (PM.needs [[115, 116, 114, 105, 112]] s1).now.kind = 3 then PM.list PM.tag (PM.needs [[115, 116, 114, 105, 112]] s1) else ([], PM.needs [[115, 116, 114, 105, 112]] s1)) with ⟨ts, s2⟩
  simp only [List.any_cons, List.any_nil, Bool.or_false]
  generalize PM.needs [[97, 115]] s2 = s3
  unfold psel
  by_cases h : PM.is [115, 101, 108, 101, 99, 116] s3 = true
  · have hi : ¬ PM.is [105, 110, 115, 101, 114, 116] s3 = true := by rw [is_two h (by decide)]; decide
    rw [data_eq, if_neg hi, if_pos h, if_pos h, if_pos h]
    exact ⟨rfl, fun _ => rfl⟩
  · rw [if_neg h, if_neg h]
    refine ⟨rfl, fun e => ?_⟩
    exfalso
    have e : (PM.fails 5 s3).e = 0 := e
    unfold PM.fails at e
    split at e
    · cases e
    · exact absurd e (by assumption)
theorem like_closure (n : Nat) : Like (PM.door n 4 [[105, 110, 115, 101, 114, 116], [117, 112, 100, 97, 116, 101], [100, 101, 108, 101, 116, 101]]) (pd 4 (pwr n)) := fun s => by
  unfold PM.door pd
  rcases PM.name s with ⟨m, s1⟩
  simp only []
  rcases (if (PM.needs [[115, 116, 114, 105, 112]] s1).now.kind = 3 then PM.list PM.tag (PM.needs [[115, 116, 114, 105, 112]] s1) else ([], PM.needs [[115, 116, 114, 105, 112]] s1)) with ⟨ts, s2⟩
  simp only [List.any_cons, List.any_nil, Bool.or_false, Bool.or_eq_true]
  generalize PM.needs [[97, 115]] s2 = s3
  unfold pwr
  by_cases h : PM.is [105, 110, 115, 101, 114, 116] s3 = true
  · rw [data_eq, if_pos h, if_pos (Or.inl h), if_pos h]
    exact ⟨rfl, fun _ => rfl⟩
  · by_cases h2 : PM.is [117, 112, 100, 97, 116, 101] s3 = true
    · have hs : ¬ PM.is [115, 101, 108, 101, 99, 116] s3 = true := by rw [is_two h2 (by decide)]; decide
      rw [data_eq, if_neg h, if_neg hs, if_pos h2, if_pos (Or.inr (Or.inl h2)), if_neg h, if_pos h2]
      exact ⟨rfl, fun _ => rfl⟩
    · by_cases h3 : PM.is [100, 101, 108, 101, 116, 101] s3 = true
      · have hs : ¬ PM.is [115, 101, 108, 101, 99, 116] s3 = true := by rw [is_two h3 (by decide)]; decide
        rw [data_eq, if_neg h, if_neg hs, if_neg h2, if_pos h3, if_pos (Or.inr (Or.inr h3)), if_neg h, if_neg h2, if_pos h3]
        exact ⟨rfl, fun _ => rfl⟩
      · rw [if_neg h, if_neg h2, if_neg h3, if_neg (by rintro (x | x | x) <;> contradiction)]
        refine ⟨rfl, fun e => ?_⟩
        exfalso
        have e : (PM.fails 5 s3).e = 0 := e
        unfold PM.fails at e
        split at e
        · cases e
        · exact absurd e (by assumption)
theorem cor_create (n : Nat) : Cor (PM.create n) (create n) := by
  have h := cor_opt [116, 97, 98, 108, 101] (cor_bnd cor_name fun m => cor_bnd (cor_needs [[40]]) fun _ => cor_bnd (cor_list cor_col) fun cs => cor_bnd (cor_needs [[41]]) fun _ => cor_ret (St.mk 1 [] m cs [] [] [] [] [] [] [] false []))
    (cor_opt [105, 110, 100, 101, 120] (cor_bnd (cor_needs [[111, 110]]) fun _ => cor_bnd cor_name fun t => cor_bnd (cor_needs [[40]]) fun _ => cor_bnd cor_name fun m => cor_bnd (cor_needs [[41]]) fun _ => cor_ret (St.mk 2 t m [] [] [] [] [] [] [] [] false []))
      (cor_opt [118, 105, 101, 119] (cor_like (cor_pd 3 (cor_psel n)) (like_view n)) (cor_opt [99, 108, 111, 115, 117, 114, 101] (cor_like (cor_pd 4 (cor_pwr n)) (like_closure n)) (cor_err St.zero 5 (by decide)))))
  exact h
theorem cor_rest : Cor (fun s => if PM.is [114, 97, 105, 115, 101] s then
        let (tags, s) := PM.list PM.tag (PM.skip s)
        (St.mk 12 [] [] [] tags [] [] [] [] [] [] false [], s)
      else if PM.is [99, 97, 108, 108] s then
        let (m, s) := PM.name (PM.skip s)
        (.mk 13 [] m [] [] [] [] [] [] [] [] false [], s)
      else if PM.is [98, 101, 103, 105, 110] s then (.ofKind 9, PM.skip s)
      else if PM.is [99, 111, 109, 109, 105, 116] s then (.ofKind 10, PM.skip s)
      else if PM.is [114, 111, 108, 108, 98, 97, 99, 107] s then (.ofKind 11, PM.skip s)
      else (.zero, PM.fails 5 s)) (fun _ => rest) := by
  have h := cor_opt [114, 97, 105, 115, 101] (cor_bnd (cor_list cor_tag) fun ts => cor_ret (St.mk 12 [] [] [] ts [] [] [] [] [] [] false [])) (cor_opt [99, 97, 108, 108] (cor_bnd cor_name fun m => cor_ret (St.mk 13 [] m [] [] [] [] [] [] [] [] false [])) (cor_opt [98, 101, 103, 105, 110] (cor_ret (.ofKind 9)) (cor_opt [99, 111, 109, 109, 105, 116] (cor_ret (.ofKind 10)) (cor_opt [114, 111, 108, 108, 98, 97, 99, 107] (cor_ret (.ofKind 11)) (cor_err St.zero 5 (by decide))))))
  exact h
theorem cor_stmt (n : Nat) : Cor (PM.stmt n) (stmt n) := cor_opt [99, 114, 101, 97, 116, 101] (cor_create n) (cor_data n cor_rest)
/-- the program's parser is this one -/
theorem parse_eq (S : B) : PM.parse S = parse S := by
  unfold PM.parse parse
  cases LexM.lex S with
  | inl x => rfl
  | inr l =>
    obtain ⟨_, h⟩ := cor_stmt l.length ⟨l, 0, 0, 0⟩
    have h := h rfl
    simp only []
    unfold parseL
    change Meets _ _ (stmt l.length 0 l) at h
    cases hs : stmt l.length 0 l with
    | error r =>
      obtain ⟨q, x⟩ := r
      rw [hs] at h
      obtain ⟨h1, h2, h3⟩ := h
      generalize PM.stmt l.length ⟨l, 0, 0, 0⟩ = r at h1 h2
      obtain ⟨st, s⟩ := r
      simp only [] at h1 h2 ⊢
      have he : (if s.now.kind ≠ 6 then PM.fails 5 s else s) = s := by
        split
        · exact fails1 (by rw [h1]; exact h3) 5
        · rfl
      rw [he, h1, h2, if_pos h3]
      rfl
    | ok r =>
      obtain ⟨st, l'⟩ := r
      rw [hs] at h
      have h : PM.stmt l.length ⟨l, 0, 0, 0⟩ = (st, ⟨l', 0, 0, 0⟩) := h
      rw [h]
      simp only [ends]
      by_cases h6 : (now l').kind = 6
      · rw [if_pos h6, if_neg (show ¬ (PS.now ⟨l', 0, 0, 0⟩).kind ≠ 6 from fun x => x h6), if_neg (fun x => x rfl)]
      · rw [if_neg h6, if_pos (show (PS.now ⟨l', 0, 0, 0⟩).kind ≠ 6 from h6)]
        rfl
end CM
end Go.Proofs.YtmdnhinpaflamaaDoor
namespace Go.Proofs.YtmdnhinpaflamaaDoor
open Go.RowKit
namespace Pc
open LexM (Tok)
abbrev B := List UInt8

/-- the digits; none of nought -/
def digs (n : Nat) : List UInt8 := if n = 0 then [] else Lib.decDigits n
theorem dec_step (n : Nat) : Lib.decDigits n = digs (n / 10) ++ [UInt8.ofNat (48 + n % 10)] := by
  rw [Lib.decDigits]
  unfold digs
  split
  · rename_i h
    rw [if_pos (by omega), Nat.mod_eq_of_lt h]; rfl
  · rw [if_neg (by omega)]
/-- each mark twice -/
def quo : B → B
  | [] => []
  | c :: r => if c = 39 then 39 :: 39 :: quo r else c :: quo r
def good (c : UInt8) : Bool := decide (32 ≤ c.toNat) && decide (c.toNat ≤ 126)
/-- a word of a text -/
inductive Pc where
  | name (t : B)
  | word (t : B)
  | num (v : Nat)
  | text (t : B)
  | sign (t : B)
def Pc.bytes : Pc → B
  | .name t => t
  | .word t => t
  | .num v => Lib.decDigits v
  | .text t => 39 :: (quo t ++ [39])
  | .sign t => t
def Pc.tok (q : Nat) : Pc → Tok
  | .name t => ⟨1, t, 0, q⟩
  | .word t => ⟨2, t, 0, q⟩
  | .num v => ⟨3, [], v, q⟩
  | .text t => ⟨4, t, 0, q⟩
  | .sign t => ⟨5, t, 0, q⟩
def okName (t : B) : Bool := LexM.letter (t.headD 0) && t.all LexM.nameByte && !LexM.words.contains t && decide (t.length ≤ 16)
def okText (t : B) : Bool := t.all good && decide (t.length ≤ 30)
def signL : List B := [[40], [41], [44], [46], [61], [60], [62], [43], [45], [42], [60, 62], [60, 61], [62, 61]]
def Pc.ok : Pc → Bool
  | .name t => okName t
  | .word t => LexM.words.contains t
  | .num v => decide (v ≤ 9223372036854775807)
  | .text t => okText t
  | .sign t => signL.contains t
/-- a byte behind it does not lengthen it -/
def Pc.stops (x : UInt8) : Pc → Bool
  | .name _ => !LexM.nameByte x
  | .word _ => !LexM.nameByte x
  | .num _ => !LexM.nameByte x
  | .text _ => x != 39
  | .sign t => !((t == [60] && (x == 62 || x == 61)) || (t == [62] && x == 61))
/-- words, each with so many spaces ahead -/
abbrev Line := List (Nat × Pc)
def blanks (n : Nat) : B := List.replicate n 32
def render : Line → B
  | [] => []
  | (g, c) :: L => blanks g ++ (c.bytes ++ render L)
def toks (q : Nat) : Line → List Tok
  | [] => []
  | (g, c) :: L => c.tok (q + g) :: toks (q + g + c.bytes.length) L
/-- the byte at which a line begins; nought: nothing, or a space -/
def first : Line → UInt8
  | (0, c) :: _ => c.bytes.headD 0
  | _ => 0
def fits : Line → Bool
  | [] => true
  | (_, c) :: L => c.ok && c.stops (first L) && fits L
end Pc
end Go.Proofs.YtmdnhinpaflamaaDoor
