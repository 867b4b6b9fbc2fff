/- The words of a text, in plain Lean: what lex does, on lists of bytes. No program in sight. -/
namespace Go.Proofs.YtpmgecnkcllneaaDoor
namespace LexM

/-- a word of a text -/
structure Tok where
  kind : Int
  text : List UInt8
  int : Int
  pos : Nat

def words : List (List UInt8) := [[97, 110, 100], [97, 115], [98, 101, 103, 105, 110], [98, 121], [99, 97, 108, 108], [99, 108, 111, 115, 117, 114, 101], [99, 111, 109, 109, 105, 116], [99, 111, 117, 110, 116], [99, 114, 101, 97, 116, 101], [100, 101, 108, 101, 116, 101], [100, 101, 115, 99], [102, 114, 111, 109], [103, 114, 111, 117, 112], [105, 110, 100, 101, 120], [105, 110, 115, 101, 114, 116], [105, 110, 116], [105, 110, 116, 111], [106, 111, 105, 110], [109, 97, 120], [109, 105, 110], [110, 111, 116], [111, 110], [111, 114], [111, 114, 100, 101, 114], [114, 97, 105, 115, 101], [114, 101, 102], [114, 111, 108, 108, 98, 97, 99, 107], [115, 101, 108, 101, 99, 116], [115, 101, 116], [115, 116, 114, 105, 112], [115, 117, 109], [116, 97, 98, 108, 101], [116, 101, 120, 116], [117, 112, 100, 97, 116, 101], [118, 97, 108, 117, 101, 115], [118, 105, 101, 119], [119, 104, 101, 114, 101]]
def wordsText : List UInt8 := [97, 110, 100, 32, 97, 115, 32, 98, 101, 103, 105, 110, 32, 98, 121, 32, 99, 97, 108, 108, 32, 99, 108, 111, 115, 117, 114, 101, 32, 99, 111, 109, 109, 105, 116, 32, 99, 111, 117, 110, 116, 32, 99, 114, 101, 97, 116, 101, 32, 100, 101, 108, 101, 116, 101, 32, 100, 101, 115, 99, 32, 102, 114, 111, 109, 32, 103, 114, 111, 117, 112, 32, 105, 110, 100, 101, 120, 32, 105, 110, 115, 101, 114, 116, 32, 105, 110, 116, 32, 105, 110, 116, 111, 32, 106, 111, 105, 110, 32, 109, 97, 120, 32, 109, 105, 110, 32, 110, 111, 116, 32, 111, 110, 32, 111, 114, 32, 111, 114, 100, 101, 114, 32, 114, 97, 105, 115, 101, 32, 114, 101, 102, 32, 114, 111, 108, 108, 98, 97, 99, 107, 32, 115, 101, 108, 101, 99, 116, 32, 115, 101, 116, 32, 115, 116, 114, 105, 112, 32, 115, 117, 109, 32, 116, 97, 98, 108, 101, 32, 116, 101, 120, 116, 32, 117, 112, 100, 97, 116, 101, 32, 118, 97, 108, 117, 101, 115, 32, 118, 105, 101, 119, 32, 119, 104, 101, 114, 101]
def signs : List UInt8 := [40, 41, 44, 46, 61, 60, 62, 43, 45, 42]
def letter (c : UInt8) : Bool := decide (97 ≤ c.toNat ∧ c.toNat ≤ 122) || c == 95
def dig (c : UInt8) : Bool := decide (48 ≤ c.toNat ∧ c.toNat ≤ 57)
def nameByte (c : UInt8) : Bool := letter c || dig c

/-- what digits come to; above: it does not fit -/
def val (l : List UInt8) : Nat := l.foldl (fun v c => v * 10 + (c.toNat - 48)) 0

/-- a text value behind its first sign: what it holds, and what is left; or where it is none -/
def txt (p : Nat) : List UInt8 → Nat ⊕ (List UInt8 × Nat)
  | [] => .inl p
  | c :: r =>
    if c.toNat < 32 ∨ 126 < c.toNat then .inl p
    else if c = 39 then
      match r with
      | d :: r' => if d = 39 then (match txt (p + 2) r' with | .inl q => .inl q | .inr (l, q) => .inr (39 :: l, q)) else .inr ([], p + 1)
      | [] => .inr ([], p + 1)
    else match txt (p + 1) r with | .inl q => .inl q | .inr (l, q) => .inr (c :: l, q)

/-- the word at hand (s: what is left, from place p on, not empty): the word and the place behind it; or where and why there is none -/
def tok1 (p : Nat) (s : List UInt8) : (Nat × Int) ⊕ (Tok × Nat) :=
  match s with
  | [] => .inl (p, 4)
  | c :: r =>
    if letter c then
      let t := s.takeWhile nameByte
      if words.contains t then .inr (⟨2, t, 0, p⟩, p + t.length)
      else if 16 < t.length then .inl (p, 7)
      else .inr (⟨1, t, 0, p⟩, p + t.length)
    else if dig c then
      let t := s.takeWhile dig
      if ((s.drop t.length).headD 0 |> letter) then .inl (p + t.length, 4)
      else if 9223372036854775807 < val t then .inl (p, 8)
      else .inr (⟨3, [], val t, p⟩, p + t.length)
    else if c = 39 then
      match txt (p + 1) r with
      | .inl q => .inl (q, 4)
      | .inr (l, q) => if 30 < l.length then .inl (p, 7) else .inr (⟨4, l, 0, p⟩, q)
    else if signs.contains c then
      let d := r.headD 0
      if (c = 60 ∧ (d = 62 ∨ d = 61)) ∨ (c = 62 ∧ d = 61) then .inr (⟨5, [c, d], 0, p⟩, p + 2)
      else .inr (⟨5, [c], 0, p⟩, p + 1)
    else .inl (p, 4)

/-- the words from place p on; 'n': more than are left -/
def lexN (S : List UInt8) : Nat → Nat → (Nat × Int) ⊕ List Tok
  | 0, p => .inl (p, 0)
  | n + 1, p =>
    match S.drop p with
    | [] => .inr [⟨6, [], 0, S.length⟩]
    | c :: r =>
      if c = 32 then lexN S n (p + 1)
      else match tok1 p (c :: r) with
        | .inl e => .inl e
        | .inr (t, q) => match lexN S n q with
          | .inl e => .inl e
          | .inr l => .inr (t :: l)

/-- Lex -/
def lex (S : List UInt8) : (Nat × Int) ⊕ List Tok :=
  if 400 < S.length then .inl (0, 7) else lexN S (S.length + 1) 0

/-! ### how far a word reaches -/
theorem txt_bound : ∀ (n : Nat) (s : List UInt8) (p : Nat), s.length ≤ n → (∀ q, txt p s = .inl q → p ≤ q ∧ q ≤ p + s.length) ∧ (∀ l q, txt p s = .inr (l, q) → p < q ∧ q ≤ p + s.length ∧ l.length ≤ q - p)
  | 0, s, p, h => by
    obtain rfl := List.eq_nil_of_length_eq_zero (by omega : s.length = 0)
    exact ⟨fun q e => (by simp [txt] at e; omega), fun l q e => (by simp [txt] at e)⟩
  | n + 1, s, p, h => by
    cases s with
    | nil => exact ⟨fun q e => (by simp [txt] at e; omega), fun l q e => (by simp [txt] at e)⟩
    | cons c r =>
      simp only [List.length_cons] at h
      unfold txt
      by_cases h1 : c.toNat < 32 ∨ 126 < c.toNat
      · rw [if_pos h1]
        exact ⟨fun q e => (by simp at e; simp; omega), fun l q e => (by simp at e)⟩
      · rw [if_neg h1]
        by_cases h2 : c = 39
        · rw [if_pos h2]
          cases r with
          | nil => exact ⟨fun q e => (by simp at e), fun l q e => (by simp at e; obtain ⟨rfl, rfl⟩ := e; simp)⟩
          | cons d r' =>
            simp only []
            by_cases h3 : d = 39
            · rw [if_pos h3]
              simp only [List.length_cons] at h
              obtain ⟨i1, i2⟩ := txt_bound n r' (p + 2) (by omega)
              cases ht : txt (p + 2) r' with
              | inl q =>
                have := i1 q ht
                exact ⟨fun q' e => (by simp at e; subst e; simp; omega), fun l q' e => (by simp at e)⟩
              | inr x =>
                obtain ⟨l, q⟩ := x
                have := i2 l q ht
                exact ⟨fun q' e => (by simp at e), fun l' q' e => (by simp at e; obtain ⟨rfl, rfl⟩ := e; simp; omega)⟩
            · rw [if_neg h3]
              exact ⟨fun q e => (by simp at e), fun l q e => (by simp at e; obtain ⟨rfl, rfl⟩ := e; simp)⟩
        · rw [if_neg h2]
          obtain ⟨i1, i2⟩ := txt_bound n r (p + 1) (by omega)
          cases ht : txt (p + 1) r with
          | inl q =>
            have := i1 q ht
            exact ⟨fun q' e => (by simp at e; subst e; simp; omega), fun l q' e => (by simp at e)⟩
          | inr x =>
            obtain ⟨l, q⟩ := x
            have := i2 l q ht
            exact ⟨fun q' e => (by simp at e), fun l' q' e => (by simp at e; obtain ⟨rfl, rfl⟩ := e; simp; omega)⟩

theorem takeWhile_len (f : UInt8 → Bool) (s : List UInt8) : (s.takeWhile f).length ≤ s.length := by
  induction s with
  | nil => simp
  | cons c r ih => rw [List.takeWhile_cons]; split <;> simp <;> omega
theorem takeWhile_pos {f : UInt8 → Bool} {c : UInt8} {r : List UInt8} (h : f c = true) : 0 < ((c :: r).takeWhile f).length := by
  rw [List.takeWhile_cons, if_pos h]; simp

theorem tok1_next {p : Nat} {s : List UInt8} {t : Tok} {q : Nat} (h : tok1 p s = .inr (t, q)) : p < q ∧ q ≤ p + s.length ∧ t.pos = p := by
  cases s with
  | nil => simp [tok1] at h
  | cons c r =>
    simp only [tok1] at h
    split at h
    · rename_i hl
      have h1 : 0 < ((c :: r).takeWhile nameByte).length := takeWhile_pos (by simp [nameByte, hl])
      have h2 := takeWhile_len nameByte (c :: r)
      split at h
      · simp only [Sum.inr.injEq, Prod.mk.injEq] at h; obtain ⟨rfl, rfl⟩ := h; rw [List.length_cons] at h2; refine ⟨by omega, by rw [List.length_cons]; omega, rfl⟩
      · split at h
        · simp at h
        · simp only [Sum.inr.injEq, Prod.mk.injEq] at h; obtain ⟨rfl, rfl⟩ := h; rw [List.length_cons] at h2; refine ⟨by omega, by rw [List.length_cons]; omega, rfl⟩
    · split at h
      · rename_i hd
        have h1 : 0 < ((c :: r).takeWhile dig).length := takeWhile_pos hd
        have h2 := takeWhile_len dig (c :: r)
        split at h
        · simp at h
        · split at h
          · simp at h
          · simp only [Sum.inr.injEq, Prod.mk.injEq] at h; obtain ⟨rfl, rfl⟩ := h; rw [List.length_cons] at h2; refine ⟨by omega, by rw [List.length_cons]; omega, rfl⟩
      · split at h
        · cases ht : txt (p + 1) r with
          | inl q' => rw [ht] at h; simp at h
          | inr x =>
            obtain ⟨l, q'⟩ := x
            rw [ht] at h
            have := (txt_bound r.length r (p + 1) (Nat.le_refl _)).2 l q' ht
            simp only [] at h
            split at h
            · simp at h
            · simp only [Sum.inr.injEq, Prod.mk.injEq] at h; obtain ⟨rfl, rfl⟩ := h; refine ⟨by omega, by rw [List.length_cons]; omega, rfl⟩
        · split at h
          · split at h
            · rename_i hs
              have : 1 ≤ r.length := by
                cases r with
                | nil => simp at hs
                | cons => simp
              simp only [Sum.inr.injEq, Prod.mk.injEq] at h; obtain ⟨rfl, rfl⟩ := h; refine ⟨by omega, by rw [List.length_cons]; omega, rfl⟩
            · simp only [Sum.inr.injEq, Prod.mk.injEq] at h; obtain ⟨rfl, rfl⟩ := h; refine ⟨by omega, by rw [List.length_cons]; omega, rfl⟩
          · simp at h
end LexM
end Go.Proofs.YtpmgecnkcllneaaDoor
