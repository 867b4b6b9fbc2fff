/- lex: a text value. -/
import Derived.Test.YtpmgecnkcllneaaDoorLexC
namespace Go.Proofs.YtpmgecnkcllneaaDoor
open Go.RowKit

namespace Lx
open LexM (Tok)

/-- the text value at place p -/
def textM (p : Nat) (S : List UInt8) : (Nat × Int) ⊕ (Tok × Nat) :=
  match LexM.txt (p + 1) (S.drop (p + 1)) with
  | .inl q => .inl (q, 4)
  | .inr (l, q) => if 30 < l.length then .inl (p, 7) else .inr (⟨4, l, 0, p⟩, q)

/-- what stands behind acc -/
def ahead (acc : List UInt8) : Nat ⊕ (List UInt8 × Nat) → Nat ⊕ (List UInt8 × Nat)
  | .inl q => .inl q
  | .inr (l, q) => .inr (acc ++ l, q)
def Tx (S : List UInt8) (p q : Nat) (acc : List UInt8) : Prop := LexM.txt (p + 1) (S.drop (p + 1)) = ahead acc (LexM.txt q (S.drop q))
theorem Tx.zero (S : List UInt8) (p : Nat) : Tx S p (p + 1) [] := by
  unfold Tx
  rcases LexM.txt (p + 1) (S.drop (p + 1)) with x | ⟨l, q⟩ <;> rfl
theorem ahead_cons (acc : List UInt8) (c : UInt8) (x : Nat ⊕ (List UInt8 × Nat)) : ahead acc (match x with | .inl q => .inl q | .inr (l, q) => .inr (c :: l, q)) = ahead (acc ++ [c]) x := by
  rcases x with x | ⟨l, q⟩ <;> simp [ahead]
theorem txt_bad {S : List UInt8} {q : Nat} (h : (at0 S q).toNat < 32 ∨ 126 < (at0 S q).toNat) : LexM.txt q (S.drop q) = .inl q := by
  by_cases hl : q < S.length
  · rw [at0_lt hl] at h
    rw [List.drop_eq_getElem_cons hl]
    unfold LexM.txt
    rw [if_pos h]
  · rw [List.drop_eq_nil_of_le (by omega)]; rfl
theorem lt_of_good {S : List UInt8} {q : Nat} (h : ¬ ((at0 S q).toNat < 32 ∨ 126 < (at0 S q).toNat)) : q < S.length := by
  rcases Nat.lt_or_ge q S.length with h1 | h1
  · exact h1
  · rw [at0_ge h1] at h; simp at h
theorem txt_plain {S : List UInt8} {q : Nat} (h : ¬ ((at0 S q).toNat < 32 ∨ 126 < (at0 S q).toNat)) (h2 : at0 S q ≠ 39) :
    LexM.txt q (S.drop q) = (match LexM.txt (q + 1) (S.drop (q + 1)) with | .inl x => .inl x | .inr (l, x) => .inr (at0 S q :: l, x)) := by
  have hl := lt_of_good h
  have e := at0_lt hl
  rw [List.drop_eq_getElem_cons hl, ← e]
  conv => lhs; unfold LexM.txt
  rw [if_neg h, if_neg h2]
  rcases LexM.txt (q + 1) (S.drop (q + 1)) with x | ⟨l, x⟩ <;> rfl
theorem txt_twice {S : List UInt8} {q : Nat} (h1 : at0 S q = 39) (h2 : at0 S (q + 1) = 39) :
    q + 1 < S.length ∧ LexM.txt q (S.drop q) = (match LexM.txt (q + 2) (S.drop (q + 2)) with | .inl x => .inl x | .inr (l, x) => .inr (39 :: l, x)) := by
  have hl := lt_of_good (S := S) (q := q) (by rw [h1]; decide)
  have hl2 := lt_of_good (S := S) (q := q + 1) (by rw [h2]; decide)
  have e := at0_lt hl
  have e2 := at0_lt hl2
  refine ⟨hl2, ?_⟩
  rw [List.drop_eq_getElem_cons hl, List.drop_eq_getElem_cons hl2, ← e, ← e2, h1, h2]
  conv => lhs; unfold LexM.txt
  rfl
theorem txt_end {S : List UInt8} {q : Nat} (h1 : at0 S q = 39) (h2 : at0 S (q + 1) ≠ 39) : q < S.length ∧ LexM.txt q (S.drop q) = .inr ([], q + 1) := by
  have hl := lt_of_good (S := S) (q := q) (by rw [h1]; decide)
  have e := at0_lt hl
  refine ⟨hl, ?_⟩
  rw [List.drop_eq_getElem_cons hl, ← e, h1]
  by_cases hl2 : q + 1 < S.length
  · have e2 := at0_lt hl2
    rw [List.drop_eq_getElem_cons hl2, ← e2]
    conv => lhs; unfold LexM.txt
    rw [if_neg (by decide), if_pos rfl]
    simp only [if_neg h2]
  · rw [List.drop_eq_nil_of_le (by omega)]; rfl

def enc (c : UInt8) : Value := .int .u8 (c.toNat : Int)
theorem str_of_row (w : World) (v : Value) (l : List UInt8) (h : Row w 5 1 v l.length (l.map enc)) :
    (convert 36 9 v).run Tryd.prog w = .ok (.string ⟨l.toArray⟩) w := by
  rcases h.form with ⟨rfl, h0, _⟩ | ⟨g, off, cap, rfl, _, _⟩
  · obtain rfl := List.eq_nil_of_length_eq_zero h0
    exact run_convert_bytes_nil _ 36 5 Tryd.underlying36 Tryd.underlying5 0 0 9 Tryd.underlying9
  · refine run_convert_bytes_back w 36 9 5 ⟨g, off, none⟩ cap l Tryd.underlying36 Tryd.underlying5 Tryd.underlying9 (fun j hj => ?_)
    have := h.cells j (by simpa using hj)
    rw [Addr.add_lit, this, List.getD_eq_getElem?_getD, List.getElem?_map, List.getElem?_eq_getElem hj]
    rfl

theorem Tx.plain {S : List UInt8} {p q : Nat} {acc : List UInt8} (h : Tx S p q acc) (h1 : ¬ ((at0 S q).toNat < 32 ∨ 126 < (at0 S q).toNat)) (h2 : at0 S q ≠ 39) : Tx S p (q + 1) (acc ++ [at0 S q]) := by
  unfold Tx at *
  rw [h, txt_plain h1 h2, ahead_cons]
theorem Tx.twice {S : List UInt8} {p q : Nat} {acc : List UInt8} (h : Tx S p q acc) (h1 : at0 S q = 39) (h2 : at0 S (q + 1) = 39) : Tx S p (q + 2) (acc ++ [39]) := by
  unfold Tx at *
  rw [h, (txt_twice h1 h2).2, ahead_cons]
theorem Tx.stop {S : List UInt8} {p q : Nat} {acc : List UInt8} (h : Tx S p q acc) (h1 : at0 S q = 39) (h2 : at0 S (q + 1) ≠ 39) : textM p S = if 30 < acc.length then .inl (p, 7) else .inr (⟨4, acc, 0, p⟩, q + 1) := by
  unfold Tx at h
  rw [textM, h, (txt_end h1 h2).2]
  simp [ahead]

theorem info8 : (Tryd.prog.info? 5).map (fun i => (i.zero, i.size, i.bytes)) = some (some (enc 0), 1, 1) := by kernel_rfl

theorem Rd.setZ {w : World} {R : Nat} {S : List UInt8} {p : Nat} (h : Rd w R S p) (z : Int) : (w.setCell ⟨R, 1, none⟩ (.int .i64 z)).cell? ⟨R, 1, none⟩ = some (.int .i64 z) := (Blk.set h 1 (.int .i64 z)).cell 1
/-- the loop's measure -/
def meaQ (R : Nat) (S : List UInt8) (w : World) : Nat := S.length + 1 - (intOf ((w.cell? ⟨R, 1, none⟩).getD undef)).toNat
theorem meaQ_eq {R : Nat} {S : List UInt8} {w : World} {z : Int} (h : w.cell? ⟨R, 1, none⟩ = some (.int .i64 z)) : meaQ R S w = S.length + 1 - z.toNat := by
  unfold meaQ; rw [h]; rfl
theorem meaQ_lt {R : Nat} {S : List UInt8} {w w' : World} {z : Int} {q q2 : Nat} (h : w.cell? ⟨R, 1, none⟩ = some (.int .i64 (q : Int))) (h' : w'.cell? ⟨R, 1, none⟩ = some (.int .i64 z)) (hz : z = ((q2 : Nat) : Int)) (h1 : q < q2) (h2 : q2 ≤ S.length) : meaQ R S w' < meaQ R S w := by
  rw [meaQ_eq h, meaQ_eq h']; omega
theorem arith2 {p q n k : Nat} (h1 : p < q) (h2 : q + 1 < n) (h3 : k ≤ q) (h4 : n ≤ 1000000) : ((q : Int) + 1) + 1 = ((q + 2 : Nat) : Int) ∧ p < q + 2 ∧ q + 2 ≤ n ∧ k < q + 2 ∧ wrap64 (((q : Int) + 1) + 1) = ((q : Int) + 1) + 1 := by
  unfold wrap64; omega
/-- what the loop keeps -/
def TxI (w : World) (R : Nat) (S : List UInt8) (p : Nat) (a0 v : Value) (wr : World) : Prop :=
  ∃ (q : Nat) (acc : List UInt8), a0 = .int .i64 p ∧ p < q ∧ q ≤ S.length ∧ acc.length ≤ q ∧ Hid (Tx S p q acc) ∧ Rd wr R S q ∧ Blk wr w.heap.size 67 zcells ∧ Row wr 5 1 v acc.length (acc.map enc) ∧ (v.ownBlock = none ∨ ∃ k, w.heap.size < k ∧ v.ownBlock = some k) ∧ Fr [some R] w wr

/-- a byte more -/
theorem TxI.step {w : World} {R : Nat} {S : List UInt8} {p q0 q : Nat} {acc : List UInt8} {c : UInt8} {w1 w' : World} {v v' : Value} {o : Obj} (z : Int) (hz : z = (q : Int)) (hRl : R < w.heap.size) (hpq : p < q) (hq : q ≤ S.length) (hacc : acc.length < q) (hx : Tx S p q (acc ++ [c]))
    (hR : Rd w1 R S q0) (hT : Blk w1 w.heap.size 67 zcells) (hown : v.ownBlock = none ∨ ∃ k, w.heap.size < k ∧ v.ownBlock = some k) (hF : Fr [some R] w w1)
    (hr' : Row w' 5 1 v' (acc.length + 1) (acc.map enc ++ [enc c])) (hf' : Fr [v.ownBlock] (w1.alloc o) w') (hb' : v'.ownBlock = v.ownBlock ∨ ∃ k, w1.heap.size + 1 ≤ k ∧ v'.ownBlock = some k) :
    TxI w R S p (.int .i64 p) v' (w'.setCell ⟨R, 1, none⟩ (.int .i64 z)) := by
  subst hz
  have hdis : some R ∉ [v.ownBlock] := by
    rcases hown with h | ⟨k, hk, h⟩ <;> rw [h] <;> simp
    omega
  have hdis2 : some w.heap.size ∉ [v.ownBlock] := by
    rcases hown with h | ⟨k, hk, h⟩ <;> rw [h] <;> simp
    omega
  have hown' : v'.ownBlock = none ∨ ∃ k, w.heap.size < k ∧ v'.ownBlock = some k := by
    rcases hb' with h | ⟨k, hk, h⟩
    · rw [h]; exact hown
    · exact .inr ⟨k, by have := hT.lt; omega, h⟩
  have hRw : Rd w' R S q0 := Rd.keep (Blk.alloc hR _) hf' hdis
  have hTw : Blk w' w.heap.size 67 zcells := Blk.keep (Blk.alloc hT _) hf' hdis2
  have hFw : Fr [some R] w w' := (Fr.alloc hF _).trans' hf' (by
    intro i hi
    rcases hown with h | ⟨k, hk, h⟩ <;> rw [h] at hi <;> simp at hi
    exact .inr (by omega))
  have hs : Fr [some R] w' (w'.setCell ⟨R, 1, none⟩ (.int .i64 q)) := (Fr.refl [some R] w').setCell (p := ⟨R, 1, none⟩) (.inl (by simp)) _
  have hrow2 : Row w' 5 1 v' (acc ++ [c]).length ((acc ++ [c]).map enc) := by
    rw [List.length_append, List.map_append]
    exact hr'
  refine ⟨q, acc ++ [c], rfl, hpq, hq, by rw [List.length_append]; simp only [List.length_cons, List.length_nil]; omega, hx, hRw.set q, hTw.keep hs (by simp; omega), hrow2.keep hs (fun k hk => ?_), hown', hFw.trans hs⟩
  rcases hown' with h | ⟨k2, hk2, h⟩ <;> rw [h] at hk <;> simp at hk
  simp; omega
/-- the reader's place behind the append -/
theorem rd_behind {w : World} {R : Nat} {S : List UInt8} {q0 : Nat} {w1 w' : World} {v : Value} {o : Obj} (hRl : R < w.heap.size)
    (hR : Rd w1 R S q0) (hown : v.ownBlock = none ∨ ∃ k, w.heap.size < k ∧ v.ownBlock = some k) (hf' : Fr [v.ownBlock] (w1.alloc o) w') : Rd w' R S q0 := by
  have hdis : some R ∉ [v.ownBlock] := by
    rcases hown with h | ⟨k, hk, h⟩ <;> rw [h] <;> simp
    omega
  exact Rd.keep (Blk.alloc hR _) hf' hdis

set_option maxRecDepth 100000 in
set_option maxHeartbeats 2000000 in
theorem text_any (R : Nat) (S : List UInt8) (p : Nat) (w : World) (hr : Rd w R S p) (hS : S.length ≤ 1000000) (hp : p < S.length) :
    Calls Tryd.prog 48 #[.pointer (some ⟨R, 0, none⟩)] w fun e w' => e = .returned (tokR (textM p S)) ∧ After w' R S (textM p S) ∧ Fr [some R] w w' := by
  obtain ⟨i0, hi, hz0, hz1, hz2⟩ := info_parts info8
  have h1 := hr.c1
  have hz := hr.free 1
  have hlt := hr.lt
  have HR := Lib.hid hr
  have HS := Lib.hid hS
  have hw1 : wrap64 ((p : Int) + 1) = (p : Int) + 1 := by unfold wrap64; omega
  have hne : ¬ R = w.heap.size := by omega
  have hne' : ¬ w.heap.size = R := by omega
  clear hr hS
  go_enter Tryd.func48, Tryd.ntmps48
  go_wp2_with fail
  clear h1 hz hw1
  go_loopw [3, 5] (fun a0 v wr => TxI w R S p a0 v wr) (fun _ _ wr => meaQ R S wr)
  case atStart =>
    have hb := Blk.new (w.setCell ⟨R, 1, none⟩ (.int .i64 ((p : Int) + 1))) 67 zcells
    rw [show (w.setCell ⟨R, 1, none⟩ (.int .i64 ((p : Int) + 1))).heap.size = w.heap.size from by simp [World.setCell]] at hb
    exact ⟨p + 1, [], rfl, by omega, by omega, by simp, Tx.zero S p, Blk.alloc (Rd.set HR.out (p + 1)) _, hb, Row.nil _ _ _, .inl rfl, ((Fr.refl [some R] w).setCell (p := ⟨R, 1, none⟩) (.inl (by simp)) _).alloc _⟩
  case round =>
    obtain ⟨q, acc, rfl, hpq, hq, hacc, HX, hr, hT, hrow, hown, hfr⟩ := hrel
    have h1 := hr.c1
    have HRq := Lib.hid hr
    have HT := Lib.hid hT
    have HROW := Lib.hid hrow
    have HF := Lib.hid hfr
    clear hr hT hrow hfr
    go_wp2_with fail
    refine (next_any R S q wr HRq.out).mono ?_
    rintro e w1 ⟨rfl, hr1, hf1⟩
    obtain ⟨c, hc⟩ : ∃ c, at0 S q = c := ⟨_, rfl⟩
    rw [hc]
    have HT1 := Lib.hid (HT.out.keep hf1 (by simp))
    have HROW1 := Lib.hid (HROW.out.keep hf1 (by simp))
    have HF1 := Lib.hid (HF.out.trans' hf1 (by simp))
    have HR1 := Lib.hid hr1
    have HC := Lib.hid hc
    have h1' := hr1.c1
    have hfz := hr1.free 1
    have HMEA := Lib.hid h1
    have hTl := HT1.out.lt
    clear hc hr1 hf1 h1
    by_cases hbad : c.toNat < 32 ∨ 126 < c.toNat
    · have HB : Hid (textM p S = .inl (q, 4)) := by
        have h := HX.out
        unfold Tx at h
        rw [Hid, textM, h, txt_bad (by rw [HC.out]; exact hbad)]
        rfl
      obtain ⟨c0, c1, c2, c3, f0, f1, f2, f3⟩ := cells_of HT1.out
      have hb' : (c.toNat : Int) < 32 ∨ ((32 : Int) ≤ c.toNat ∧ (126 : Int) < c.toNat) := by omega
      clear hbad
      rcases hb' with hb1 | ⟨hb1, hb2⟩
      all_goals
        go_wp2_with fail
        go_region
        all_goals
          go_wp2_with fail
          refine bodyPost_ret (ret_tok rfl _ w.heap.size rfl _ _ _ _ _ (blkPut4 HT1.out rfl _ _ _ _).drew) rfl ⟨?_, ?_, (frPut4 HF1.out (.inr (by omega)) _ _ _ _).drew⟩
          all_goals rw [HB.out]
          · rfl
          · trivial
    · have hgood : ¬ ((at0 S q).toNat < 32 ∨ 126 < (at0 S q).toNat) := by rw [HC.out]; exact hbad
      have hltq := lt_of_good hgood
      have HG := Lib.hid hgood
      have hg1 : (32 : Int) ≤ c.toNat := by omega
      have hg2 : (c.toNat : Int) ≤ 126 := by omega
      clear hbad hgood
      by_cases h39 : c = 39
      · have H39 := Lib.hid h39
        have h39i : ((c.toNat : Int) == 39) = true := by rw [h39]; decide
        clear h39
        have hw1 : wrap64 ((q : Int) + 1) = (q : Int) + 1 := by have := HS.out; unfold wrap64; omega
        go_wp2_with fail
        refine (next_any R S (q + 1) _ (HR1.out.set (q + 1))).mono ?_
        rintro e w2 ⟨rfl, hr2, hf2⟩
        clear h39i
        have hfa : Fr [some R] w1 w2 := (((Fr.refl [some R] w1)).setCell (p := ⟨R, 1, none⟩) (.inl (by simp)) _).trans' hf2 (by simp)
        have hrowk : ∀ k, u5.ownBlock = some k → some k ∉ [some R] := by
          intro k hk
          rcases hown with h | ⟨k2, hk2, h⟩ <;> rw [h] at hk <;> simp at hk
          simp; omega
        have HROW2 := Lib.hid (HROW1.out.keep hfa hrowk)
        have HT2 := Lib.hid (HT1.out.keep hfa (by simp; omega))
        have HF2 := Lib.hid (HF1.out.trans hfa)
        have HR2 := Lib.hid hr2
        clear hr2 hf2 hfa hrowk
        obtain ⟨d, hd⟩ : ∃ d, at0 S (q + 1) = d := ⟨_, rfl⟩
        rw [hd]
        have HD := Lib.hid hd
        clear hd h1' hfz
        by_cases hd39 : d = 39
        · have htw := txt_twice (S := S) (HC.out.trans H39.out) (HD.out.trans hd39)
          have hlt2 := htw.1
          clear htw
          have HX2 : Hid (Tx S p (q + 2) (acc ++ [c])) := by
            have := HX.out.twice (HC.out.trans H39.out) (HD.out.trans hd39)
            rw [← H39.out] at this
            exact this
          have hlen : acc.length ≤ 1000000 := Nat.le_trans hacc (Nat.le_trans hq HS.out)
          have hmx : acc.length + 1 ≤ maxLen := Nat.le_trans (Nat.succ_le_succ hlen) (by unfold maxLen; decide)
          have hby : (acc.length + 1) * 1 ≤ 140737488355328 := by rw [Nat.mul_one]; exact Nat.le_trans (Nat.succ_le_succ hlen) (by decide)
          have hd39i : ((d.toNat : Int) == 39) = true := by rw [hd39]; decide
          clear hd39
          go_wp2_with (at_builtin; refine wpList_append_row rfl _ _ 36 rfl 5 i0 (enc 0) 1 1 Tryd.underlying36 hi hz0 hz1 hz2 rfl (by decide) u5 acc.length (acc.map enc) rfl (HROW2.out.keep ((Fr.refl [] _).alloc _) (by simp)) ⟨w2.heap.size, 0, none⟩ 1 1 [.int .u8 (c.toNat : Int)] rfl rfl ?c1 ?c2 hmx hby ?_)
          case c1 => exact cell_one_new _ _ _
          case c2 => simp [Value.oneCell']
          intro v' w' hr' hf' hb'
          clear hd39i
          have hRw : Rd w' R S (q + 1) := rd_behind hlt HR2.out hown hf'
          obtain ⟨e1, e2, e3, e4, hww⟩ := arith2 hpq hlt2 hacc HS.out
          have HSTEP := Lib.hid (TxI.step (c := c) (((q : Int) + 1) + 1) (q := q + 2) e1 hlt e2 e3 e4 HX2.out HR2.out HT2.out hown HF2.out hr' hf' hb')
          have HMEB := Lib.hid (meaQ_lt HMEA.out (hRw.setZ ((q : Int) + 1 + 1)) e1 (Nat.lt_add_of_pos_right (by decide)) e3)
          have hc1w : w'.cell? ⟨R, 1, none⟩ = some (.int .i64 ((q : Int) + 1)) := hRw.c1
          have hfzw := Blk.free hRw 1
          clear hown hr' hf' hb' hRw e1 e2 e3 e4
          go_wp2_with fail
          go_roundw
          case rel => exact HSTEP.out
          case measure => exact HMEB.out
        · have HE := Lib.hid (HX.out.stop (HC.out.trans H39.out) (by rw [HD.out]; exact hd39))
          have hdne : ((d.toNat : Int) == 39) = false := by
            rw [beq_eq_false_iff_ne]
            intro h
            exact hd39 (UInt8.toNat_inj.1 (by simpa using (by omega : d.toNat = 39)))
          obtain ⟨ba, bc, rfl⟩ : ∃ ba bc, u5 = Value.slice ba acc.length bc := by
            rcases HROW.out.form with ⟨rfl, h0, h0'⟩ | ⟨g, off, cap, rfl, _, _⟩
            · exact ⟨none, 0, by rw [h0]⟩
            · exact ⟨_, _, rfl⟩
          have hcv := str_of_row w2 _ acc HROW2.out
          obtain ⟨c0, c1, c2, c3, f0, f1, f2, f3⟩ := cells_of HT2.out
          have hT2l := HT2.out.lt
          clear hd39
          by_cases hl : 30 < acc.length
          · have hl' : (30 : Int) < (acc.length : Int) := by omega
            go_wp2_with fail
            refine bodyPost_ret (ret_tok rfl _ w.heap.size rfl _ _ _ _ _ (blkPut4 HT2.out rfl _ _ _ _)) rfl ⟨?_, ?_, frPut4 HF2.out (.inr (by omega)) _ _ _ _⟩
            all_goals rw [HE.out, if_pos hl]
            · rfl
            · trivial
          · have hl' : (acc.length : Int) ≤ 30 := by omega
            go_wp2_with fail
            refine bodyPost_ret (ret_tok rfl _ w.heap.size rfl _ _ _ _ _ (blkPut4 HT2.out rfl _ _ _ _)) rfl ⟨?_, ?_, frPut4 HF2.out (.inr (by omega)) _ _ _ _⟩
            all_goals rw [HE.out, if_neg hl]
            · rfl
            · exact Rd.keep HR2.out (frPut4 (Fr.refl [some w.heap.size] _) (.inl (by simp)) _ _ _ _) (by simp; omega)
      · have HX2 := Lib.hid (HX.out.plain HG.out (by rw [HC.out]; exact h39))
        rw [HC.out] at HX2
        have hne39 : ((c.toNat : Int) == 39) = false := by
          rw [beq_eq_false_iff_ne]
          intro h
          exact h39 (UInt8.toNat_inj.1 (by simpa using (by omega : c.toNat = 39)))
        clear h39 h1' hfz
        have hlen : acc.length ≤ 1000000 := Nat.le_trans hacc (Nat.le_trans hq HS.out)
        have hmx : acc.length + 1 ≤ maxLen := Nat.le_trans (Nat.succ_le_succ hlen) (by unfold maxLen; decide)
        have hby : (acc.length + 1) * 1 ≤ 140737488355328 := by rw [Nat.mul_one]; exact Nat.le_trans (Nat.succ_le_succ hlen) (by decide)
        go_wp2_with (at_builtin; refine wpList_append_row rfl _ _ 36 rfl 5 i0 (enc 0) 1 1 Tryd.underlying36 hi hz0 hz1 hz2 rfl (by decide) u5 acc.length (acc.map enc) rfl (HROW1.out.keep ((Fr.refl [] _).alloc _) (by simp)) ⟨w1.heap.size, 0, none⟩ 1 1 [.int .u8 (c.toNat : Int)] rfl rfl ?c1 ?c2 hmx hby ?_)
        case c1 => exact cell_one_new _ _ _
        case c2 => simp [Value.oneCell']
        intro v' w' hr' hf' hb'
        clear hne39
        have hRw : Rd w' R S (q) := rd_behind hlt HR1.out hown hf'
        have e1 : (q : Int) + 1 = ((q + 1 : Nat) : Int) := by omega
        have e2 : p < q + 1 := by omega
        have e3 : q + 1 ≤ S.length := by omega
        have e4 : acc.length < q + 1 := by omega
        have HSTEP := Lib.hid (TxI.step (c := c) ((q : Int) + 1) (q := q + 1) e1 hlt e2 e3 e4 HX2.out HR1.out HT1.out hown HF1.out hr' hf' hb')
        have HMEB := Lib.hid (meaQ_lt HMEA.out (hRw.setZ ((q : Int) + 1)) e1 (Nat.lt_add_of_pos_right (by decide)) e3)
        have hc1w : w'.cell? ⟨R, 1, none⟩ = some (.int .i64 ((q : Int))) := hRw.c1
        have hfzw := Blk.free hRw 1
        have hww : wrap64 (((q : Int)) + 1) = ((q : Int)) + 1 := by have := HS.out; unfold wrap64; omega
        clear hown hr' hf' hb' hRw e1 e2 e3 e4
        go_wp2_with fail
        go_roundw
        case rel => exact HSTEP.out
        case measure => exact HMEB.out
end Lx
end Go.Proofs.YtpmgecnkcllneaaDoor
