/- UndoAll: the walk. -/
import Derived.Test.YtmlmjajhmenjmaaArg
import Derived.Test.YtmlmjajhmenjmaaLogS
import Derived.Deep.QuietTactic
import Derived.BigQuiet
import Derived.IntWalk
namespace Go.Proofs.Ytmlmjajhmenjmaa
open Go.RowKit

namespace AllLaw
def Own (w : World) (v : Value) : Prop := ∀ k, v.ownBlock = some k → w.heap.size ≤ k

/-- the log and the list stand side by side, each in memory of its own -/
structure St (w wr : World) (L : Nat) (v hv : Value) (xs : List ByteArray) : Prop where
  log : Logs.Is wr L v xs
  row : Row wr 9 1 hv xs.length (xs.map Value.string)
  ne : hv.ownBlock ≠ some L
  apart : ∀ k, hv.ownBlock = some k → v.ownBlock ≠ some k
  ownv : Own w v
  ownh : Own w hv
  fr : Fr [] w wr

theorem St.keep {w wr w' : World} {L : Nat} {v hv : Value} {xs : List ByteArray} (h : St w wr L v hv xs) (hf : Fr [] wr w') : St w w' L v hv xs :=
  ⟨h.log.keep hf (by simp) (by simp), h.row.keep hf (by simp), h.ne, h.apart, h.ownv, h.ownh, h.fr.trans hf⟩

theorem conv2 (w : World) (x z : Int) : (convert 22 9 (.slice (some ⟨w.heap.size, 0, none⟩) 2 2)).run Try.prog (w.alloc (.cells #[.int .u8 x, .int .u8 z] 5)) =
    .ok (.string (strOfNums [x, z])) (w.alloc (.cells #[.int .u8 x, .int .u8 z] 5)) := by
  refine run_convert_bytes_arg _ 22 5 Try.underlying22 Try.underlying5 w.heap.size 0 2 2 [x, z] rfl (fun i hi => ?_) 9 Try.underlying9
  have hb := Blk.new w 5 [.int .u8 x, .int .u8 z]
  rw [Nat.zero_add, hb.cell i]
  rcases i with _ | _ | i
  · rfl
  · rfl
  · omega

theorem want_eq (n : Int) (xs : List ByteArray) (h : 0 ≤ n) : max ((xs.length : Int) - n) 0 = ((xs.length - Logs.upTo n xs : Nat) : Int) := by
  unfold Logs.upTo; omega

theorem own_eq (a : Option Addr) (n c m d : Nat) : (Value.slice a n c).ownBlock = (Value.slice a m d).ownBlock := by cases a <;> rfl

theorem row_cap {w : World} {E : TypeId} {ha : Option Addr} {n hc : Nat} {xs : List Value} (h : Row w E 1 (.slice ha n hc) n xs) : n ≤ hc := by
  rcases h.form with ⟨h, h0, _⟩ | ⟨g, off, c, h, h1, _⟩
  · omega
  · cases h; exact h1

theorem row_take {w : World} {E : TypeId} {ha : Option Addr} {hc m : Nat} {xs : List ByteArray} (h : Row w E 1 (.slice ha xs.length hc) xs.length (xs.map Value.string)) (hle : m ≤ xs.length) :
    Row w E 1 (.slice ha m hc) (xs.take m).length ((xs.take m).map Value.string) := by
  have hlen : (xs.take m).length = m := by simp; omega
  have hc' := row_cap h
  rcases h.2 with ⟨he, h0⟩ | ⟨g, off, c, cur, he, _⟩
  · obtain rfl : xs = [] := List.eq_nil_of_length_eq_zero h0
    obtain rfl : m = 0 := by simpa using hle
    simp only [List.length_nil, Value.slice.injEq] at he
    obtain ⟨rfl, _, rfl⟩ := he
    exact Row.nil _ _ _
  · simp only [Value.slice.injEq] at he
    obtain ⟨rfl, _, rfl⟩ := he
    have := h.cut (lo := 0) (hi := m) (mx := hc) (Nat.zero_le _) hle (by omega) (Nat.le_refl _)
    rw [hlen, List.map_take]
    simpa using this

/-- what the loop over the copy has not come to yet -/
def Left (w : World) (a : Option Addr) (q : Nat) (xs : List ByteArray) : Prop :=
  ∀ j, q ≤ j → j < xs.length → ∃ g off, a = some ⟨g, off, none⟩ ∧ w.cell? ⟨g, off + j, none⟩ = some (.string (xs.getD j ByteArray.empty)) ∧ w.frozen? ⟨g, off + j, none⟩ = false

theorem left_of_row {w : World} {a : Option Addr} {n c : Nat} {xs : List ByteArray} (hn : n = xs.length) (h : Row w 9 1 (.slice a n c) n (xs.map Value.string)) : Left w a 0 xs := by
  intro j _ hj
  rcases h.2 with ⟨_, h0⟩ | ⟨g, off, cap, cur, he, hb, _⟩
  · omega
  · simp only [Value.slice.injEq] at he
    obtain ⟨rfl, _, rfl⟩ := he
    refine ⟨g, off, rfl, ?_, hb.free _⟩
    rw [h.cells j (by simpa using hj), List.getD_eq_getElem?_getD, List.getElem?_map, List.getD_eq_getElem?_getD, List.getElem?_eq_getElem hj]
    rfl

theorem left_set {w : World} {g off q : Nat} {xs : List ByteArray} (u : Value) (h : Left w (some ⟨g, off, none⟩) q xs) : Left (w.setCell ⟨g, off + q, none⟩ u) (some ⟨g, off, none⟩) (q + 1) xs := by
  intro j hj hl
  obtain ⟨g', off', he, hc, hf⟩ := h j (by omega) hl
  cases he
  exact ⟨g, off, rfl, (World.cell?_setCell_other w ⟨g, off + q, none⟩ ⟨g, off + j, none⟩ u (by intro e; injection e with _ e2; omega)).trans hc, by simpa using hf⟩

set_option maxRecDepth 100000 in
set_option maxHeartbeats 4000000 in
theorem walk_list (a0 : Option Addr) (cap0 : Nat) (l : List Int) (w : World) (ha : Arg .i64 w a0 l) (hb : ∀ x ∈ l, -9223372036854775808 ≤ x ∧ x ≤ 9223372036854775807) (hl : l.length ≤ 60) :
    Calls Try.prog 4 #[.slice a0 l.length cap0] w fun e w' => e = .returned (.bool true) ∧ Fr [] w w' := by
  have h60 : decide ((60 : Int) < (l.length : Int)) = false := by simp; omega
  have HA := Lib.hid ha
  have HB := Lib.hid hb
  clear ha hb
  obtain ⟨i0, hi, hz0, hz1, hz2⟩ := info_parts Logs.info
  go_enter Try.func4, Try.ntmps4
  go_wp2_with fail
  refine (begun_true _).mono ?_
  rintro e w1 ⟨rfl, hf1⟩
  go_wp2_with fail
  refine (Logs.new _).mono ?_
  rintro e w2 ⟨rfl, hl2, hf2, hs2⟩
  obtain ⟨L, hL⟩ : ∃ L, w1.heap.size = L := ⟨_, rfl⟩
  have hwL : w.heap.size ≤ L := by have := hf1.size; omega
  rw [hL] at hl2 hs2 ⊢
  clear hL
  have hst : St w w2 L (.slice none 0 0) (.slice none 0 0) [] := ⟨hl2, Row.nil _ _ _, by simp [Value.ownBlock], by simp [Value.ownBlock], by simp [Own, Value.ownBlock], by simp [Own, Value.ownBlock], hf1.trans hf2⟩
  clear hf1 hf2 hl2 hs2
  go_wp2_with fail
  go_loopw [4, 5] (fun hv i wr => ∃ (k : Nat) (v : Value) (xs : List ByteArray) (ha : Option Addr) (hc : Nat), k ≤ l.length ∧ i = .int .i64 k ∧ xs.length ≤ k ∧ hv = .slice ha xs.length hc ∧ St w wr L v (.slice ha xs.length hc) xs) (fun _ i _ => l.length - (intOf i).toNat)
  case atStart => exact ⟨0, _, [], none, 0, by omega, rfl, by simp, rfl, hst⟩
  case round =>
    clear hst
    obtain ⟨k, v, xs, ha, hc, hk, rfl, hxk, rfl, hst⟩ := hrel
    by_cases hlt : k < l.length
    · obtain ⟨b0, off, rfl, hbw, hc0⟩ := HA.out k hlt
      obtain ⟨y, hy⟩ : ∃ y, l.getD k 0 = y := ⟨_, rfl⟩
      have hcell : wr.cell? ⟨b0, off + k, none⟩ = some (.int .i64 y) := (hst.fr.cell (p := ⟨b0, off + k, none⟩) hbw (by simp)).trans (by rw [hc0, hy])
      obtain ⟨hy1, hy2⟩ := HB.out y (by rw [← hy]; simp [List.getD_eq_getElem?_getD, hlt])
      clear hc0 hy
      by_cases h0 : 0 ≤ y
      · have hcv := conv2 wr (y % 256) k
        go_wp2_with fail
        clear hcv
        have hst1 := hst.keep ((Fr.refl [] wr).alloc (.cells #[.int .u8 (y % 256), .int .u8 (k : Int)] 5))
        generalize wr.alloc (.cells #[.int .u8 (y % 256), .int .u8 (k : Int)] 5) = wa at *
        generalize strOfNums [y % 256, (k : Int)] = s at *
        clear hcell hst
        refine (Logs.push L v xs s _ hst1.log (by omega)).mono ?_
        rintro e w3 ⟨rfl, v3, hl3, hf3, hb3⟩
        have hh3 : Row w3 9 1 (.slice ha xs.length hc) xs.length (xs.map Value.string) := hst1.row.keep hf3 (fun j hj => by
          have h1 := hst1.ne
          have h2 := hst1.apart j hj
          rw [hj] at h1
          simp only [List.mem_cons, List.not_mem_nil, or_false, not_or]
          exact ⟨h1, fun h => h2 h.symm⟩)
        have hap3 : ∀ j, (Value.slice ha xs.length hc).ownBlock = some j → v3.ownBlock ≠ some j := fun j hj h => by
          rcases hb3 with h' | ⟨j', hj', h'⟩
          · exact hst1.apart j hj (by rw [← h']; exact h)
          · rw [h'] at h; cases h; have := hst1.row.block_lt hj; omega
        have hov3 : Own w v3 := fun j hj => by
          rcases hb3 with h | ⟨j', hj', h⟩
          · exact hst1.ownv j (by rw [← h]; exact hj)
          · rw [h] at hj; cases hj; have := hst1.fr.size; omega
        have hfr3 : Fr [] w w3 := hst1.fr.trans' hf3 (fun i hi => by
          simp only [List.mem_cons, List.not_mem_nil, or_false] at hi
          rcases hi with hi | hi
          · cases hi; exact .inr hwL
          · exact .inr (hst1.ownv i hi.symm))
        have hne3 := hst1.ne
        have hoh3 := hst1.ownh
        clear hst1 hf3 hb3
        go_wp2_with (at_builtin; refine wpList_append_row rfl _ _ 26 rfl 9 i0 (Value.string ByteArray.empty) 1 16 Try.underlying26 hi hz0 hz1 hz2 rfl (by decide) (.slice ha xs.length hc) xs.length (xs.map Value.string) rfl (hh3.keep ((Fr.refl [] _).alloc _) (by simp)) ⟨w3.heap.size, 0, none⟩ 1 1 [Value.string s] rfl rfl ?c1 ?c2 ?c3 ?c4 ?_)
        case c1 => exact cell_one_new _ _ _
        case c2 => simp [Value.oneCell']
        case c3 => unfold maxLen; omega
        case c4 => omega
        intro hv' w4 hr4 hf4 hb4
        have hst4 : St w w4 L v3 hv' (xs ++ [s]) := by
          have hL4 := hl3.keep ((Fr.refl [] w3).alloc (.cells #[.string s] 9)) (by simp) (by simp)
          refine ⟨hL4.keep hf4 (by simpa using fun h => hne3 h.symm) (fun j hj => by simpa using fun h => hap3 j h.symm hj), by simpa using hr4, ?_, ?_, hov3, ?_, (hfr3.alloc _).trans' hf4 (fun i hi => ?_)⟩
          · rcases hb4 with h | ⟨j, hj, h⟩
            · rw [h]; exact hne3
            · rw [h]; have := hl3.blk.lt; simp; omega
          · intro j hj h
            rcases hb4 with h' | ⟨j', hj', h'⟩
            · exact hap3 j (by rw [← h']; exact hj) h
            · rw [h'] at hj; cases hj; have := hl3.row.block_lt h; omega
          · intro j hj
            rcases hb4 with h' | ⟨j', hj', h'⟩
            · exact hoh3 j (by rw [← h']; exact hj)
            · rw [h'] at hj; cases hj; have := hfr3.size; omega
          · simp only [List.mem_cons, List.not_mem_nil, or_false] at hi
            exact .inr (hoh3 i hi.symm)
        clear hh3 hap3 hov3 hfr3 hne3 hoh3 hr4 hf4 hb4 hl3
        obtain ⟨ha', hc', rfl⟩ : ∃ a c, hv' = .slice a (xs ++ [s]).length c := by
          rcases hst4.row.form with ⟨h, h0, _⟩ | ⟨g, off, c, h, _⟩
          · exact ⟨none, 0, by rw [h, h0]⟩
          · exact ⟨_, _, h⟩
        have hxk' : (xs ++ [s]).length ≤ k + 1 := by simp; omega
        generalize xs ++ [s] = xs' at *
        go_wp2_with fail
        refine (Logs.all L v3 xs' _ hst4.log (by omega)).mono ?_
        rintro e w5 ⟨va, rfl, ⟨hr5, ho5⟩, hf5⟩
        have hst5 := hst4.keep hf5
        obtain ⟨aa, ac, rfl⟩ : ∃ a c, va = .slice a xs'.length c := by
          rcases hr5.form with ⟨h, h0, _⟩ | ⟨g, off, c, h, _⟩
          · exact ⟨none, 0, by rw [h, h0]⟩
          · exact ⟨_, _, h⟩
        have hleft := left_of_row rfl hr5
        clear hr5
        go_wp2_with fail
        refine (Logs.len L v3 xs' _ hst5.log).mono ?_
        rintro e w6 ⟨rfl, rfl⟩
        go_wp2_with fail
        go_loopw [12] (fun i wr => ∃ (q : Nat), q ≤ xs'.length ∧ i = .int .i64 q ∧ Fr [] w4 wr ∧ w5.heap.size ≤ wr.heap.size ∧ Left wr aa q xs') (fun i _ => xs'.length - (intOf i).toNat)
        case atStart => exact ⟨0, by omega, rfl, hf5, by omega, hleft⟩
        case round =>
          clear hleft hf5 hst5
          obtain ⟨q, hq, rfl, hfr, hsz, hleft⟩ := hrel
          by_cases hlq : q < xs'.length
          · obtain ⟨g, off1, rfl, hcell1, hfree⟩ := hleft q (Nat.le_refl _) hlq
            have hg4 : w4.heap.size ≤ g := by
              rcases ho5 with h | ⟨j, hj, h⟩
              · simp [Value.ownBlock] at h
              · simp only [Value.ownBlock, Option.some.injEq] at h; omega
            have hrow4 := hst4.row
            rcases hrow4.form with ⟨_, h0, _⟩ | ⟨g', off2, c2, he, _, _⟩
            · omega
            cases he
            obtain ⟨s, hs⟩ : ∃ s, xs'.getD q ByteArray.empty = s := ⟨_, rfl⟩
            rw [hs] at hcell1
            have hcell2 : wr.cell? ⟨g', off2 + q, none⟩ = some (.string s) := by
              have hrow := hrow4.keep hfr (by simp)
              rw [hrow.cells q (by simpa using hlq), List.getD_eq_getElem?_getD, List.getElem?_map, ← hs, List.getD_eq_getElem?_getD, List.getElem?_eq_getElem hlq]
              rfl
            have hset := left_set (.string ⟨#[115, 112, 111, 105, 108, 116]⟩) hleft
            clear hs hleft hrow4
            go_wp2_with fail
            go_quiet (fail)
            go_wp2_with fail
            go_roundw
            case rel => exact ⟨q + 1, by omega, by go_num, (hfr.setCell (.inr hg4) _).drewN _, by simpa using hsz, hset⟩
            case measure => simp [intOf]; omega
          · have hst6 := hst4.keep hfr
            clear hleft hfr hst4
            go_wp2_with fail
            go_roundw
            case rel => exact ⟨k + 1, v3, xs', ha', hc', by omega, by go_num, hxk', rfl, hst6⟩
            case measure => simp [intOf]; omega
      · have hn0 : 0 ≤ -(y + 1) := by omega
        go_wp2_with fail
        obtain ⟨n, hn⟩ : ∃ n, -(y + 1) = n := ⟨_, rfl⟩
        have hn1 : n ≤ 9223372036854775807 := by omega
        rw [hn] at hn0 ⊢
        clear hn hcell
        refine (Logs.back L v xs n _ hst.log (by omega)).mono ?_
        rintro e w3 ⟨vb, v3, rfl, hl3, ⟨hr3, ho3⟩, hf3, hb3⟩
        have hwant := want_eq n xs hn0
        have hle := Logs.upTo_le n xs
        generalize Logs.upTo n xs = m at *
        obtain ⟨W, hW⟩ : ∃ W, xs.length - m = W := ⟨_, rfl⟩
        have hWx : W ≤ xs.length := by omega
        have hmW : xs.length - W = m := by omega
        have hbl : (xs.drop m).reverse.length = W := by simp [hW]
        rw [hW] at hwant
        obtain ⟨ba, bc, rfl⟩ : ∃ a c, vb = .slice a W c := by
          rcases hr3.form with ⟨h, h0, _⟩ | ⟨g, off, c, h, _⟩
          · exact ⟨none, 0, by rw [h, ← hbl, h0]⟩
          · exact ⟨_, _, by rw [h, hbl]⟩
        rw [hbl] at hr3
        have hrow3 := hst.row.keep hf3 (fun j hj => by
          have h1 := hst.ne
          rw [hj] at h1
          simpa using h1)
        have hcap := row_cap hrow3
        have hsub : (xs.length : Int) - (W : Int) = (m : Int) := by omega
        have HSUB := Lib.hid hsub
        have hst3 : St w w3 L v3 (.slice ha m hc) (xs.take m) := by
          have e1 := own_eq ha m hc xs.length hc
          refine ⟨hl3, row_take hrow3 hle, by rw [e1]; exact hst.ne, ?_, fun j hj => hst.ownv j (by rw [← hb3]; exact hj), fun j hj => hst.ownh j (by rw [← e1]; exact hj), hst.fr.trans' hf3 (fun i hi => ?_)⟩
          · intro j hj h
            exact hst.apart j (by rw [← e1]; exact hj) (by rw [← hb3]; exact h)
          · simp only [List.mem_cons, List.not_mem_nil, or_false] at hi
            cases hi
            exact .inr hwL
        clear hsub
        have HRB := Lib.hid hr3
        have HRH := Lib.hid hrow3
        have H1 := Lib.hid hmW
        have HW := Lib.hid hW
        clear hr3 hrow3 hW hmW hbl ho3 hl3 hb3 hst hf3
        go_wp2_with fail
        go_loopw [10] (fun i wr => ∃ (q : Nat), q ≤ W ∧ i = .int .i64 q ∧ Fr [] w3 wr) (fun i _ => W - (intOf i).toNat)
        case atStart => exact ⟨0, by omega, rfl, Fr.refl _ _⟩
        case round =>
          obtain ⟨q, hq, rfl, hfr⟩ := hrel
          by_cases hlq : q < W
          · have hix : ((xs.length : Int) - 1 - (q : Int)).toNat = xs.length - 1 - q := by omega
            rcases (HRB.out).form with ⟨_, h0, _⟩ | ⟨g, off1, c1, he, _, _⟩
            · omega
            cases he
            rcases (HRH.out).form with ⟨_, h0, _⟩ | ⟨g', off2, c2, he, _, _⟩
            · omega
            cases he
            obtain ⟨s, hs⟩ : ∃ s, xs.getD (xs.length - 1 - q) ByteArray.empty = s := ⟨_, rfl⟩
            have hcell1 : wr.cell? ⟨g, off1 + q, none⟩ = some (.string s) := by
              have hW' := HW.out
              have hrow := HRB.out.keep hfr (by simp)
              rw [hrow.cells q (by simp; omega), List.getD_eq_getElem?_getD, List.getElem?_map, List.getElem?_reverse (by simp; omega), List.getElem?_drop, ← hs, List.getD_eq_getElem?_getD]
              rw [show m + ((xs.drop m).length - 1 - q) = xs.length - 1 - q by simp; omega, List.getElem?_eq_getElem (by omega)]
              rfl
            have hcell2 : wr.cell? ⟨g', off2 + (xs.length - 1 - q), none⟩ = some (.string s) := by
              have hrow := HRH.out.keep hfr (by simp)
              rw [hrow.cells (xs.length - 1 - q) (by simp; omega), List.getD_eq_getElem?_getD, List.getElem?_map, ← hs, List.getD_eq_getElem?_getD, List.getElem?_eq_getElem (by omega)]
              rfl
            have hcell3 : wr.cell? ⟨g', off2 + ((xs.length : Int) - 1 - (q : Int)).toNat, none⟩ = some (.string s) := by rw [hix]; exact hcell2
            have hs1 : IntKind.i64.wrap ((xs.length : Int) - 1) = (xs.length : Int) - 1 := IntWalk.i64_in _ (by omega)
            have hs2 : IntKind.i64.wrap ((xs.length : Int) - 1 - (q : Int)) = (xs.length : Int) - 1 - (q : Int) := IntWalk.i64_in _ (by omega)
            have hp1 : (0 : Int) ≤ (xs.length : Int) - 1 - (q : Int) := by omega
            have hp2 : (xs.length : Int) - 1 - (q : Int) < (xs.length : Int) := by omega
            have hp3 : (q : Int) ≤ (xs.length : Int) - 1 := by omega
            clear hix hs
            go_wp2_with fail
            refine wp_region_quiet_lit (by kernel_rfl) (by kernel_rfl) ?_
            repeat (first | go_big_quiet_step (fail) | (go_big_quiet_want; go_big_quiet_op; go_simp; go_big_quiet_on))
            refine wpQuiet_nil ?_
            rintro _ ⟨nq, rfl⟩
            clear hs1 hs2
            go_wp2_with fail
            go_roundw
            case rel => exact ⟨q + 1, by omega, by go_num, hfr.drewN _⟩
            case measure => simp [intOf]; omega
          · have hst4 := hst3.keep hfr
            have hsub := HSUB.out
            have hxk' : (xs.take m).length ≤ k + 1 := by simp; omega
            clear hst3 hfr
            go_wp2_with fail
            have hlen : (xs.take m).length = m := by simp; omega
            obtain ⟨xs', hxs⟩ : ∃ xs', xs.take m = xs' := ⟨_, rfl⟩
            rw [hxs] at hlen hst4 hxk'
            clear hxs hsub
            obtain ⟨w4, rfl⟩ : ∃ w4 : World, w4 = wr := ⟨_, rfl⟩
            obtain ⟨ha', rfl⟩ : ∃ ha', ha' = ha := ⟨_, rfl⟩
            obtain ⟨hc', rfl⟩ : ∃ hc', hc' = hc := ⟨_, rfl⟩
            clear HSUB H1 HW HRB HRH
            subst hlen
            refine (Logs.all L v3 xs' _ hst4.log (by omega)).mono ?_
            rintro e w5 ⟨va, rfl, ⟨hr5, ho5⟩, hf5⟩
            have hst5 := hst4.keep hf5
            obtain ⟨aa, ac, rfl⟩ : ∃ a c, va = .slice a xs'.length c := by
              rcases hr5.form with ⟨h, h0, _⟩ | ⟨g, off, c, h, _⟩
              · exact ⟨none, 0, by rw [h, h0]⟩
              · exact ⟨_, _, h⟩
            have hleft := left_of_row rfl hr5
            clear hr5
            go_wp2_with fail
            refine (Logs.len L v3 xs' _ hst5.log).mono ?_
            rintro e w6 ⟨rfl, rfl⟩
            go_wp2_with fail
            go_loopw [12] (fun i wr => ∃ (q : Nat), q ≤ xs'.length ∧ i = .int .i64 q ∧ Fr [] w4 wr ∧ w5.heap.size ≤ wr.heap.size ∧ Left wr aa q xs') (fun i _ => xs'.length - (intOf i).toNat)
            case atStart => exact ⟨0, by omega, rfl, hf5, by omega, hleft⟩
            case round =>
              clear hleft hf5 hst5
              obtain ⟨q, hq, rfl, hfr, hsz, hleft⟩ := hrel
              by_cases hlq : q < xs'.length
              · obtain ⟨g, off1, rfl, hcell1, hfree⟩ := hleft q (Nat.le_refl _) hlq
                have hg4 : w4.heap.size ≤ g := by
                  rcases ho5 with h | ⟨j, hj, h⟩
                  · simp [Value.ownBlock] at h
                  · simp only [Value.ownBlock, Option.some.injEq] at h; omega
                have hrow4 := hst4.row
                rcases hrow4.form with ⟨_, h0, _⟩ | ⟨g', off2, c2, he, _, _⟩
                · omega
                cases he
                obtain ⟨s, hs⟩ : ∃ s, xs'.getD q ByteArray.empty = s := ⟨_, rfl⟩
                rw [hs] at hcell1
                have hcell2 : wr.cell? ⟨g', off2 + q, none⟩ = some (.string s) := by
                  have hrow := hrow4.keep hfr (by simp)
                  rw [hrow.cells q (by simpa using hlq), List.getD_eq_getElem?_getD, List.getElem?_map, ← hs, List.getD_eq_getElem?_getD, List.getElem?_eq_getElem hlq]
                  rfl
                have hset := left_set (.string ⟨#[115, 112, 111, 105, 108, 116]⟩) hleft
                clear hs hleft hrow4
                go_wp2_with fail
                go_quiet (fail)
                go_wp2_with fail
                go_roundw
                case rel => exact ⟨q + 1, by omega, by go_num, (hfr.setCell (.inr hg4) _).drewN _, by simpa using hsz, hset⟩
                case measure => simp [intOf]; omega
              · have hst6 := hst4.keep hfr
                clear hleft hfr hst4
                go_wp2_with fail
                go_roundw
                case rel => exact ⟨k + 1, v3, xs', ha', hc', by omega, by go_num, hxk', rfl, hst6⟩
                case measure => simp [intOf]; omega
    · have hfr := hst.fr
      clear hst
      go_wp2_with fail
      refine (Logi.push_nil 1 _).mono ?_
      rintro e w3 ⟨rfl, rfl⟩
      go_wp2_with fail
      have hz : Logi.Is (wr.alloc (.cells #[.slice none 0 0] 39)) wr.heap.size (.slice none 0 0) [] := ⟨Blk.new wr _ [_], Row.nil _ _ _, by simp [Value.ownBlock]⟩
      refine (Logi.push wr.heap.size _ [] 1 _ hz (by simp)).mono ?_
      rintro e w4 ⟨rfl, v4, hl4, hf4, hb4⟩
      have hfr4 : Fr [] w w4 := (hfr.alloc _).trans' hf4 (fun i hi => by
        simp [Value.ownBlock] at hi
        subst hi
        exact .inr hfr.size)
      go_wp2_with fail
      refine (Logi.len_nil _).mono ?_
      rintro e w5 ⟨rfl, rfl⟩
      go_wp2_with fail
      refine (Logi.all_nil _).mono ?_
      rintro e w5 ⟨rfl, rfl⟩
      go_wp2_with fail
      refine (Logi.back_nil 0 _).mono ?_
      rintro e w5 ⟨rfl, rfl⟩
      go_wp2_with fail
      refine (Logi.len wr.heap.size _ [1] _ hl4).mono ?_
      rintro e w5 ⟨rfl, rfl⟩
      go_wp2_with fail
      refine (Logi.back wr.heap.size _ [1] (-5) _ hl4 (by simp)).mono ?_
      rintro e w6 ⟨vb, v6, rfl, _, ⟨hr6, _⟩, hf6, _⟩
      have hu : Logi.upTo (-5) [1] = 0 := by decide
      rw [hu] at hr6
      rcases hr6.form with ⟨_, h0, _⟩ | ⟨g6, off6, cap6, rfl, _, _⟩
      · simp at h0
      simp only [List.drop_zero, List.reverse_cons, List.reverse_nil, List.nil_append, List.length_cons, List.length_nil]
      go_wp2_with fail
      go_ret
      refine ⟨rfl, hfr4.trans' hf6 (fun i hi => ?_)⟩
      simp at hi
      subst hi
      exact .inr hfr.size

theorem walk_long (a0 : Option Addr) (n0 cap0 : Nat) (w : World) (hl : 60 < n0) :
    Calls Try.prog 4 #[.slice a0 n0 cap0] w fun e w' => e = .returned (.bool true) ∧ Fr [] w w' := by
  have h60 : decide ((60 : Int) < (n0 : Int)) = true := by simp; omega
  go_enter Try.func4, Try.ntmps4
  go_wp2_with fail
  refine (begun_true _).mono ?_
  rintro e w1 ⟨rfl, hf1⟩
  go_wp2_with fail
  go_ret
  exact ⟨rfl, hf1⟩

theorem law (a0 : Option Addr) (cap0 : Nat) (l : List Int) (w : World) (ha : Arg .i64 w a0 l) (hb : ∀ x ∈ l, -9223372036854775808 ≤ x ∧ x ≤ 9223372036854775807) :
    Calls Try.prog 4 #[.slice a0 l.length cap0] w fun e w' => e = .returned (.bool true) ∧ Below w.heap.size w w' := by
  rcases Nat.lt_or_ge 60 l.length with h | h
  · exact (walk_long a0 _ cap0 w h).mono fun e w' ⟨h1, h2⟩ => ⟨h1, h2.below⟩
  · exact (walk_list a0 cap0 l w ha hb h).mono fun e w' ⟨h1, h2⟩ => ⟨h1, h2.below⟩
end AllLaw
end Go.Proofs.Ytmlmjajhmenjmaa
