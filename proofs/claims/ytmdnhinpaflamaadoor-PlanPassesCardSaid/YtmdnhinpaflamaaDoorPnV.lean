/- A row of a table, made of numbers. -/
import Derived.Test.YtmdnhinpaflamaaDoorPnU
import Derived.Test.YtmdnhinpaflamaaDoorGv
namespace Go.Proofs.YtmdnhinpaflamaaDoor
open Go.RowKit
set_option linter.unusedVariables false
set_option linter.unusedSimpArgs false
namespace Pn
open PM (Ex B Col It)
open Gn (PK Gr valC num_any value_any)
open Px (ColS colC)
def kVal : Px.Kd (Int × Int × B) := Px.kFlat vC 3 (fun _ => rfl) (fun _ => by simp [vC, Value.oneCell'])
theorem info_val : (Tryd.prog.info? 38).map (fun i => (i.zero, i.size, i.bytes)) = some (some (.agg #[.int .i64 0, .int .i64 0, .string ⟨#[]⟩]), 3, 32) := by kernel_rfl
theorem lit_fine {kind k i : Int} {t : B} (h : Gn.Lit kind k i t) : Fine i t ∧ (kind = 1 → k = 1) := by
  cases h with
  | int _ n hk h => exact ⟨⟨ok_iff.2 (by omega), Nat.zero_le _⟩, fun _ => rfl⟩
  | text r _ h hl => exact ⟨⟨by decide, by omega⟩, fun h => absurd h (by decide)⟩
set_option maxRecDepth 1000000 in
set_option maxHeartbeats 4000000 in
/-- Row -/
theorem row_any {C M : Nat} (P : Nat) (tn : B) (l : List Col) (ix : List B) (a ia : Option Addr) (c ic : Nat) (hl : l.length ≤ 10) (A : Nat → Prop) (w : World) (hA : ∀ g, A g → g ≠ P) (h : PK C M w P) (ht : TR A w ⟨tn, l, ix⟩ a c ia ic) :
    Calls Tryd.prog 17 #[.pointer (some ⟨P, 0, none⟩), .agg #[.string ⟨tn.toArray⟩, .slice a l.length c, .slice ia ix.length ic]] w fun e w' => ∃ (vals : List (Int × Int × B)) (v : Value), e = .returned v ∧ vals.length = l.length ∧ Hid (∀ x ∈ vals, Fine x.2.1 x.2.2) ∧ Hid (∀ j, (h : j < vals.length) → (h2 : j < l.length) → l[j].kind = 1 → vals[j].1 = 1) ∧ Hid (ValS (fun g => w.heap.size ≤ g) w' v vals) ∧ Hid (PK C M w' P) ∧ Hid (Fr [some P] w w') := by
  have HK := Lib.hid h
  have hPl := h.lt'
  have hCl := h.le
  have HZ := Lib.hid (Sh.flat_form (cells := colC) (size := 3) (fun _ => rfl) ht.cols).2.2
  have HAP := Lib.hid hA
  obtain ⟨i0, hi, hz0, hz1, hz2⟩ := Gn.info_parts' info_val
  have HBX := Lib.hid (Blk.new w 27 [.string ⟨tn.toArray⟩, .slice a l.length c, .slice ia ix.length ic])
  have HF0 := Lib.hid ((Fr.refl [some P] w).alloc (.cells #[.string ⟨tn.toArray⟩, .slice a l.length c, .slice ia ix.length ic] 27))
  have hli : (l.length : Int) ≤ 10 := by omega
  have HZZ : Hid (∀ k, (hk : k < l.length) → ∃ g off, a = some ⟨g, off, none⟩ ∧ A g ∧ g < w.heap.size ∧ l.length ≤ c ∧ ∀ i u, (colC l[k])[i]? = some u → w.cell? ⟨g, off + k * 3 + i, none⟩ = some u) := Lib.hid HZ.out
  clear h ht hA HZ
  go_enter Tryd.func17, Tryd.ntmps17
  go_wp2_with fail
  go_loopw [5, 6] (fun v i wr => ∃ (k : Nat) (acc : List (Int × Int × B)), i = .int .i64 k ∧ k ≤ l.length ∧ acc.length = k ∧ Hid (∀ x ∈ acc, Fine x.2.1 x.2.2) ∧ Hid (∀ j, (h : j < acc.length) → (h2 : j < l.length) → l[j].kind = 1 → acc[j].1 = 1) ∧ Hid (Gr kVal 38 (w.heap.size + 1) wr v acc) ∧ Hid (PK C M wr P) ∧ Hid (Fr [some P] (w.alloc (.cells #[.string ⟨tn.toArray⟩, .slice a l.length c, .slice ia ix.length ic] 27)) wr)) (fun _ i _ => l.length - (intOf i).toNat)
  case atStart => exact ⟨0, [], rfl, Nat.zero_le _, rfl, Lib.hid (by simp), Lib.hid (fun j h => absurd h (Nat.not_lt_zero _)), Lib.hid Gr.nil, Lib.hid (HK.out.alloc _), Lib.hid (Fr.refl _ _)⟩
  case round =>
    obtain ⟨k, acc, rfl, hk, hacc, HFI, HKI, HG, HK2, HF⟩ := hrel
    have hsz := HF.out.size
    rw [World.size_alloc] at hsz
    have b1 := (HBX.out.keep HF.out (by simp; omega)).cell 1
    have hbl := (HBX.out.keep HF.out (by simp; omega)).lt
    simp only [List.getElem?_cons_zero, List.getElem?_cons_succ] at b1
    by_cases hkl : k < l.length
    · have hkl' : (k : Int) < l.length := by omega
      obtain ⟨g, off, rfl, hAg, hg, hcap, hc⟩ := HZZ.out k hkl
      have frw : Fr [some P] w wr := ((Fr.refl [some P] w).alloc _).trans HF.out
      have c1 := (frw.cell (p := ⟨g, off + k * 3 + 1, none⟩) hg (by simp; exact HAP.out g hAg)).trans (hc 1 _ rfl)
      have hci : (l.length : Int) ≤ c := by omega
      obtain ⟨kd, hkd⟩ : ∃ z, l[k].kind = z := ⟨_, rfl⟩
      rw [hkd] at c1
      have HKD := Lib.hid hkd
      have hgw : g < wr.heap.size := Nat.lt_of_lt_of_le hg frw.size
      clear hc hkd frw
      go_wp2_with fail
      refine (value_any P kd wr HK2.out).mono ?_
      rintro e w3 ⟨vk, vi, vt, rfl, hlit, hk3, hf3⟩
      have HK3 := Lib.hid hk3
      have HF3 := Lib.hid (HF.out.trans hf3)
      have HG3 := Lib.hid (HG.out.keep hf3 (fun g hg => by simp; omega))
      have hs3 := hf3.size
      obtain ⟨hfine, hkind⟩ := lit_fine hlit
      have HFN := Lib.hid hfine
      have HKN := Lib.hid hkind
      clear hlit hk3 hf3 hfine hkind b1 c1
      obtain ⟨⟨cs, hRL, hROW⟩, hOWN⟩ := HG3.out
      have HRL := Lib.hid hRL
      have HROW := Lib.hid hROW
      have HOWN := Lib.hid hOWN
      obtain ⟨hmx, hby⟩ := Px.lim96 (n := acc.length) (b := 32) (by omega) (by omega)
      have HROW3 := Lib.hid (hROW.keep ((Fr.refl [] w3).alloc (.cells #[.int .i64 vk, .int .i64 vi, .string ⟨vt.toArray⟩] 38)) (by simp))
      clear hRL hROW hOWN
      unfold valC
      go_wp2_with (at_builtin; refine wpList_append_row rfl _ _ 54 rfl 38 i0 (.agg #[.int .i64 0, .int .i64 0, .string ⟨#[]⟩]) 3 32 Tryd.underlying54 hi hz0 hz1 hz2 rfl (by decide) u5 acc.length cs rfl HROW3.out ⟨w3.heap.size, 0, none⟩ 1 1 [.int .i64 vk, .int .i64 vi, .string ⟨vt.toArray⟩] rfl rfl ?c1 ?c2 hmx hby ?_)
      case c1 => exact Lx.four_new w3 38 [.int .i64 vk, .int .i64 vi, .string ⟨vt.toArray⟩]
      case c2 => simp [Value.oneCell']
      intro v' w4 hr' hf' hb'
      have hf0 := hf'
      obtain ⟨st1, st2⟩ := Gr.push (x := (vk, vi, vt)) HRL.out HROW.out HOWN.out (by omega) (rfl : kVal.E _ w3 (vk, vi, vt) (vC (vk, vi, vt))) (by rw [hacc]; exact hr') hf' hb'
      have HG4 := Lib.hid st1
      have HF4 : Hid (Fr [some P] (w.alloc (.cells #[.string ⟨tn.toArray⟩, .slice (some ⟨g, off, none⟩) l.length c, .slice ia ix.length ic] 27)) w4) := Lib.hid (st2 (by rw [World.size_alloc]; omega) HF3.out)
      have HK4 : Hid (PK C M w4 P) := Lib.hid ((HK3.out.alloc _).keep hf0 (fun g hg => by simp at hg; have := HOWN.out g hg.symm; omega))
      clear hr' hf' hb' st1 st2 HROW3 HRL HROW HOWN hf0
      go_wp2_with fail
      go_roundw
      case rel =>
        refine ⟨k + 1, acc ++ [(vk, vi, vt)], by go_num, by omega, by simp; omega, Lib.hid (fun x hx => ?_), Lib.hid (fun j hj h2 h3 => ?_), HG4, HK4, HF4⟩
        · rcases List.mem_append.1 hx with h | h
          · exact HFI.out x h
          · rw [List.mem_singleton.1 h]; exact HFN.out
        · rcases Nat.lt_or_ge j acc.length with h | h
          · rw [List.getElem_append_left h]; exact HKI.out j h h2 h3
          · obtain rfl : j = k := by simp at hj; omega
            rw [List.getElem_append_right (by omega)]
            simp only [hacc, Nat.sub_self, List.getElem_cons_zero]
            exact HKN.out (HKD.out.symm.trans h3)
      case measure => simp only [intOf]; omega
    · obtain rfl : k = l.length := by omega
      go_wp2_with fail
      go_ret
      exact ⟨acc, _, rfl, hacc, HFI, HKI, Lib.hid (Px.FlatS.mono (fun g hg => by omega) HG.out.flat), HK2, Lib.hid (((Fr.refl [some P] w).alloc _).trans HF.out)⟩
end Pn
end Go.Proofs.YtmdnhinpaflamaaDoor
