/- parse: the law ParseWords. -/
import Derived.Test.YtpmgecnkcllneaaDoorParZ
namespace Go.Proofs.YtpmgecnkcllneaaDoor
open Go.RowKit
namespace Px
open PM (PS B Ex)

def wds : List B := [[115, 101, 108, 101, 99, 116], [102, 114, 111, 109], [119, 104, 101, 114, 101], [97, 110, 100], [111, 114], [110, 111, 116], [105, 110, 116], [116, 101, 120, 116], [114, 101, 102], [118, 97, 108, 117, 101, 115], [103, 114, 111, 117, 112], [100, 101, 115, 99], [115, 117, 109], [99, 97, 108, 108], [98, 101, 103, 105, 110]]
def txts : List B := [[99, 114, 101, 97, 116, 101, 32, 116, 97, 98, 108, 101, 32], [105, 110, 115, 101, 114, 116, 32, 105, 110, 116, 111, 32], [117, 112, 100, 97, 116, 101, 32], [100, 101, 108, 101, 116, 101, 32, 102, 114, 111, 109, 32], [99, 97, 108, 108, 32], [99, 114, 101, 97, 116, 101, 32, 118, 105, 101, 119, 32], [115, 101, 108, 101, 99, 116, 32, 42, 32, 102, 114, 111, 109, 32], [99, 114, 101, 97, 116, 101, 32, 105, 110, 100, 101, 120, 32, 111, 110, 32]]
/-- a text is none, of this place and kind -/
def none5 (r : (Int × Int) ⊕ PM.St) (n : Int) : Bool := PM.er r == 5 && PM.at' r == n
theorem words_none : (List.range 15).all (fun i => (List.range 8).all fun j => none5 (PM.parse (txts.getD j [] ++ wds.getD i [])) ((txts.getD j []).length)) = true := by decide +kernel
theorem names_some : (List.range 8).all (fun j => PM.er (PM.parse (txts.getD j [] ++ [110, 97, 109, 101])) == 0 || none5 (PM.parse (txts.getD j [] ++ [110, 97, 109, 101])) ((txts.getD j []).length + 4)) = true := by decide +kernel

theorem cat_two (S T : B) : (ByteArray.mk S.toArray ++ ByteArray.mk T.toArray : ByteArray) = ⟨(S ++ T).toArray⟩ := by
  apply ByteArray.ext
  rw [ByteArray.data_append]
  simp
theorem words_cell (w : World) (l : List B) (i : Nat) (hi : i < l.length) : (w.alloc (.cells (l.map (fun b => Value.string ⟨b.toArray⟩)).toArray 9)).cell? ⟨w.heap.size, i, none⟩ = some (.string ⟨(l.getD i []).toArray⟩) := by
  have := strs_new w l i hi
  rw [Nat.zero_add] at this
  rw [this, List.getD_eq_getElem?_getD, List.getElem?_eq_getElem hi]
  rfl
theorem none5_of {r : (Int × Int) ⊕ PM.St} {n : Int} (h : none5 r n = true) : PM.er r = 5 ∧ PM.at' r = n := by
  simpa [none5] using h

theorem lit_get (l : List B) (i : Nat) (hi : i < l.length) : (l.map (fun b => Value.string ⟨b.toArray⟩))[i]'(by simpa using hi) = .string ⟨(l.getD i []).toArray⟩ := by
  rw [List.getElem_map, List.getD_eq_getElem?_getD, List.getElem?_eq_getElem hi]
  rfl
theorem getD_mem (l : List B) (i : Nat) (hi : i < l.length) : l.getD i [] ∈ l := by
  rw [List.getD_eq_getElem?_getD, List.getElem?_eq_getElem hi]
  exact List.getElem_mem hi

set_option maxRecDepth 100000 in
set_option maxHeartbeats 4000000 in
theorem words_law (k j : Int) (hk : 0 ≤ k ∧ k ≤ 255) (hj : 0 ≤ j ∧ j ≤ 255) (w : World) (m : Int) (hm : w.cell? ⟨0, 0, none⟩ = some (.int .i64 m)) (h00 : 0 < w.heap.size) :
    Calls Tryd.prog 6 #[.int .u8 k, .int .u8 j] w fun e w' => e = .returned (.bool true) ∧ Fr [] w w' := by
  have HB := Lib.hid (begun_any w m hm h00)
  have HM := Lib.hid hm
  clear hm
  obtain ⟨hk0, hk1⟩ := hk
  obtain ⟨hj0, hj1⟩ := hj
  go_enter Tryd.func6, Tryd.ntmps6
  go_wp2_with fail
  refine HB.out.mono ?_
  rintro e w1 ⟨rfl, hf1⟩
  have HF1 := Lib.hid hf1
  clear hf1 HB
  have q1 : 0 ≤ k % 15 := by omega
  have q2 : k % 15 < 15 := by omega
  have q3 : 0 ≤ j % 8 := by omega
  have q4 : j % 8 < 8 := by omega
  have qi : (k % 15).toNat < 15 := by omega
  have qj : (j % 8).toNat < 8 := by omega
  obtain ⟨wd, hwd⟩ : ∃ wd, wds.getD (k % 15).toNat [] = wd := ⟨_, rfl⟩
  obtain ⟨tx, htx⟩ : ∃ tx, txts.getD (j % 8).toNat [] = tx := ⟨_, rfl⟩
  have hw : ([.string ⟨#[115, 101, 108, 101, 99, 116]⟩, .string ⟨#[102, 114, 111, 109]⟩, .string ⟨#[119, 104, 101, 114, 101]⟩, .string ⟨#[97, 110, 100]⟩, .string ⟨#[111, 114]⟩, .string ⟨#[110, 111, 116]⟩, .string ⟨#[105, 110, 116]⟩, .string ⟨#[116, 101, 120, 116]⟩, .string ⟨#[114, 101, 102]⟩, .string ⟨#[118, 97, 108, 117, 101, 115]⟩, .string ⟨#[103, 114, 111, 117, 112]⟩, .string ⟨#[100, 101, 115, 99]⟩, .string ⟨#[115, 117, 109]⟩, .string ⟨#[99, 97, 108, 108]⟩, .string ⟨#[98, 101, 103, 105, 110]⟩] : List Value)[(k % 15).toNat] = .string ⟨wd.toArray⟩ := by rw [← hwd]; exact lit_get wds _ qi
  have ht : ([.string ⟨#[99, 114, 101, 97, 116, 101, 32, 116, 97, 98, 108, 101, 32]⟩, .string ⟨#[105, 110, 115, 101, 114, 116, 32, 105, 110, 116, 111, 32]⟩, .string ⟨#[117, 112, 100, 97, 116, 101, 32]⟩, .string ⟨#[100, 101, 108, 101, 116, 101, 32, 102, 114, 111, 109, 32]⟩, .string ⟨#[99, 97, 108, 108, 32]⟩, .string ⟨#[99, 114, 101, 97, 116, 101, 32, 118, 105, 101, 119, 32]⟩, .string ⟨#[115, 101, 108, 101, 99, 116, 32, 42, 32, 102, 114, 111, 109, 32]⟩, .string ⟨#[99, 114, 101, 97, 116, 101, 32, 105, 110, 100, 101, 120, 32, 111, 110, 32]⟩] : List Value)[(j % 8).toNat] = .string ⟨tx.toArray⟩ := by rw [← htx]; exact lit_get txts _ qj
  have hall := List.all_eq_true.1 (List.all_eq_true.1 words_none (k % 15).toNat (by simpa using qi)) (j % 8).toNat (by simpa using qj)
  have hnm := List.all_eq_true.1 names_some (j % 8).toNat (by simpa using qj)
  simp only [hwd, htx] at hall hnm
  have HALL := Lib.hid (none5_of hall)
  have hlen : tx.length ≤ 100 ∧ wd.length ≤ 100 := by
    have h1 : (txts.all fun x => x.length ≤ 100) = true := by decide
    have h2 : (wds.all fun x => x.length ≤ 100) = true := by decide
    rw [← hwd, ← htx]
    exact ⟨by simpa using List.all_eq_true.1 h1 _ (getD_mem txts _ qj), by simpa using List.all_eq_true.1 h2 _ (getD_mem wds _ qi)⟩
  have HNM := Lib.hid hnm
  have HLEN := Lib.hid hlen
  obtain ⟨b1, hb1⟩ : ∃ b1, (ByteArray.mk tx.toArray ++ ByteArray.mk wd.toArray : ByteArray) = b1 := ⟨_, rfl⟩
  obtain ⟨b2, hb2⟩ : ∃ b2, (ByteArray.mk tx.toArray ++ ByteArray.mk #[110, 97, 109, 101] : ByteArray) = b2 := ⟨_, rfl⟩
  have HB1 : Hid (b1 = ⟨(tx ++ wd).toArray⟩) := Lib.hid (by rw [← hb1, cat_two])
  have HB2 : Hid (b2 = ⟨(tx ++ [110, 97, 109, 101]).toArray⟩) := Lib.hid (by rw [← hb2, ← cat_two])
  obtain ⟨hlen1, hlen2⟩ := hlen
  clear hwd htx hall hnm
  go_wp2_with fail
  rw [HB1.out]
  refine (parse_told (tx ++ wd) _ m ?_ ?_ ?_).mono ?_
  · exact ((((HF1.out.alloc _).alloc _).cell (p := ⟨0, 0, none⟩) h00 (by simp))).trans HM.out
  · simp
  · have := HLEN.out
    simp
    omega
  rintro e w2 ⟨c, rfl, -, hf2⟩
  rw [HALL.out.1, HALL.out.2]
  have HF2 : Hid (Fr [] w w2) := Lib.hid (((HF1.out.alloc _).alloc _).trans hf2)
  have hlt : (tx.length : Int) ≤ 100 := by have := HLEN.out; omega
  have hl0 := hf2.size
  clear hf2 hb1
  go_wp2_with fail
  rw [HB2.out]
  refine (parse_told (tx ++ [110, 97, 109, 101]) _ m ?_ ?_ ?_).mono ?_
  · exact ((HF2.out.alloc _).cell (p := ⟨0, 0, none⟩) h00 (by simp)).trans HM.out
  · simp
  · have := HLEN.out
    simp
    omega
  rintro e w3 ⟨c', rfl, -, hf3⟩
  have HF3 : Hid (Fr [] w w3) := Lib.hid ((HF2.out.alloc _).trans hf3)
  obtain ⟨at2, hat2⟩ : ∃ x, PM.at' (PM.parse (tx ++ [110, 97, 109, 101])) = x := ⟨_, rfl⟩
  obtain ⟨er2, her2⟩ : ∃ x, PM.er (PM.parse (tx ++ [110, 97, 109, 101])) = x := ⟨_, rfl⟩
  rw [hat2, her2]
  have hnm := HNM.out
  rw [none5, her2, hat2, Bool.or_eq_true] at hnm
  clear hf3 hb2 hat2 her2 hl0
  have h5 : ((5 : Int) == 5) = true := rfl
  have hll : ((tx.length : Int) == (tx.length : Int)) = true := by simp
  rcases hnm with h0 | h1
  · go_wp2_with fail
    go_ret
    exact ⟨rfl, HF3.out.alloc _⟩
  · rw [Bool.and_eq_true] at h1
    obtain ⟨h1, h2⟩ := h1
    have h0 : (er2 == 0) = false := by
      have : er2 = 5 := by simpa using h1
      rw [this]
      rfl
    go_wp2_with fail
    go_ret
    exact ⟨rfl, HF3.out.alloc _⟩
end Px
end Go.Proofs.YtpmgecnkcllneaaDoor
