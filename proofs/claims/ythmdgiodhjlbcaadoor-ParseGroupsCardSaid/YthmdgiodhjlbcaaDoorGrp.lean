/- parse: the law ParseGroups. -/
import Derived.Test.YthmdgiodhjlbcaaDoorPaF
import Derived.Test.YthmdgiodhjlbcaaDoorGrpM
import Derived.BigRegion
import Derived.Deep.RegionHeld3
import Derived.Deep.CutRange
namespace Go.Proofs.YthmdgiodhjlbcaaDoor
open Go.RowKit
namespace Px
open PM (PS B Ex)
def opB (p : Nat) : B := match p with | 0 => [111, 114] | 1 => [97, 110, 100] | 2 => [61] | 3 => [43] | 4 => [45] | _ => [42]
theorem opB_get {p : Nat} (hp : p < 6) : ([.string ⟨#[111, 114]⟩, .string ⟨#[97, 110, 100]⟩, .string ⟨#[61]⟩, .string ⟨#[43]⟩, .string ⟨#[45]⟩, .string ⟨#[42]⟩] : List Value)[p]? = some (.string ⟨(opB p).toArray⟩) := by
  rcases (by omega : p = 0 ∨ p = 1 ∨ p = 2 ∨ p = 3 ∨ p = 4 ∨ p = 5) with rfl | rfl | rfl | rfl | rfl | rfl <;> rfl
theorem rank_get {p : Nat} (hp : p < 6) : ([.int .i64 0, .int .i64 1, .int .i64 2, .int .i64 3, .int .i64 3, .int .i64 4] : List Value)[p]? = some (.int .i64 (Gp.rank p)) := by
  rcases (by omega : p = 0 ∨ p = 1 ∨ p = 2 ∨ p = 3 ∨ p = 4 ∨ p = 5) with rfl | rfl | rfl | rfl | rfl | rfl <;> rfl
theorem opB_len (p : Nat) : (opB p).length ≤ 3 := by unfold opB; split <;> decide
theorem opB_eq : ∀ p : Nat, opB p = (CM.opPc (Gp.opN p)).bytes
  | 0 => rfl | 1 => rfl | 2 => rfl | 3 => rfl | 4 => rfl | _ + 5 => rfl
def sFlat (p q : Nat) (x y z : B) : B := x ++ [32] ++ opB p ++ [32] ++ y ++ [32] ++ opB q ++ [32] ++ z
def sLeft (p q : Nat) (x y z : B) : B := [40] ++ x ++ [32] ++ opB p ++ [32] ++ y ++ [41, 32] ++ opB q ++ [32] ++ z
def sRight (p q : Nat) (x y z : B) : B := x ++ [32] ++ opB p ++ [32, 40] ++ y ++ [32] ++ opB q ++ [32] ++ z ++ [41]
theorem flat_line (p q : Nat) (x y z : B) : Pc.render (Gp.flat p q x y z) = preW ++ sFlat p q x y z := by
  simp [Gp.flat, Gp.head, Pc.render, Pc.blanks, Pc.Pc.bytes, sFlat, preW, opB_eq]
theorem left_line (p q : Nat) (x y z : B) : Pc.render (Gp.left p q x y z) = preW ++ sLeft p q x y z := by
  simp [Gp.left, Gp.head, Pc.render, Pc.blanks, Pc.Pc.bytes, sLeft, preW, opB_eq]
theorem right_line (p q : Nat) (x y z : B) : Pc.render (Gp.right p q x y z) = preW ++ sRight p q x y z := by
  simp [Gp.right, Gp.head, Pc.render, Pc.blanks, Pc.Pc.bytes, sRight, preW, opB_eq]
theorem parse_of_line {L : Pc.Line} {S : B} {r : (Int × Int) ⊕ PM.St} (hf : Pc.fits L = true) (hr : Pc.render L = S) (hl : S.length ≤ 400) (h : ∀ n, CM.parseL (Gp.tk L n) = r) : PM.parse S = r := by
  have e := Pc.lex_line L 0 hf (by rw [hr]; simp [Pc.blanks]; omega)
  rw [hr] at e
  simp only [Pc.blanks, List.replicate_zero, List.append_nil] at e
  rw [CM.parse_eq, CM.parse, e]
  exact h _
theorem flat_fits (p q : Nat) {x y z : B} (hx : Pc.okName x = true) (hy : Pc.okName y = true) (hz : Pc.okName z = true) : Pc.fits (Gp.flat p q x y z) = true := by
  rw [CM.fits_nil]
  exact CM.fit_soft (by decide) rfl (CM.fit_soft (by decide) rfl (CM.fit_soft (by decide) rfl (CM.fit_soft (by decide) rfl (CM.fit_soft hx rfl (CM.fit_soft (CM.op_ok _) rfl (CM.fit_soft hy rfl (CM.fit_soft (CM.op_ok _) rfl (CM.fit_soft hz rfl rfl))))))))
theorem left_fits (p q : Nat) {x y z : B} (hx : Pc.okName x = true) (hy : Pc.okName y = true) (hz : Pc.okName z = true) : Pc.fits (Gp.left p q x y z) = true := by
  rw [CM.fits_nil]
  exact CM.fit_soft (by decide) rfl (CM.fit_soft (by decide) rfl (CM.fit_soft (by decide) rfl (CM.fit_soft (by decide) rfl (CM.fit_hard rfl CM.hard_open (CM.fit_soft hx rfl (CM.fit_soft (CM.op_ok _) rfl (CM.fit_soft hy rfl (CM.fit_soft rfl rfl (CM.fit_soft (CM.op_ok _) rfl (CM.fit_soft hz rfl rfl))))))))))
theorem right_fits (p q : Nat) {x y z : B} (hx : Pc.okName x = true) (hy : Pc.okName y = true) (hz : Pc.okName z = true) : Pc.fits (Gp.right p q x y z) = true := by
  rw [CM.fits_nil]
  exact CM.fit_soft (by decide) rfl (CM.fit_soft (by decide) rfl (CM.fit_soft (by decide) rfl (CM.fit_soft (by decide) rfl (CM.fit_soft hx rfl (CM.fit_soft (CM.op_ok _) rfl (CM.fit_hard rfl CM.hard_open (CM.fit_soft hy rfl (CM.fit_soft (CM.op_ok _) rfl (CM.fit_soft hz rfl (CM.fit_close rfl))))))))))
theorem conv_nm (c : UInt8) (d : Nat) (hd : d < 10) (b : Nat) (w : World) (h0 : w.cell? ⟨b, 0, none⟩ = some (.int .u8 c.toNat)) (h1 : w.cell? ⟨b, 1, none⟩ = some (.int .u8 (48 + (d : Int)))) :
    (convert 25 9 (.slice (some ⟨b, 0, none⟩) 2 2)).run Tryd.prog w = .ok (.string ⟨(Gp.nm c d).toArray⟩) w := by
  have h := run_convert_bytes_arg w 25 5 Tryd.underlying25 Tryd.underlying5 b 0 2 2 [(c.toNat : Int), 48 + (d : Int)] rfl (fun i hi => by
    have hi : i < 2 := hi
    have : i = 0 ∨ i = 1 := by omega
    rcases this with rfl | rfl
    · exact h0
    · exact h1) 9 Tryd.underlying9
  rw [h]
  have e1 : UInt8.ofNat (c.toNat : Int).toNat = c := by rw [Int.toNat_natCast]; exact UInt8.ofNat_toNat
  have e2 : (48 + (d : Int)).toNat = 48 + d := by omega
  show Result.ok (Value.string ⟨([UInt8.ofNat (c.toNat : Int).toNat, UInt8.ofNat (48 + (d : Int)).toNat] : List UInt8).toArray⟩) w = _
  rw [e1, e2]
  rfl
set_option maxRecDepth 100000 in
set_option maxHeartbeats 8000000 in
theorem groups_law (a b c i k : Int) (ha : 0 ≤ a ∧ a ≤ 255) (hb : 0 ≤ b ∧ b ≤ 255) (hc : 0 ≤ c ∧ c ≤ 255) (hi : 0 ≤ i ∧ i ≤ 255) (hk : 0 ≤ k ∧ k ≤ 255) (w : World) (m : Int) (hm : w.cell? ⟨1, 0, none⟩ = some (.int .i64 m)) (h00 : 1 < w.heap.size) :
    Calls Tryd.prog 3 #[.int .u8 a, .int .u8 b, .int .u8 c, .int .u8 i, .int .u8 k] w fun e w' => e = .returned (.bool true) ∧ Fr [] w w' := by
  have HB := Lib.hid (begun_any w m hm h00)
  have HM := Lib.hid hm
  clear hm
  obtain ⟨a0, a1⟩ := ha
  obtain ⟨b0, b1⟩ := hb
  obtain ⟨c0, c1⟩ := hc
  obtain ⟨i0, i1⟩ := hi
  obtain ⟨k0, k1⟩ := hk
  go_enter Tryd.func3, Tryd.ntmps3
  go_wp2_with fail
  refine HB.out.mono ?_
  rintro e w1 ⟨rfl, hf1⟩
  have HF1 := Lib.hid hf1
  clear hf1 HB
  obtain ⟨A, hA⟩ : ∃ A : Nat, a % 10 = A := ⟨(a % 10).toNat, by omega⟩
  obtain ⟨B, hB⟩ : ∃ B : Nat, b % 10 = B := ⟨(b % 10).toNat, by omega⟩
  obtain ⟨C, hC⟩ : ∃ C : Nat, c % 10 = C := ⟨(c % 10).toNat, by omega⟩
  have hA1 : A < 10 := by omega
  have hB1 : B < 10 := by omega
  have hC1 : C < 10 := by omega
  have hcA := conv_nm 97 A hA1
  have hcB := conv_nm 98 B hB1
  have hcC := conv_nm 99 C hC1
  simp only [show (((97 : UInt8).toNat : Int)) = 97 from rfl, show (((98 : UInt8).toNat : Int)) = 98 from rfl, show (((99 : UInt8).toNat : Int)) = 99 from rfl] at hcA hcB hcC
  obtain ⟨x, hx⟩ : ∃ x, Gp.nm 97 A = x := ⟨_, rfl⟩
  obtain ⟨y, hy⟩ : ∃ y, Gp.nm 98 B = y := ⟨_, rfl⟩
  obtain ⟨z, hz⟩ : ∃ z, Gp.nm 99 C = z := ⟨_, rfl⟩
  rw [hx] at hcA
  rw [hy] at hcB
  rw [hz] at hcC
  have HX := Lib.hid hx
  have HY := Lib.hid hy
  have HZ := Lib.hid hz
  clear hx hy hz
  go_wp2_with fail
  obtain ⟨ws, hws⟩ : ∃ ws, (w1.alloc (.cells #[.string ⟨#[111, 114]⟩, .string ⟨#[97, 110, 100]⟩, .string ⟨#[61]⟩, .string ⟨#[43]⟩, .string ⟨#[45]⟩, .string ⟨#[42]⟩] 9)) = ws := ⟨_, rfl⟩
  obtain ⟨p, hp⟩ : ∃ p : Nat, i % 6 = p := ⟨(i % 6).toNat, by omega⟩
  obtain ⟨q, hq⟩ : ∃ q : Nat, k % 6 = q := ⟨(k % 6).toNat, by omega⟩
  have hp1 : p < 6 := by omega
  have hq1 : q < 6 := by omega
  go_cut [13, 14, 15] from 27 to 41 (fun s13 s14 s15 wx => s13 = .string ⟨x.toArray⟩ ∧ s14 = .string ⟨y.toArray⟩ ∧ s15 = .string ⟨z.toArray⟩ ∧ Hid (Fr [] (ws.alloc (.cells #[.int .i64 0, .int .i64 1, .int .i64 2, .int .i64 3, .int .i64 3, .int .i64 4] 3)) wx))
  case first =>
    go_region
    all_goals
      go_wp2_with fail
      go_meet
      exact ⟨rfl, rfl, rfl, Lib.hid (((((Fr.refl [] _).alloc _).alloc _).alloc _).drew)⟩
  case rest =>
    obtain ⟨rfl, rfl, rfl, HFC⟩ := hcut
    clear hcA hcB hcC
    have hpi : (p : Int) < 6 := by omega
    have hqi : (q : Int) < 6 := by omega
    have hcs : Hid (∀ j v, ([.string ⟨#[111, 114]⟩, .string ⟨#[97, 110, 100]⟩, .string ⟨#[61]⟩, .string ⟨#[43]⟩, .string ⟨#[45]⟩, .string ⟨#[42]⟩] : List Value)[j]? = some v → wc.cell? ⟨w1.heap.size, j, none⟩ = some v) := Lib.hid fun j v hv => by
      have h1 := (Blk.alloc (Blk.new w1 9 [.string ⟨#[111, 114]⟩, .string ⟨#[97, 110, 100]⟩, .string ⟨#[61]⟩, .string ⟨#[43]⟩, .string ⟨#[45]⟩, .string ⟨#[42]⟩]) (.cells #[.int .i64 0, .int .i64 1, .int .i64 2, .int .i64 3, .int .i64 3, .int .i64 4] 3))
      subst hws
      rw [(h1.keep HFC.out (by simp)).cell j, hv]
    have hcr : Hid (∀ j v, ([.int .i64 0, .int .i64 1, .int .i64 2, .int .i64 3, .int .i64 3, .int .i64 4] : List Value)[j]? = some v → wc.cell? ⟨w1.heap.size + 1, j, none⟩ = some v) := Lib.hid fun j v hv => by
      subst hws
      have h1 := Blk.new (w1.alloc (.cells #[.string ⟨#[111, 114]⟩, .string ⟨#[97, 110, 100]⟩, .string ⟨#[61]⟩, .string ⟨#[43]⟩, .string ⟨#[45]⟩, .string ⟨#[42]⟩] 9)) 3 [.int .i64 0, .int .i64 1, .int .i64 2, .int .i64 3, .int .i64 3, .int .i64 4]
      rw [World.size_alloc] at h1
      rw [(h1.keep HFC.out (by simp)).cell j, hv]
    have hop := hcs.out p _ (opB_get hp1)
    have hoq := hcs.out q _ (opB_get hq1)
    have hrp := hcr.out p _ (rank_get hp1)
    have hrq := hcr.out q _ (rank_get hq1)
    have HFW : Hid (Fr [] w wc) := Lib.hid (by
      subst hws
      exact ((HF1.out.alloc _).alloc _).trans HFC.out)
    have hlx : x.length = 2 := by rw [← HX.out]; rfl
    have hly : y.length = 2 := by rw [← HY.out]; rfl
    have hlz : z.length = 2 := by rw [← HZ.out]; rfl
    have hlp := opB_len p
    have hlq := opB_len q
    obtain ⟨op, hop'⟩ : ∃ op, opB p = op := ⟨_, rfl⟩
    obtain ⟨oq, hoq'⟩ : ∃ oq, opB q = oq := ⟨_, rfl⟩
    rw [hop'] at hop hlp
    rw [hoq'] at hoq hlq
    have HOP := Lib.hid hop'
    have HOQ := Lib.hid hoq'
    have hbs : w1.heap.size < wc.heap.size := World.block_lt_of_cell? wc _ hop
    have hbr : w1.heap.size + 1 < wc.heap.size := World.block_lt_of_cell? wc _ hrp
    have okx : Pc.okName x = true := by rw [← HX.out]; exact (Gp.nm_ok hA1).1
    have oky : Pc.okName y = true := by rw [← HY.out]; exact (Gp.nm_ok hB1).2.1
    have okz : Pc.okName z = true := by rw [← HZ.out]; exact (Gp.nm_ok hC1).2.2
    have HOK := Lib.hid (And.intro okx (And.intro oky okz))
    obtain ⟨bx, hbx⟩ : ∃ bx : ByteArray, ⟨x.toArray⟩ = bx := ⟨_, rfl⟩
    obtain ⟨bY, hby⟩ : ∃ bY : ByteArray, ⟨y.toArray⟩ = bY := ⟨_, rfl⟩
    obtain ⟨bz, hbz⟩ : ∃ bz : ByteArray, ⟨z.toArray⟩ = bz := ⟨_, rfl⟩
    obtain ⟨bp, hbp⟩ : ∃ bp : ByteArray, ⟨op.toArray⟩ = bp := ⟨_, rfl⟩
    obtain ⟨bq, hbq⟩ : ∃ bq : ByteArray, ⟨oq.toArray⟩ = bq := ⟨_, rfl⟩
    have hsx : (bx.size : Int) ≤ 4 := by rw [← hbx]; show ((x.toArray.size : Nat) : Int) ≤ 4; simp; omega
    have hsy : (bY.size : Int) ≤ 4 := by rw [← hby]; show ((y.toArray.size : Nat) : Int) ≤ 4; simp; omega
    have hsz : (bz.size : Int) ≤ 4 := by rw [← hbz]; show ((z.toArray.size : Nat) : Int) ≤ 4; simp; omega
    have hsp : (bp.size : Int) ≤ 4 := by rw [← hbp]; show ((op.toArray.size : Nat) : Int) ≤ 4; simp; omega
    have hsq : (bq.size : Int) ≤ 4 := by rw [← hbq]; show ((oq.toArray.size : Nat) : Int) ≤ 4; simp; omega
    have HS1 : Hid (bx ++ ⟨#[32]⟩ ++ bp ++ ⟨#[32]⟩ ++ bY ++ ⟨#[32]⟩ ++ bq ++ ⟨#[32]⟩ ++ bz = (⟨(sFlat p q x y z).toArray⟩ : ByteArray)) := Lib.hid (by
      rw [← hbx, ← hby, ← hbz, ← hbp, ← hbq]
      simp only [catw, sFlat, HOP.out, HOQ.out])
    rw [hbx, hby, hbz]
    rw [hbp] at hop
    rw [hbq] at hoq
    have hsR : Hid ((opB p).length = op.length ∧ (opB q).length = oq.length ∧ op.length ≤ 3 ∧ oq.length ≤ 3 ∧ x.length = 2 ∧ y.length = 2 ∧ z.length = 2) := Lib.hid ⟨congrArg List.length hop', congrArg List.length hoq', hlp, hlq, hlx, hly, hlz⟩
    have HBB := Lib.hid (And.intro hbx (And.intro hby (And.intro hbz (And.intro hbp hbq))))
    clear hcs hcr hA hB hC hA1 hB1 hC1 hop' hoq' okx oky okz hbx hby hbz hbp hbq hlx hly hlz hlp hlq
    have hcell : Hid (∀ W, Fr [] w W → W.cell? ⟨1, 0, none⟩ = some (.int .i64 m)) := Lib.hid fun W hf => (hf.cell (p := ⟨1, 0, none⟩) h00 (by simp)).trans HM.out
    have HP := Lib.hid hp1
    have HQ := Lib.hid hq1
    have hlen1 : Hid ((sFlat p q x y z).length ≤ 1000) := Lib.hid (by
      have e := congrArg ByteArray.size HS1.out
      simp only [ByteArray.size_append] at e
      have e2 : (ByteArray.mk (sFlat p q x y z).toArray).size = (sFlat p q x y z).length := by simp [ByteArray.size]
      have e3 : (⟨#[32]⟩ : ByteArray).size = 1 := rfl
      omega)
    have hl400 : Hid (∀ T : PM.B, T.length ≤ 30 → (preW ++ T).length ≤ 400) := Lib.hid fun T hT => by
      rw [List.length_append]
      have : preW.length = 20 := rfl
      omega
    have hlenF : Hid ((sFlat p q x y z).length ≤ 30) := Lib.hid (by
      have e := congrArg ByteArray.size HS1.out
      simp only [ByteArray.size_append] at e
      have e2 : (ByteArray.mk (sFlat p q x y z).toArray).size = (sFlat p q x y z).length := by simp [ByteArray.size]
      have e3 : (⟨#[32]⟩ : ByteArray).size = 1 := rfl
      omega)
    have hPF : Hid (∀ r, (∀ n, CM.parseL (Gp.tk (Gp.flat p q x y z) n) = r) → PM.parse (preW ++ sFlat p q x y z) = r) := Lib.hid fun r hr =>
      parse_of_line (flat_fits p q HOK.out.1 HOK.out.2.1 HOK.out.2.2) (flat_line p q x y z) (hl400.out _ hlenF.out) hr
    have HCS : Hid (∀ W, Fr [] wc W → W.cell? ⟨w1.heap.size, p, none⟩ = some (.string bp) ∧ W.cell? ⟨w1.heap.size, q, none⟩ = some (.string bq)) := Lib.hid (fun W hW => ⟨(hW.cell (p := ⟨w1.heap.size, p, none⟩) hbs (by simp)).trans hop, (hW.cell (p := ⟨w1.heap.size, q, none⟩) hbs (by simp)).trans hoq⟩)
    have HCR : Hid (∀ W, Fr [] wc W → W.cell? ⟨w1.heap.size + 1, p, none⟩ = some (.int .i64 (Gp.rank p)) ∧ W.cell? ⟨w1.heap.size + 1, q, none⟩ = some (.int .i64 (Gp.rank q))) := Lib.hid (fun W hW => ⟨(hW.cell (p := ⟨w1.heap.size + 1, p, none⟩) hbr (by simp)).trans hrp, (hW.cell (p := ⟨w1.heap.size + 1, q, none⟩) hbr (by simp)).trans hrq⟩)
    have sf0 : ¬ 9223372036854775807 < bx.size + 1 := by omega
    have sf1 : ¬ 9223372036854775807 < bx.size + 1 + bp.size := by omega
    have sf2 : ¬ 9223372036854775807 < bx.size + 1 + bp.size + 1 := by omega
    have sf3 : ¬ 9223372036854775807 < bx.size + 1 + bp.size + 1 + bY.size := by omega
    have sf4 : ¬ 9223372036854775807 < bx.size + 1 + bp.size + 1 + bY.size + 1 := by omega
    have sf5 : ¬ 9223372036854775807 < bx.size + 1 + bp.size + 1 + bY.size + 1 + bq.size := by omega
    have sf6 : ¬ 9223372036854775807 < bx.size + 1 + bp.size + 1 + bY.size + 1 + bq.size + 1 := by omega
    have sf7 : ¬ 9223372036854775807 < bx.size + 1 + bp.size + 1 + bY.size + 1 + bq.size + 1 + bz.size := by omega
    have HFa : Hid (Fr [] wc wc) := Lib.hid (Fr.refl [] wc)
    clear hop hoq hrp hrq
    by_cases hpq : p = 2 ∧ q = 2
    · have hparse : ∃ a, PM.parse (preW ++ sFlat p q x y z) = .inl (a, 5) := by
        obtain ⟨rfl, rfl⟩ := hpq
        refine ⟨(((Gp.tk (Gp.flat 2 2 x y z) 0).getD 7 PM.zeroTok).pos : Int), hPF.out _ fun n => ?_⟩
        exact Gp.none_at x y z n
      obtain ⟨at1, hparse⟩ := hparse
      have HPR := Lib.hid hparse
      have HWH : Hid (∀ W, Fr [] wc W → Calls Tryd.prog 10 #[.string (bx ++ ⟨#[32]⟩ ++ bp ++ ⟨#[32]⟩ ++ bY ++ ⟨#[32]⟩ ++ bq ++ ⟨#[32]⟩ ++ bz)] W fun e w' => e = .returned (.tuple #[.agg #[.int .i64 0, .int .i64 0, .int .i64 0, .string ⟨#[]⟩, .string ⟨#[]⟩, .string ⟨#[]⟩, .slice none 0 0], .bool false]) ∧ Fr [] W w') := Lib.hid (fun W hW => by
        rw [HS1.out]
        exact where_no (sFlat p q x y z) W m (hcell.out W (HFW.out.trans hW)) (Nat.lt_of_lt_of_le h00 (HFW.out.trans hW).size) hlen1.out (by decide) HPR.out)
      have HPQ := Lib.hid hpq
      clear hparse hpq
      go_wp2_with fail
      rw [hp, hq]
      go_cut [18, 19] from 49 to 70 (fun s18 s19 wx => s19 = .bool false ∧ Hid (Fr [] wc wx))
      case first =>
        go_region_held3 (fun W => W.cell? ⟨w1.heap.size, p, none⟩ = some (.string bp) ∧ W.cell? ⟨w1.heap.size, q, none⟩ = some (.string bq))
          ((refine HCS.out _ ?_; repeat (first | with_reducible exact HFa.out | with_reducible refine Fr.drew ?_ | with_reducible refine Fr.alloc ?_ _ | with_reducible refine Fr.setCell ?_ (.inr (Nat.le_refl _)) _)))
          (first
            | (go_at_call 10
               with_reducible refine Calls.mono (HWH.out _ ?hf0) ?_
               case hf0 => with_reducible exact HFa.out.drew
               rintro e wz ⟨rfl, hf⟩
               replace HFa : Hid (Fr [] wc wz) := Lib.hid (HFa.out.drew.trans hf)
               clear hf)
            | (go_at_call 10
               with_reducible refine Calls.mono (HWH.out _ ?hf0) ?_
               case hf0 => with_reducible exact HFa.out
               rintro e wz ⟨rfl, hf⟩
               replace HFa : Hid (Fr [] wc wz) := Lib.hid (HFa.out.trans hf)
               clear hf)
            | (go_at_call 10
               with_reducible refine Calls.mono (HWH.out _ ?hf0) ?_
               case hf0 => with_reducible exact (HFa.out.alloc _).drew
               rintro e wz ⟨rfl, hf⟩
               replace HFa : Hid (Fr [] wc wz) := Lib.hid ((HFa.out.alloc _).drew.trans hf)
               have HBK := Lib.hid (Blk.keep (Blk.drew (Blk.new wc 30 z7)) hf (by simp))
               obtain ⟨y0, y1, y2, y3, y4, y5, y6, f0, f1, f2, f3, f4, f5, f6⟩ := c7_of HBK.out
               clear hf)
            | (go_at_call 10
               with_reducible refine Calls.mono (HWH.out _ ?hf0) ?_
               case hf0 => with_reducible exact HFa.out.drew.alloc _
               rintro e wz ⟨rfl, hf⟩
               replace HFa : Hid (Fr [] wc wz) := Lib.hid ((HFa.out.drew.alloc _).trans hf)
               have HBK := Lib.hid (Blk.keep (Blk.new wc.drew 30 z7) hf (by simp))
               obtain ⟨y0, y1, y2, y3, y4, y5, y6, f0, f1, f2, f3, f4, f5, f6⟩ := c7_of HBK.out
               clear hf)
            | (go_at_call 10
               with_reducible refine Calls.mono (HWH.out _ ?hf0) ?_
               case hf0 => with_reducible exact HFa.out.alloc _
               rintro e wz ⟨rfl, hf⟩
               replace HFa : Hid (Fr [] wc wz) := Lib.hid ((HFa.out.alloc _).trans hf)
               have HBK := Lib.hid (Blk.keep (Blk.new wc 30 z7) hf (by simp))
               obtain ⟨y0, y1, y2, y3, y4, y5, y6, f0, f1, f2, f3, f4, f5, f6⟩ := c7_of HBK.out
               clear hf))
        all_goals
          go_wp2_with fail
          go_meet
          exact ⟨rfl, Lib.hid (by repeat (first | with_reducible exact HFa.out | with_reducible refine Fr.drew ?_ | with_reducible refine Fr.alloc ?_ _ | with_reducible refine Fr.setCell ?_ (.inr (Nat.le_refl _)) _))⟩
      case rest =>
        obtain ⟨rfl, HFX⟩ := hcut
        have hp2 : ((p : Int) == 2) = true := by rw [HPQ.out.1]; rfl
        have hq2 : ((q : Int) == 2) = true := by rw [HPQ.out.2]; rfl
        go_wp2_with fail
        go_ret
        exact ⟨rfl, HFW.out.trans HFX.out⟩
    · obtain ⟨E, S2, HP1, HP2, HS2, hS2l⟩ : ∃ (E : Ex) (S2 : PM.B), Hid (PM.parse (preW ++ sFlat p q x y z) = .inr (Gp.del E)) ∧ Hid (PM.parse (preW ++ S2) = .inr (Gp.del E)) ∧ Hid (S2 = if Gp.rank p < Gp.rank q then sRight p q x y z else sLeft p q x y z) ∧ S2.length ≤ 30 := by
        have okR : (sRight p q x y z).length ≤ 30 := by
          have e := hlenF.out
          simp only [sFlat, sRight, List.length_append, List.length_cons, List.length_nil] at e ⊢
          have := hsR.out
          omega
        have okL : (sLeft p q x y z).length ≤ 30 := by
          have e := hlenF.out
          simp only [sFlat, sLeft, List.length_append, List.length_cons, List.length_nil] at e ⊢
          have := hsR.out
          omega
        by_cases hr : Gp.rank p < Gp.rank q
        · have hg := Gp.right_ok HP.out HQ.out hr x y z
          refine ⟨Gp.exR p q x y z, sRight p q x y z, Lib.hid (hPF.out _ fun n => (hg n).1), Lib.hid ?_, Lib.hid (by rw [if_pos hr]), okR⟩
          exact parse_of_line (right_fits p q HOK.out.1 HOK.out.2.1 HOK.out.2.2) (right_line p q x y z) (hl400.out _ okR) fun n => (hg n).2
        · have hg := Gp.left_ok HP.out HQ.out (by omega) hpq x y z
          refine ⟨Gp.exL p q x y z, sLeft p q x y z, Lib.hid (hPF.out _ fun n => (hg n).1), Lib.hid ?_, Lib.hid (by rw [if_neg hr]), okL⟩
          exact parse_of_line (left_fits p q HOK.out.1 HOK.out.2.1 HOK.out.2.2) (left_line p q x y z) (hl400.out _ okL) fun n => (hg n).2
      have HPQ := Lib.hid hpq
      have HWH : Hid (∀ W, Fr [] wc W → Calls Tryd.prog 10 #[.string (bx ++ ⟨#[32]⟩ ++ bp ++ ⟨#[32]⟩ ++ bY ++ ⟨#[32]⟩ ++ bq ++ ⟨#[32]⟩ ++ bz)] W fun e w' => WhY W w' e E) := Lib.hid (fun W hW => by
        rw [HS1.out]
        exact where_yes (sFlat p q x y z) W m (hcell.out W (HFW.out.trans hW)) (Nat.lt_of_lt_of_le h00 (HFW.out.trans hW).size) hlen1.out HP1.out)
      have HWH2 : Hid (∀ W, Fr [] wc W → Calls Tryd.prog 10 #[.string ⟨S2.toArray⟩] W fun e w' => WhY W w' e E) := Lib.hid (fun W hW => where_yes S2 W m (hcell.out W (HFW.out.trans hW)) (Nat.lt_of_lt_of_le h00 (HFW.out.trans hW).size) (by omega) HP2.out)
      have HSL : Hid (⟨#[40]⟩ ++ bx ++ ⟨#[32]⟩ ++ bp ++ ⟨#[32]⟩ ++ bY ++ ⟨#[41, 32]⟩ ++ bq ++ ⟨#[32]⟩ ++ bz = (⟨(sLeft p q x y z).toArray⟩ : ByteArray)) := Lib.hid (by
        rw [← HBB.out.1, ← HBB.out.2.1, ← HBB.out.2.2.1, ← HBB.out.2.2.2.1, ← HBB.out.2.2.2.2]
        simp only [catw, sLeft, HOP.out, HOQ.out])
      have HSR : Hid (bx ++ ⟨#[32]⟩ ++ bp ++ ⟨#[32, 40]⟩ ++ bY ++ ⟨#[32]⟩ ++ bq ++ ⟨#[32]⟩ ++ bz ++ ⟨#[41]⟩ = (⟨(sRight p q x y z).toArray⟩ : ByteArray)) := Lib.hid (by
        rw [← HBB.out.1, ← HBB.out.2.1, ← HBB.out.2.2.1, ← HBB.out.2.2.2.1, ← HBB.out.2.2.2.2]
        simp only [catw, sRight, HOP.out, HOQ.out])
      obtain ⟨wq, hwq⟩ : ∃ wq, wq = wc := ⟨_, rfl⟩
      subst hwq
      clear hpq
      go_wp2_with fail
      rw [hp, hq]
      go_cut [18, 19] from 49 to 70 (fun s18 s19 wx => ∃ (gb : Nat) (ro rk ri : Int) (rz rt rn : PM.B) (ra : Option Addr) (rm rc : Nat), s18 = .pointer (some ⟨gb, 0, none⟩) ∧ s19 = .bool true ∧ Hid (Blk wx gb 30 [.int .i64 ro, .int .i64 rk, .int .i64 ri, .string ⟨rz.toArray⟩, .string ⟨rt.toArray⟩, .string ⟨rn.toArray⟩, .slice ra rm rc]) ∧ Hid (Rep.E 30 (fun b => wq.heap.size ≤ b) wx E [.int .i64 ro, .int .i64 rk, .int .i64 ri, .string ⟨rz.toArray⟩, .string ⟨rt.toArray⟩, .string ⟨rn.toArray⟩, .slice ra rm rc]) ∧ Hid (Fr [] wq wx))
      case first =>
        go_region_held3 (fun W => W.cell? ⟨w1.heap.size, p, none⟩ = some (.string bp) ∧ W.cell? ⟨w1.heap.size, q, none⟩ = some (.string bq))
          ((refine HCS.out _ ?_; repeat (first | with_reducible exact HFa.out | with_reducible refine Fr.drew ?_ | with_reducible refine Fr.alloc ?_ _ | with_reducible refine Fr.setCell ?_ (.inr (Nat.le_refl _)) _)))
          (first
            | (go_at_call 10
               with_reducible refine Calls.mono (HWH.out _ ?hf0) ?_
               case hf0 => with_reducible exact HFa.out.drew
               rintro e wz ⟨cs, rfl, hrep, hf⟩
               obtain ⟨ro, rk, ri, rz, rt, rn, rg, ra, rm, rc, _, rfl, _⟩ := Sm.e_cells hrep
               have HRW := Lib.hid hrep
               replace HFa : Hid (Fr [] wq wz) := Lib.hid (HFa.out.drew.trans hf)
               clear hf hrep)
            | (go_at_call 10
               with_reducible refine Calls.mono (HWH.out _ ?hf0) ?_
               case hf0 => with_reducible exact HFa.out
               rintro e wz ⟨cs, rfl, hrep, hf⟩
               obtain ⟨ro, rk, ri, rz, rt, rn, rg, ra, rm, rc, _, rfl, _⟩ := Sm.e_cells hrep
               have HRW := Lib.hid hrep
               replace HFa : Hid (Fr [] wq wz) := Lib.hid (HFa.out.trans hf)
               clear hf hrep)
            | (go_at_call 10
               with_reducible refine Calls.mono (HWH.out _ ?hf0) ?_
               case hf0 => with_reducible exact (HFa.out.alloc _).drew
               rintro e wz ⟨cs, rfl, hrep, hf⟩
               obtain ⟨ro, rk, ri, rz, rt, rn, rg, ra, rm, rc, _, rfl, _⟩ := Sm.e_cells hrep
               have HRW := Lib.hid hrep
               replace HFa : Hid (Fr [] wq wz) := Lib.hid ((HFa.out.alloc _).drew.trans hf)
               have HBK := Lib.hid (Blk.keep (Blk.drew (Blk.new wq 30 z7)) hf (by simp))
               obtain ⟨y0, y1, y2, y3, y4, y5, y6, f0, f1, f2, f3, f4, f5, f6⟩ := c7_of HBK.out
               clear hf hrep)
            | (go_at_call 10
               with_reducible refine Calls.mono (HWH.out _ ?hf0) ?_
               case hf0 => with_reducible exact HFa.out.drew.alloc _
               rintro e wz ⟨cs, rfl, hrep, hf⟩
               obtain ⟨ro, rk, ri, rz, rt, rn, rg, ra, rm, rc, _, rfl, _⟩ := Sm.e_cells hrep
               have HRW := Lib.hid hrep
               replace HFa : Hid (Fr [] wq wz) := Lib.hid ((HFa.out.drew.alloc _).trans hf)
               have HBK := Lib.hid (Blk.keep (Blk.new wq.drew 30 z7) hf (by simp))
               obtain ⟨y0, y1, y2, y3, y4, y5, y6, f0, f1, f2, f3, f4, f5, f6⟩ := c7_of HBK.out
               clear hf hrep)
            | (go_at_call 10
               with_reducible refine Calls.mono (HWH.out _ ?hf0) ?_
               case hf0 => with_reducible exact HFa.out.alloc _
               rintro e wz ⟨cs, rfl, hrep, hf⟩
               obtain ⟨ro, rk, ri, rz, rt, rn, rg, ra, rm, rc, _, rfl, _⟩ := Sm.e_cells hrep
               have HRW := Lib.hid hrep
               replace HFa : Hid (Fr [] wq wz) := Lib.hid ((HFa.out.alloc _).trans hf)
               have HBK := Lib.hid (Blk.keep (Blk.new wq 30 z7) hf (by simp))
               obtain ⟨y0, y1, y2, y3, y4, y5, y6, f0, f1, f2, f3, f4, f5, f6⟩ := c7_of HBK.out
               clear hf hrep))
        all_goals
          go_wp2_with fail
          go_meet
          first
          | (have hbk := HBK.out
             refine ⟨_, _, _, _, _, _, _, _, _, _, rfl, rfl, Lib.hid (blkPut7 hbk rfl _ _ _ _ _ _ _), Lib.hid (Rep.E.mono (fun b hb => ?_) (Rep.E.keep (frPut7 (Fr.refl [some wq.heap.size] wz) (.inl (by simp)) _ _ _ _ _ _ _) (fun b hb => ?_) HRW.out)), Lib.hid (frPut7 HFa.out (.inr (Nat.le_refl _)) _ _ _ _ _ _ _)⟩
             · simp at hb; omega
             · simp at hb ⊢; omega)
          | exact ⟨_, _, _, _, _, _, _, _, _, _, rfl, rfl, Lib.hid (Blk.new wz 30 [.int .i64 ro, .int .i64 rk, .int .i64 ri, .string ⟨rz.toArray⟩, .string ⟨rt.toArray⟩, .string ⟨rn.toArray⟩, .slice ra rm rc]), Lib.hid (Rep.E.mono (fun b hb => hb) (Rep.E.keep ((Fr.refl [] wz).alloc _) (by simp) HRW.out)), Lib.hid (HFa.out.alloc _)⟩
      case rest =>
        obtain ⟨gb, ro, rk, ri, rz, rt, rn, ra, rm, rc, rfl, rfl, HGB, HRG, HFX⟩ := hcut
        obtain ⟨wr, hwr⟩ : ∃ wr, wr = wc := ⟨_, rfl⟩
        subst hwr
        clear HWH HFa
        have HN2 : Hid ((((p : Int) == 2) = true ∧ ((q : Int) == 2) = false) ∨ ((p : Int) == 2) = false) := Lib.hid (by
          have h1 := HPQ.out
          by_cases h3 : (p : Int) = 2
          · left
            exact ⟨by simpa using h3, beq_eq_false_iff_ne.2 (fun h4 => h1 ⟨by omega, by omega⟩)⟩
          · right
            exact beq_eq_false_iff_ne.2 h3)
        rcases HN2.out with ⟨hb1, hb2⟩ | hb1
        · obtain rfl : p = 2 := by simp at hb1; omega
          clear HN2
          go_wp2_with fail
          go_cut [20] from 79 to 98 (fun s20 wx => s20 = .string ⟨(sLeft 2 q x y z).toArray⟩ ∧ Hid (Fr [] wq wx) ∧ Hid (Fr [] wr wx))
          case first =>
            have ss0 : ¬ 9223372036854775807 < 1 + bx.size := by omega
            have ss1 : ¬ 9223372036854775807 < 1 + bx.size + 1 := by omega
            have ss2 : ¬ 9223372036854775807 < 1 + bx.size + 1 + bp.size := by omega
            have ss3 : ¬ 9223372036854775807 < 1 + bx.size + 1 + bp.size + 1 := by omega
            have ss4 : ¬ 9223372036854775807 < 1 + bx.size + 1 + bp.size + 1 + bY.size := by omega
            have ss5 : ¬ 9223372036854775807 < 1 + bx.size + 1 + bp.size + 1 + bY.size + 2 := by omega
            have ss6 : ¬ 9223372036854775807 < 1 + bx.size + 1 + bp.size + 1 + bY.size + 2 + bq.size := by omega
            have ss7 : ¬ 9223372036854775807 < 1 + bx.size + 1 + bp.size + 1 + bY.size + 2 + bq.size + 1 := by omega
            have ss8 : ¬ 9223372036854775807 < 1 + bx.size + 1 + bp.size + 1 + bY.size + 2 + bq.size + 1 + bz.size := by omega
            have HFa := HFX
            have HFb : Hid (Fr [] wr wr) := Lib.hid (Fr.refl [] wr)
            go_region_held3 (fun W => W.cell? ⟨w1.heap.size, 2, none⟩ = some (.string bp) ∧ W.cell? ⟨w1.heap.size, q, none⟩ = some (.string bq))
              ((refine HCS.out _ ?_; repeat (first | with_reducible exact HFa.out | with_reducible refine Fr.drew ?_ | with_reducible refine Fr.alloc ?_ _)))
              (fail)
            all_goals
              go_wp2_with fail
              go_meet
              exact ⟨congrArg Value.string HSL.out, Lib.hid (by repeat (first | with_reducible exact HFa.out | with_reducible refine Fr.drew ?_ | with_reducible refine Fr.alloc ?_ _)), Lib.hid (by repeat (first | with_reducible exact HFb.out | with_reducible refine Fr.drew ?_))⟩
          case rest =>
            obtain ⟨rfl, HFY, HFZ⟩ := hcut
            obtain ⟨ws2, hws2⟩ : ∃ ws2, ws2 = wc := ⟨_, rfl⟩
            subst hws2
            have HFa := HFY
            by_cases hr : Gp.rank 2 < Gp.rank q
            · have hri : ((Gp.rank 2 : Nat) : Int) < ((Gp.rank q : Nat) : Int) := by omega
              go_wp2_with fail
              go_region_held3 (fun W => W.cell? ⟨w1.heap.size + 1, 2, none⟩ = some (.int .i64 (Gp.rank 2)) ∧ W.cell? ⟨w1.heap.size + 1, q, none⟩ = some (.int .i64 (Gp.rank q)))
                ((refine HCR.out _ ?_; repeat (first | with_reducible exact HFa.out | with_reducible refine Fr.drew ?_ | with_reducible refine Fr.alloc ?_ _)))
                (fail)
              all_goals
                go_wp2_with fail
                go_cut [20] from 108 to 127 (fun s20 wx => s20 = .string ⟨(sRight 2 q x y z).toArray⟩ ∧ Hid (Fr [] wq wx) ∧ Hid (Fr [] ws2 wx))
                case first =>
                  have ss0 : ¬ 9223372036854775807 < bx.size + 1 := by omega
                  have ss1 : ¬ 9223372036854775807 < bx.size + 1 + bp.size := by omega
                  have ss2 : ¬ 9223372036854775807 < bx.size + 1 + bp.size + 2 := by omega
                  have ss3 : ¬ 9223372036854775807 < bx.size + 1 + bp.size + 2 + bY.size := by omega
                  have ss4 : ¬ 9223372036854775807 < bx.size + 1 + bp.size + 2 + bY.size + 1 := by omega
                  have ss5 : ¬ 9223372036854775807 < bx.size + 1 + bp.size + 2 + bY.size + 1 + bq.size := by omega
                  have ss6 : ¬ 9223372036854775807 < bx.size + 1 + bp.size + 2 + bY.size + 1 + bq.size + 1 := by omega
                  have ss7 : ¬ 9223372036854775807 < bx.size + 1 + bp.size + 2 + bY.size + 1 + bq.size + 1 + bz.size := by omega
                  have ss8 : ¬ 9223372036854775807 < bx.size + 1 + bp.size + 2 + bY.size + 1 + bq.size + 1 + bz.size + 1 := by omega
                  have HFb : Hid (Fr [] ws2 ws2) := Lib.hid (Fr.refl [] ws2)
                  go_region_held3 (fun W => W.cell? ⟨w1.heap.size, 2, none⟩ = some (.string bp) ∧ W.cell? ⟨w1.heap.size, q, none⟩ = some (.string bq))
                    ((refine HCS.out _ ?_; repeat (first | with_reducible exact HFa.out | with_reducible refine Fr.drew ?_ | with_reducible refine Fr.alloc ?_ _)))
                    (fail)
                  all_goals
                    go_wp2_with fail
                    go_meet
                    exact ⟨congrArg Value.string HSR.out, Lib.hid (by repeat (first | with_reducible exact HFa.out | with_reducible refine Fr.drew ?_ | with_reducible refine Fr.alloc ?_ _)), Lib.hid (by repeat (first | with_reducible exact HFb.out | with_reducible refine Fr.drew ?_))⟩
                case rest =>
                  obtain ⟨rfl, HFT, HFT2⟩ := hcut
                  obtain ⟨wt, hwt⟩ : ∃ wt, wt = wc := ⟨_, rfl⟩
                  subst hwt
                  have HGT := Lib.hid (HGB.out.keep (HFZ.out.trans HFT2.out) (by simp))
                  have HRT := Lib.hid (Rep.E.keep (HFZ.out.trans HFT2.out) (by simp) HRG.out)
                  have hS2 : S2 = sRight 2 q x y z := by rw [HS2.out, if_pos hr]
                  have HWL := Lib.hid (HWH2.out wt HFT.out)
                  rw [hS2] at HWL
                  clear hS2 HWH2
                  go_wp2_with fail
                  refine HWL.out.mono ?_
                  rintro e wv ⟨cs, rfl, hrep, hf⟩
                  obtain ⟨vo, vk, vi, vz, vt, vn, vg, va, vm, vc, _, rfl, _⟩ := Sm.e_cells hrep
                  have hfv := hf.alloc (.cells #[.int .i64 vo, .int .i64 vk, .int .i64 vi, .string ⟨vz.toArray⟩, .string ⟨vt.toArray⟩, .string ⟨vn.toArray⟩, .slice va vm vc] 30)
                  have HGV := Lib.hid (HGT.out.keep hfv (by simp))
                  have HRV := Lib.hid (Rep.E.keep hfv (by simp) HRT.out)
                  have HVV := Lib.hid (Rep.E.keep ((Fr.refl [] wv).alloc (.cells #[.int .i64 vo, .int .i64 vk, .int .i64 vi, .string ⟨vz.toArray⟩, .string ⟨vt.toArray⟩, .string ⟨vn.toArray⟩, .slice va vm vc] 30)) (by simp) hrep)
                  have HFV := Lib.hid ((HFW.out.trans HFT.out).trans hfv)
                  clear hrep hf hfv HWL
                  obtain ⟨k0, k1, k2, k3, k4, k5, k6, f0, f1, f2, f3, f4, f5, f6⟩ := c7_of HGV.out
                  go_wp2_with fail
                  refine (Sm.same_e E _ _ _ _ _ HRV.out HVV.out).mono ?_
                  rintro e wu ⟨rfl, hf⟩
                  go_wp2_with fail
                  go_ret
                  exact ⟨rfl, HFV.out.trans hf⟩
            · have hri : ¬ ((Gp.rank 2 : Nat) : Int) < ((Gp.rank q : Nat) : Int) := by omega
              go_wp2_with fail
              go_region_held3 (fun W => W.cell? ⟨w1.heap.size + 1, 2, none⟩ = some (.int .i64 (Gp.rank 2)) ∧ W.cell? ⟨w1.heap.size + 1, q, none⟩ = some (.int .i64 (Gp.rank q)))
                ((refine HCR.out _ ?_; repeat (first | with_reducible exact HFa.out | with_reducible refine Fr.drew ?_ | with_reducible refine Fr.alloc ?_ _)))
                (fail)
              all_goals
                have HFT : Hid (Fr [] wq ws2.drew) := Lib.hid HFY.out.drew
                have HGT := Lib.hid (HGB.out.keep HFZ.out.drew (by simp))
                have HRT := Lib.hid (Rep.E.keep HFZ.out.drew (by simp) HRG.out)
                generalize ws2.drew = wt at HFT HGT HRT ⊢
                have hS2 : S2 = sLeft 2 q x y z := by rw [HS2.out, if_neg hr]
                have HWL := Lib.hid (HWH2.out wt HFT.out)
                rw [hS2] at HWL
                clear hS2 HWH2
                go_wp2_with fail
                refine HWL.out.mono ?_
                rintro e wv ⟨cs, rfl, hrep, hf⟩
                obtain ⟨vo, vk, vi, vz, vt, vn, vg, va, vm, vc, _, rfl, _⟩ := Sm.e_cells hrep
                have hfv := hf.alloc (.cells #[.int .i64 vo, .int .i64 vk, .int .i64 vi, .string ⟨vz.toArray⟩, .string ⟨vt.toArray⟩, .string ⟨vn.toArray⟩, .slice va vm vc] 30)
                have HGV := Lib.hid (HGT.out.keep hfv (by simp))
                have HRV := Lib.hid (Rep.E.keep hfv (by simp) HRT.out)
                have HVV := Lib.hid (Rep.E.keep ((Fr.refl [] wv).alloc (.cells #[.int .i64 vo, .int .i64 vk, .int .i64 vi, .string ⟨vz.toArray⟩, .string ⟨vt.toArray⟩, .string ⟨vn.toArray⟩, .slice va vm vc] 30)) (by simp) hrep)
                have HFV := Lib.hid ((HFW.out.trans HFT.out).trans hfv)
                clear hrep hf hfv HWL
                obtain ⟨k0, k1, k2, k3, k4, k5, k6, f0, f1, f2, f3, f4, f5, f6⟩ := c7_of HGV.out
                go_wp2_with fail
                refine (Sm.same_e E _ _ _ _ _ HRV.out HVV.out).mono ?_
                rintro e wu ⟨rfl, hf⟩
                go_wp2_with fail
                go_ret
                exact ⟨rfl, HFV.out.trans hf⟩
        · clear HN2
          go_wp2_with fail
          go_cut [20] from 79 to 98 (fun s20 wx => s20 = .string ⟨(sLeft p q x y z).toArray⟩ ∧ Hid (Fr [] wq wx) ∧ Hid (Fr [] wr wx))
          case first =>
            have ss0 : ¬ 9223372036854775807 < 1 + bx.size := by omega
            have ss1 : ¬ 9223372036854775807 < 1 + bx.size + 1 := by omega
            have ss2 : ¬ 9223372036854775807 < 1 + bx.size + 1 + bp.size := by omega
            have ss3 : ¬ 9223372036854775807 < 1 + bx.size + 1 + bp.size + 1 := by omega
            have ss4 : ¬ 9223372036854775807 < 1 + bx.size + 1 + bp.size + 1 + bY.size := by omega
            have ss5 : ¬ 9223372036854775807 < 1 + bx.size + 1 + bp.size + 1 + bY.size + 2 := by omega
            have ss6 : ¬ 9223372036854775807 < 1 + bx.size + 1 + bp.size + 1 + bY.size + 2 + bq.size := by omega
            have ss7 : ¬ 9223372036854775807 < 1 + bx.size + 1 + bp.size + 1 + bY.size + 2 + bq.size + 1 := by omega
            have ss8 : ¬ 9223372036854775807 < 1 + bx.size + 1 + bp.size + 1 + bY.size + 2 + bq.size + 1 + bz.size := by omega
            have HFa := HFX
            have HFb : Hid (Fr [] wr wr) := Lib.hid (Fr.refl [] wr)
            go_region_held3 (fun W => W.cell? ⟨w1.heap.size, p, none⟩ = some (.string bp) ∧ W.cell? ⟨w1.heap.size, q, none⟩ = some (.string bq))
              ((refine HCS.out _ ?_; repeat (first | with_reducible exact HFa.out | with_reducible refine Fr.drew ?_ | with_reducible refine Fr.alloc ?_ _)))
              (fail)
            all_goals
              go_wp2_with fail
              go_meet
              exact ⟨congrArg Value.string HSL.out, Lib.hid (by repeat (first | with_reducible exact HFa.out | with_reducible refine Fr.drew ?_ | with_reducible refine Fr.alloc ?_ _)), Lib.hid (by repeat (first | with_reducible exact HFb.out | with_reducible refine Fr.drew ?_))⟩
          case rest =>
            obtain ⟨rfl, HFY, HFZ⟩ := hcut
            obtain ⟨ws2, hws2⟩ : ∃ ws2, ws2 = wc := ⟨_, rfl⟩
            subst hws2
            have HFa := HFY
            by_cases hr : Gp.rank p < Gp.rank q
            · have hri : ((Gp.rank p : Nat) : Int) < ((Gp.rank q : Nat) : Int) := by omega
              go_wp2_with fail
              go_region_held3 (fun W => W.cell? ⟨w1.heap.size + 1, p, none⟩ = some (.int .i64 (Gp.rank p)) ∧ W.cell? ⟨w1.heap.size + 1, q, none⟩ = some (.int .i64 (Gp.rank q)))
                ((refine HCR.out _ ?_; repeat (first | with_reducible exact HFa.out | with_reducible refine Fr.drew ?_ | with_reducible refine Fr.alloc ?_ _)))
                (fail)
              all_goals
                go_wp2_with fail
                go_cut [20] from 108 to 127 (fun s20 wx => s20 = .string ⟨(sRight p q x y z).toArray⟩ ∧ Hid (Fr [] wq wx) ∧ Hid (Fr [] ws2 wx))
                case first =>
                  have ss0 : ¬ 9223372036854775807 < bx.size + 1 := by omega
                  have ss1 : ¬ 9223372036854775807 < bx.size + 1 + bp.size := by omega
                  have ss2 : ¬ 9223372036854775807 < bx.size + 1 + bp.size + 2 := by omega
                  have ss3 : ¬ 9223372036854775807 < bx.size + 1 + bp.size + 2 + bY.size := by omega
                  have ss4 : ¬ 9223372036854775807 < bx.size + 1 + bp.size + 2 + bY.size + 1 := by omega
                  have ss5 : ¬ 9223372036854775807 < bx.size + 1 + bp.size + 2 + bY.size + 1 + bq.size := by omega
                  have ss6 : ¬ 9223372036854775807 < bx.size + 1 + bp.size + 2 + bY.size + 1 + bq.size + 1 := by omega
                  have ss7 : ¬ 9223372036854775807 < bx.size + 1 + bp.size + 2 + bY.size + 1 + bq.size + 1 + bz.size := by omega
                  have ss8 : ¬ 9223372036854775807 < bx.size + 1 + bp.size + 2 + bY.size + 1 + bq.size + 1 + bz.size + 1 := by omega
                  have HFb : Hid (Fr [] ws2 ws2) := Lib.hid (Fr.refl [] ws2)
                  go_region_held3 (fun W => W.cell? ⟨w1.heap.size, p, none⟩ = some (.string bp) ∧ W.cell? ⟨w1.heap.size, q, none⟩ = some (.string bq))
                    ((refine HCS.out _ ?_; repeat (first | with_reducible exact HFa.out | with_reducible refine Fr.drew ?_ | with_reducible refine Fr.alloc ?_ _)))
                    (fail)
                  all_goals
                    go_wp2_with fail
                    go_meet
                    exact ⟨congrArg Value.string HSR.out, Lib.hid (by repeat (first | with_reducible exact HFa.out | with_reducible refine Fr.drew ?_ | with_reducible refine Fr.alloc ?_ _)), Lib.hid (by repeat (first | with_reducible exact HFb.out | with_reducible refine Fr.drew ?_))⟩
                case rest =>
                  obtain ⟨rfl, HFT, HFT2⟩ := hcut
                  obtain ⟨wt, hwt⟩ : ∃ wt, wt = wc := ⟨_, rfl⟩
                  subst hwt
                  have HGT := Lib.hid (HGB.out.keep (HFZ.out.trans HFT2.out) (by simp))
                  have HRT := Lib.hid (Rep.E.keep (HFZ.out.trans HFT2.out) (by simp) HRG.out)
                  have hS2 : S2 = sRight p q x y z := by rw [HS2.out, if_pos hr]
                  have HWL := Lib.hid (HWH2.out wt HFT.out)
                  rw [hS2] at HWL
                  clear hS2 HWH2
                  go_wp2_with fail
                  refine HWL.out.mono ?_
                  rintro e wv ⟨cs, rfl, hrep, hf⟩
                  obtain ⟨vo, vk, vi, vz, vt, vn, vg, va, vm, vc, _, rfl, _⟩ := Sm.e_cells hrep
                  have hfv := hf.alloc (.cells #[.int .i64 vo, .int .i64 vk, .int .i64 vi, .string ⟨vz.toArray⟩, .string ⟨vt.toArray⟩, .string ⟨vn.toArray⟩, .slice va vm vc] 30)
                  have HGV := Lib.hid (HGT.out.keep hfv (by simp))
                  have HRV := Lib.hid (Rep.E.keep hfv (by simp) HRT.out)
                  have HVV := Lib.hid (Rep.E.keep ((Fr.refl [] wv).alloc (.cells #[.int .i64 vo, .int .i64 vk, .int .i64 vi, .string ⟨vz.toArray⟩, .string ⟨vt.toArray⟩, .string ⟨vn.toArray⟩, .slice va vm vc] 30)) (by simp) hrep)
                  have HFV := Lib.hid ((HFW.out.trans HFT.out).trans hfv)
                  clear hrep hf hfv HWL
                  obtain ⟨k0, k1, k2, k3, k4, k5, k6, f0, f1, f2, f3, f4, f5, f6⟩ := c7_of HGV.out
                  go_wp2_with fail
                  refine (Sm.same_e E _ _ _ _ _ HRV.out HVV.out).mono ?_
                  rintro e wu ⟨rfl, hf⟩
                  go_wp2_with fail
                  go_ret
                  exact ⟨rfl, HFV.out.trans hf⟩
            · have hri : ¬ ((Gp.rank p : Nat) : Int) < ((Gp.rank q : Nat) : Int) := by omega
              go_wp2_with fail
              go_region_held3 (fun W => W.cell? ⟨w1.heap.size + 1, p, none⟩ = some (.int .i64 (Gp.rank p)) ∧ W.cell? ⟨w1.heap.size + 1, q, none⟩ = some (.int .i64 (Gp.rank q)))
                ((refine HCR.out _ ?_; repeat (first | with_reducible exact HFa.out | with_reducible refine Fr.drew ?_ | with_reducible refine Fr.alloc ?_ _)))
                (fail)
              all_goals
                have HFT : Hid (Fr [] wq ws2.drew) := Lib.hid HFY.out.drew
                have HGT := Lib.hid (HGB.out.keep HFZ.out.drew (by simp))
                have HRT := Lib.hid (Rep.E.keep HFZ.out.drew (by simp) HRG.out)
                generalize ws2.drew = wt at HFT HGT HRT ⊢
                have hS2 : S2 = sLeft p q x y z := by rw [HS2.out, if_neg hr]
                have HWL := Lib.hid (HWH2.out wt HFT.out)
                rw [hS2] at HWL
                clear hS2 HWH2
                go_wp2_with fail
                refine HWL.out.mono ?_
                rintro e wv ⟨cs, rfl, hrep, hf⟩
                obtain ⟨vo, vk, vi, vz, vt, vn, vg, va, vm, vc, _, rfl, _⟩ := Sm.e_cells hrep
                have hfv := hf.alloc (.cells #[.int .i64 vo, .int .i64 vk, .int .i64 vi, .string ⟨vz.toArray⟩, .string ⟨vt.toArray⟩, .string ⟨vn.toArray⟩, .slice va vm vc] 30)
                have HGV := Lib.hid (HGT.out.keep hfv (by simp))
                have HRV := Lib.hid (Rep.E.keep hfv (by simp) HRT.out)
                have HVV := Lib.hid (Rep.E.keep ((Fr.refl [] wv).alloc (.cells #[.int .i64 vo, .int .i64 vk, .int .i64 vi, .string ⟨vz.toArray⟩, .string ⟨vt.toArray⟩, .string ⟨vn.toArray⟩, .slice va vm vc] 30)) (by simp) hrep)
                have HFV := Lib.hid ((HFW.out.trans HFT.out).trans hfv)
                clear hrep hf hfv HWL
                obtain ⟨k0, k1, k2, k3, k4, k5, k6, f0, f1, f2, f3, f4, f5, f6⟩ := c7_of HGV.out
                go_wp2_with fail
                refine (Sm.same_e E _ _ _ _ _ HRV.out HVV.out).mono ?_
                rintro e wu ⟨rfl, hf⟩
                go_wp2_with fail
                go_ret
                exact ⟨rfl, HFV.out.trans hf⟩
end Px
end Go.Proofs.YthmdgiodhjlbcaaDoor
