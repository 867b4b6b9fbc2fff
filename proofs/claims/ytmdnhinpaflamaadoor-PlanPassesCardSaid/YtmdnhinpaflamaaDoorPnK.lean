/- plan: how a way is told. -/
import Derived.Test.YtmdnhinpaflamaaDoorPnJ
import Derived.Test.YtmdnhinpaflamaaDoorSwA
namespace Go.Proofs.YtmdnhinpaflamaaDoor
open Go.RowKit
set_option linter.unusedVariables false
set_option linter.unusedSimpArgs false
namespace Pn
open PM (Ex B Col)
open CM (Pr)
open Gn (sh)
open Px (ColS colC)
open Sh (bt bt_cat bt_size)
/-- how a way is told -/
def scanT (tn : B) : B := [115, 99, 97, 110, 32] ++ tn
def lookT (tn nm s : B) : B := [108, 111, 111, 107, 32] ++ tn ++ [46] ++ nm ++ [32, 61, 32] ++ s
/-- a value, and how it is shown -/
inductive Val : Int → Int → B → B → Prop
  | int (v : Nat) (h : v ≤ 9223372036854775807) : Val 1 v [] (sh (.int v))
  | text (t : B) (h : t.length ≤ 1000) : Val 2 0 t (sh (.text t))
set_option maxRecDepth 1000000 in
set_option maxHeartbeats 2000000 in
theorem pexplain_neg (tn : B) (l : List Col) (ix : List B) (a ia : Option Addr) (c ic : Nat) (k i : Int) (t : ByteArray) (ht : tn.length ≤ 1000) (w : World) :
    Calls Tryd.prog 14 #[.agg #[.string (bt tn), .slice a l.length c, .slice ia ix.length ic], .agg #[.int .i64 (-1), .int .i64 k, .int .i64 i, .string t]] w fun e w' => e = .returned (.string (bt (scanT tn))) ∧ Fr [] w w' := by
  have hs : ((bt tn).size : Int) ≤ 1000 := by rw [bt_size]; omega
  have HR : Hid ((⟨#[115, 99, 97, 110, 32]⟩ : ByteArray) ++ bt tn = bt (scanT tn)) := Lib.hid (by rw [show (⟨#[115, 99, 97, 110, 32]⟩ : ByteArray) = bt [115, 99, 97, 110, 32] from rfl, bt_cat]; rfl)
  generalize bt tn = s at hs HR ⊢
  go_enter Tryd.func14, Tryd.ntmps14
  go_wp2_with fail
  go_ret
  exact ⟨congrArg (fun z => Ending.returned (.string z)) HR.out, ((Fr.refl [] w).alloc _).alloc _⟩
set_option maxRecDepth 1000000 in
set_option maxHeartbeats 2000000 in
theorem rexplain_neg (tn : B) (l : List Col) (ix : List B) (a ia : Option Addr) (c ic : Nat) (k i : Int) (t : ByteArray) (ht : tn.length ≤ 1000) (w : World) :
    Calls Tryd.prog 15 #[.agg #[.string (bt tn), .slice a l.length c, .slice ia ix.length ic], .int .i64 (-1), .agg #[.int .i64 k, .int .i64 i, .string t]] w fun e w' => e = .returned (.string (bt (scanT tn))) ∧ Fr [] w w' := by
  have hs : ((bt tn).size : Int) ≤ 1000 := by rw [bt_size]; omega
  have HR : Hid ((⟨#[115, 99, 97, 110, 32]⟩ : ByteArray) ++ bt tn = bt (scanT tn)) := Lib.hid (by rw [show (⟨#[115, 99, 97, 110, 32]⟩ : ByteArray) = bt [115, 99, 97, 110, 32] from rfl, bt_cat]; rfl)
  generalize bt tn = s at hs HR ⊢
  go_enter Tryd.func15, Tryd.ntmps15
  go_wp2_with fail
  go_ret
  exact ⟨congrArg (fun z => Ending.returned (.string z)) HR.out, ((Fr.refl [] w).alloc _).alloc _⟩
set_option maxRecDepth 1000000 in
set_option maxHeartbeats 4000000 in
theorem pexplain_pos (tn : B) (l : List Col) (ix : List B) (A : Nat → Prop) (a ia : Option Addr) (c ic j : Nat) (hj : j < l.length) (hl : l.length ≤ 100) (k i : Int) (t s : B) (hv : Val k i t s) (ht : tn.length ≤ 1000) (hn : l[j].name.length ≤ 1000) (w : World) (h : ColS A w (.slice a l.length c) l) (hE : Sw.Env w) :
    Calls Tryd.prog 14 #[.agg #[.string (bt tn), .slice a l.length c, .slice ia ix.length ic], .agg #[.int .i64 (j : Int), .int .i64 k, .int .i64 i, .string (bt t)]] w fun e w' => e = .returned (.string (bt (lookT tn l[j].name s))) ∧ Fr [] w w' := by
  have htl : t.length ≤ 1000 := by cases hv with | int => exact Nat.zero_le _ | text _ h => exact h
  obtain ⟨g, off, rfl, -, hg, hcap, hc⟩ := (Sh.flat_form (cells := colC) (size := 3) (fun _ => rfl) h).2.2 j hj
  have hc0 := hc 0 _ rfl
  generalize l[j].name = nm at hc0 hn ⊢
  have hs1 : ((bt tn).size : Int) ≤ 1000 := by rw [bt_size]; omega
  have hs2 : ((bt nm).size : Int) ≤ 1000 := by rw [bt_size]; omega
  have hjl : (j : Int) < l.length := by omega
  have hj0 : (0 : Int) ≤ j := by omega
  have hli : (l.length : Int) ≤ 100 := by omega
  have hci : (l.length : Int) ≤ c := by omega
  have hf0 : Fr [] w ((w.alloc (.cells #[.string (bt tn), .slice (some ⟨g, off, none⟩) l.length c, .slice ia ix.length ic] 27)).alloc (.cells #[.int .i64 (j : Int), .int .i64 k, .int .i64 i, .string (bt t)] 46)) := ((Fr.refl [] w).alloc _).alloc _
  have hb0 := (Blk.new w 27 [.string (bt tn), .slice (some ⟨g, off, none⟩) l.length c, .slice ia ix.length ic]).alloc (.cells #[.int .i64 (j : Int), .int .i64 k, .int .i64 i, .string (bt t)] 46)
  have hb1 := Blk.new (w.alloc (.cells #[.string (bt tn), .slice (some ⟨g, off, none⟩) l.length c, .slice ia ix.length ic] 27)) 46 [.int .i64 (j : Int), .int .i64 k, .int .i64 i, .string (bt t)]
  rw [World.size_alloc] at hb1
  obtain ⟨m, hm⟩ := (hE.keep hf0).mx
  have HR := Lib.hid (Tryd.strings_ReplaceAll (bt t) ⟨#[39]⟩ ⟨#[39, 39]⟩ m ((w.alloc (.cells #[.string (bt tn), .slice (some ⟨g, off, none⟩) l.length c, .slice ia ix.length ic] 27)).alloc (.cells #[.int .i64 (j : Int), .int .i64 k, .int .i64 i, .string (bt t)] 46)) (by rw [bt_size]; omega) hm (by decide) (by
    have h1 := Lib.countB_le ⟨#[39]⟩ (by decide) (bt t).size (bt t) (Nat.le_refl _)
    rw [bt_size] at h1 ⊢
    show t.length + Lib.countB (bt t) ⟨#[39]⟩ * 2 ≤ _
    omega))
  rw [show ∀ x : B, (bt x).data.toList = x from fun x => by simp, show (⟨#[39]⟩ : ByteArray).data.toList = [39] from rfl, show (⟨#[39, 39]⟩ : ByteArray).data.toList = [39, 39] from rfl, Sw.rep_all] at HR
  have hq := Sw.quo_len t
  have hqs : ((bt (Pc.quo t)).size : Int) ≤ 2000 := by rw [bt_size]; omega
  change Hid (Calls _ _ _ _ fun e w' => e = .returned (.string (bt (Pc.quo t))) ∧ _) at HR
  have HQ : Hid ((⟨#[39]⟩ : ByteArray) ++ bt (Pc.quo t) ++ ⟨#[39]⟩ = bt (sh (.text t))) := Lib.hid (by
    rw [Gn.sh_text, show (⟨#[39]⟩ : ByteArray) = bt [39] from rfl, bt_cat, bt_cat]
    rfl)
  have HEE := Lib.hid hE
  have HF0 := Lib.hid hf0
  have HB0 := Lib.hid hb0
  have HB1 := Lib.hid hb1
  have HV := Lib.hid hv
  have HRES : Hid (∀ z : ByteArray, z = bt s → (⟨#[108, 111, 111, 107, 32]⟩ : ByteArray) ++ bt tn ++ ⟨#[46]⟩ ++ bt nm ++ ⟨#[32, 61, 32]⟩ ++ z = bt (lookT tn nm s)) := Lib.hid (fun z hz => by
    rw [hz, show (⟨#[108, 111, 111, 107, 32]⟩ : ByteArray) = bt [108, 111, 111, 107, 32] from rfl, show (⟨#[46]⟩ : ByteArray) = bt [46] from rfl, show (⟨#[32, 61, 32]⟩ : ByteArray) = bt [32, 61, 32] from rfl, bt_cat, bt_cat, bt_cat, bt_cat, bt_cat]
    rfl)
  have HC0 : Hid (w.cell? ⟨g, off + j * 3, none⟩ = some (.string (bt nm))) := Lib.hid hc0
  generalize bt (lookT tn nm s) = res at HRES ⊢
  generalize bt tn = xtn at hs1 HR HF0 HB0 HB1 HRES ⊢
  generalize bt nm = xnm at hs2 HRES HC0
  generalize bt (Pc.quo t) = d at HR hqs HQ
  clear h hE hf0 hb0 hb1 hc hc0 hm hq hv
  go_enter Tryd.func14, Tryd.ntmps14
  go_wp2_with fail
  refine HR.out.mono ?_
  rintro e w1 ⟨rfl, hf⟩
  have hf1 := Fr.of_below (S := []) hf
  have HB01 := Lib.hid (HB0.out.keep hf1 (by simp))
  have HB11 := Lib.hid (HB1.out.keep hf1 (by simp))
  have HF1 := Lib.hid (HF0.out.trans hf1)
  clear hf hf1 HB0 HB1 HF0 HR
  have hlb0 := HB01.out.lt
  have hlb1 := HB11.out.lt
  have p1 := HB11.out.cell 1
  have p2 := HB11.out.cell 2
  simp only [List.getElem?_cons_zero, List.getElem?_cons_succ] at p1 p2
  cases HV.out with
  | int v hv =>
      have hv0 : (0 : Int) ≤ v := by omega
      have hi : Lib.itoa (v : Int) = Lib.decDigits v := by rw [Lib.itoa, if_neg (by omega)]; simp
      have HFI := Lib.hid (Tryd.strconv_FormatInt_10 (v : Int) (by omega) (by omega) w1 (HEE.out.keep HF1.out).tab)
      have HZ : Hid ((⟨(Lib.itoa (v : Int)).toArray⟩ : ByteArray) = bt (sh (.int v))) := Lib.hid (by rw [Gn.sh_int, ← hi])
      have hsz : ((sh (.int v)).length : Int) ≤ 100 := by rw [Gn.sh_int]; have := Gn.dec_len hv; omega
      rw [show (⟨(Lib.itoa (v : Int)).toArray⟩ : ByteArray) = bt (sh (.int v)) from HZ.out] at HFI
      skip
      clear hi
      go_wp2_with fail
      refine HFI.out.mono ?_
      rintro e w2 ⟨rfl, kk, os, rfl⟩
      have HF2 := Lib.hid (Sw.fr_grow w1 kk os)
      clear HFI p1 p2
      go_upto_region 6 with fail
      refine Seq3.wp_region_text (fun i => true) (fun _ => none) (fun i => false) (fun W => Fr [] w1 W) (by kernel_rfl) (by kernel_rfl) (HF2.out.drew) ?_
      refine Seq3.wpL_quiet rfl rfl rfl (fun K hK => ?_)
      go_big_quiet_op
      first | refine hK _ ?_ | refine ⟨_, by intros; rfl, hK _ ?_⟩
      clear hK K
      refine Seq3.wpL_held (v := .string xtn) rfl rfl (fun wz hz => ?_) ?_
      · have l0 := (HB01.out.keep hz (by simp)).cell 0
        simp [go_sem, execOp, l0]
      simp only [Act.put, List.setIfInBounds_toArray, List.set_cons_succ, List.set_cons_zero]
      refine Seq3.wpL_quiet rfl rfl rfl (fun K hK => ?_)
      go_big_quiet_op
      first | refine hK _ ?_ | refine ⟨_, by intros; rfl, hK _ ?_⟩
      clear hK K
      refine Seq3.wpL_quiet rfl rfl rfl (fun K hK => ?_)
      go_big_quiet_op
      first | refine hK _ ?_ | refine ⟨_, by intros; rfl, hK _ ?_⟩
      clear hK K
      refine Seq3.wpL_quiet rfl rfl rfl (fun K hK => ?_)
      go_big_quiet_op
      first | refine hK _ ?_ | refine ⟨_, by intros; rfl, hK _ ?_⟩
      clear hK K
      refine Seq3.wpL_held (v := .slice (some ⟨g, off, none⟩) l.length c) rfl rfl (fun wz hz => ?_) ?_
      · have l0 := (HB01.out.keep hz (by simp)).cell 1
        simp [go_sem, execOp, l0]
      simp only [Act.put, List.setIfInBounds_toArray, List.set_cons_succ, List.set_cons_zero]
      refine Seq3.wpL_quiet rfl rfl rfl (fun K hK => ?_)
      go_big_quiet_op
      first | refine hK _ ?_ | refine ⟨_, by intros; rfl, hK _ ?_⟩
      clear hK K
      refine Seq3.wpL_held (v := .int .i64 (j : Int)) rfl rfl (fun wz hz => ?_) ?_
      · have l0 := (HB11.out.keep hz (by simp)).cell 0
        simp [go_sem, execOp, l0]
      simp only [Act.put, List.setIfInBounds_toArray, List.set_cons_succ, List.set_cons_zero]
      refine Seq3.wpL_quiet rfl rfl rfl (fun K hK => ?_)
      go_big_quiet_op
      first | refine hK _ ?_ | refine ⟨_, by intros; rfl, hK _ ?_⟩
      clear hK K
      refine Seq3.wpL_quiet rfl rfl rfl (fun K hK => ?_)
      go_big_quiet_op
      first | refine hK _ ?_ | refine ⟨_, by intros; rfl, hK _ ?_⟩
      clear hK K
      refine Seq3.wpL_held (v := .string xnm) rfl rfl (fun wz hz => ?_) ?_
      · have l0 := ((HF1.out.trans hz).cell (p := ⟨g, off + j * 3, none⟩) hg (by simp)).trans HC0.out
        simp [go_sem, execOp, l0]
      simp only [Act.put, List.setIfInBounds_toArray, List.set_cons_succ, List.set_cons_zero]
      refine Seq3.wpL_quiet rfl rfl rfl (fun K hK => ?_)
      go_big_quiet_op
      first | refine hK _ ?_ | refine ⟨_, by intros; rfl, hK _ ?_⟩
      clear hK K
      refine Seq3.wpL_quiet rfl rfl rfl (fun K hK => ?_)
      go_big_quiet_op
      first | refine hK _ ?_ | refine ⟨_, by intros; rfl, hK _ ?_⟩
      clear hK K
      refine Seq3.wpL_quiet rfl rfl rfl (fun K hK => ?_)
      go_big_quiet_op
      first | refine hK _ ?_ | refine ⟨_, by intros; rfl, hK _ ?_⟩
      clear hK K
      refine Seq3.wpL_quiet rfl rfl rfl (fun K hK => ?_)
      go_big_quiet_op
      first | refine hK _ ?_ | refine ⟨_, by intros; rfl, hK _ ?_⟩
      clear hK K
      refine Seq3.wpL_quiet rfl rfl rfl (fun K hK => ?_)
      go_big_quiet_op
      first | refine hK _ ?_ | refine ⟨_, by intros; rfl, hK _ ?_⟩
      clear hK K
      refine Seq3.wpL_nil ?_
      go_wp2_with fail
      go_ret
      exact ⟨congrArg (fun z => Ending.returned (.string z)) (HRES.out _ rfl), HF1.out.trans (HF2.out.drew)⟩
  | text t hv =>
      skip
      go_upto_region 6 with fail
      refine Seq3.wp_region_text (fun i => true) (fun _ => none) (fun i => false) (fun W => Fr [] w1 W) (by kernel_rfl) (by kernel_rfl) ((Fr.refl [] w1).drew) ?_
      refine Seq3.wpL_quiet rfl rfl rfl (fun K hK => ?_)
      go_big_quiet_op
      first | refine hK _ ?_ | refine ⟨_, by intros; rfl, hK _ ?_⟩
      clear hK K
      refine Seq3.wpL_held (v := .string xtn) rfl rfl (fun wz hz => ?_) ?_
      · have l0 := (HB01.out.keep hz (by simp)).cell 0
        simp [go_sem, execOp, l0]
      simp only [Act.put, List.setIfInBounds_toArray, List.set_cons_succ, List.set_cons_zero]
      refine Seq3.wpL_quiet rfl rfl rfl (fun K hK => ?_)
      go_big_quiet_op
      first | refine hK _ ?_ | refine ⟨_, by intros; rfl, hK _ ?_⟩
      clear hK K
      refine Seq3.wpL_quiet rfl rfl rfl (fun K hK => ?_)
      go_big_quiet_op
      first | refine hK _ ?_ | refine ⟨_, by intros; rfl, hK _ ?_⟩
      clear hK K
      refine Seq3.wpL_quiet rfl rfl rfl (fun K hK => ?_)
      go_big_quiet_op
      first | refine hK _ ?_ | refine ⟨_, by intros; rfl, hK _ ?_⟩
      clear hK K
      refine Seq3.wpL_held (v := .slice (some ⟨g, off, none⟩) l.length c) rfl rfl (fun wz hz => ?_) ?_
      · have l0 := (HB01.out.keep hz (by simp)).cell 1
        simp [go_sem, execOp, l0]
      simp only [Act.put, List.setIfInBounds_toArray, List.set_cons_succ, List.set_cons_zero]
      refine Seq3.wpL_quiet rfl rfl rfl (fun K hK => ?_)
      go_big_quiet_op
      first | refine hK _ ?_ | refine ⟨_, by intros; rfl, hK _ ?_⟩
      clear hK K
      refine Seq3.wpL_held (v := .int .i64 (j : Int)) rfl rfl (fun wz hz => ?_) ?_
      · have l0 := (HB11.out.keep hz (by simp)).cell 0
        simp [go_sem, execOp, l0]
      simp only [Act.put, List.setIfInBounds_toArray, List.set_cons_succ, List.set_cons_zero]
      refine Seq3.wpL_quiet rfl rfl rfl (fun K hK => ?_)
      go_big_quiet_op
      first | refine hK _ ?_ | refine ⟨_, by intros; rfl, hK _ ?_⟩
      clear hK K
      refine Seq3.wpL_quiet rfl rfl rfl (fun K hK => ?_)
      go_big_quiet_op
      first | refine hK _ ?_ | refine ⟨_, by intros; rfl, hK _ ?_⟩
      clear hK K
      refine Seq3.wpL_held (v := .string xnm) rfl rfl (fun wz hz => ?_) ?_
      · have l0 := ((HF1.out.trans hz).cell (p := ⟨g, off + j * 3, none⟩) hg (by simp)).trans HC0.out
        simp [go_sem, execOp, l0]
      simp only [Act.put, List.setIfInBounds_toArray, List.set_cons_succ, List.set_cons_zero]
      refine Seq3.wpL_quiet rfl rfl rfl (fun K hK => ?_)
      go_big_quiet_op
      first | refine hK _ ?_ | refine ⟨_, by intros; rfl, hK _ ?_⟩
      clear hK K
      refine Seq3.wpL_quiet rfl rfl rfl (fun K hK => ?_)
      go_big_quiet_op
      first | refine hK _ ?_ | refine ⟨_, by intros; rfl, hK _ ?_⟩
      clear hK K
      refine Seq3.wpL_quiet rfl rfl rfl (fun K hK => ?_)
      go_big_quiet_op
      first | refine hK _ ?_ | refine ⟨_, by intros; rfl, hK _ ?_⟩
      clear hK K
      refine Seq3.wpL_quiet rfl rfl rfl (fun K hK => ?_)
      go_big_quiet_op
      first | refine hK _ ?_ | refine ⟨_, by intros; rfl, hK _ ?_⟩
      clear hK K
      refine Seq3.wpL_quiet rfl rfl rfl (fun K hK => ?_)
      go_big_quiet_op
      first | refine hK _ ?_ | refine ⟨_, by intros; rfl, hK _ ?_⟩
      clear hK K
      refine Seq3.wpL_nil ?_
      go_wp2_with fail
      go_ret
      exact ⟨congrArg (fun z => Ending.returned (.string z)) (HRES.out _ HQ.out), HF1.out.trans ((Fr.refl [] w1).drew)⟩
set_option maxRecDepth 1000000 in
set_option maxHeartbeats 4000000 in
theorem rexplain_pos (tn : B) (l : List Col) (ix : List B) (A : Nat → Prop) (a ia : Option Addr) (c ic j : Nat) (hj : j < l.length) (hl : l.length ≤ 100) (k i : Int) (t s : B) (hv : Val k i t s) (hsl : s.length ≤ 3000) (ht : tn.length ≤ 1000) (hn : l[j].name.length ≤ 1000) (w : World) (h : ColS A w (.slice a l.length c) l) :
    Calls Tryd.prog 15 #[.agg #[.string (bt tn), .slice a l.length c, .slice ia ix.length ic], .int .i64 (j : Int), .agg #[.int .i64 k, .int .i64 i, .string (bt t)]] w fun e w' => e = .returned (.string (bt (lookT tn l[j].name s))) ∧ Fr [] w w' := by
  obtain ⟨g, off, rfl, -, hg, hcap, hc⟩ := (Sh.flat_form (cells := colC) (size := 3) (fun _ => rfl) h).2.2 j hj
  have hc0 := hc 0 _ rfl
  generalize l[j].name = nm at hc0 hn ⊢
  have hs1 : ((bt tn).size : Int) ≤ 1000 := by rw [bt_size]; omega
  have hs2 : ((bt nm).size : Int) ≤ 1000 := by rw [bt_size]; omega
  have hs3 : ((bt s).size : Int) ≤ 3000 := by rw [bt_size]; omega
  have hjl : (j : Int) < l.length := by omega
  have hj0 : (0 : Int) ≤ j := by omega
  have hli : (l.length : Int) ≤ 100 := by omega
  have hci : (l.length : Int) ≤ c := by omega
  have hf0 : Fr [] w ((w.alloc (.cells #[.string (bt tn), .slice (some ⟨g, off, none⟩) l.length c, .slice ia ix.length ic] 27)).alloc (.cells #[.int .i64 k, .int .i64 i, .string (bt t)] 38)) := ((Fr.refl [] w).alloc _).alloc _
  have hb0 := (Blk.new w 27 [.string (bt tn), .slice (some ⟨g, off, none⟩) l.length c, .slice ia ix.length ic]).alloc (.cells #[.int .i64 k, .int .i64 i, .string (bt t)] 38)
  have hb1 := Blk.new (w.alloc (.cells #[.string (bt tn), .slice (some ⟨g, off, none⟩) l.length c, .slice ia ix.length ic] 27)) 38 [.int .i64 k, .int .i64 i, .string (bt t)]
  rw [World.size_alloc] at hb1
  have HR : Hid (∀ W, Calls Tryd.prog 43 #[.agg #[.int .i64 k, .int .i64 i, .string (bt t)]] W fun e w' => e = .returned (.string (bt s)) ∧ Fr [] W w') := Lib.hid (fun W => by
    cases hv with
    | int v hv => exact Sh.value_int v hv W
    | text _ hv => exact Sh.value_text t hv W)
  have HF0 := Lib.hid hf0
  have HB0 := Lib.hid hb0
  have HB1 := Lib.hid hb1
  have HRES : Hid ((⟨#[108, 111, 111, 107, 32]⟩ : ByteArray) ++ bt tn ++ ⟨#[46]⟩ ++ bt nm ++ ⟨#[32, 61, 32]⟩ ++ bt s = bt (lookT tn nm s)) := Lib.hid (by
    rw [show (⟨#[108, 111, 111, 107, 32]⟩ : ByteArray) = bt [108, 111, 111, 107, 32] from rfl, show (⟨#[46]⟩ : ByteArray) = bt [46] from rfl, show (⟨#[32, 61, 32]⟩ : ByteArray) = bt [32, 61, 32] from rfl, bt_cat, bt_cat, bt_cat, bt_cat, bt_cat]
    rfl)
  have HC0 : Hid (w.cell? ⟨g, off + j * 3, none⟩ = some (.string (bt nm))) := Lib.hid hc0
  generalize bt (lookT tn nm s) = res at HRES ⊢
  generalize bt tn = xtn at hs1 HF0 HB0 HB1 HRES ⊢
  generalize bt nm = xnm at hs2 HRES HC0
  generalize bt s = xs at hs3 HR HRES
  clear h hf0 hb0 hb1 hc hc0 hv
  go_enter Tryd.func15, Tryd.ntmps15
  go_upto_region 1 with fail
  generalize (w.alloc (.cells #[.string xtn, .slice (some ⟨g, off, none⟩) l.length c, .slice ia ix.length ic] 27)).alloc (.cells #[.int .i64 k, .int .i64 i, .string (bt t)] 38) = w0 at HF0 HB0 HB1 ⊢
  have hlb0 := HB0.out.lt
  have hlb1 := HB1.out.lt
  have t1 := HB0.out.cell 1
  simp only [List.getElem?_cons_zero, List.getElem?_cons_succ] at t1
  go_upto_region 3 with fail
  refine Seq3.wp_region_text (fun i => i != 13) (fun _ => none) (fun i => false) (fun W => Fr [] w0 W) (by kernel_rfl) (by kernel_rfl) ((Fr.refl [] w0).drew) ?_
  refine Seq3.wpL_quiet rfl rfl rfl (fun K hK => ?_)
  go_big_quiet_op
  first | refine hK _ ?_ | refine ⟨_, by intros; rfl, hK _ ?_⟩
  clear hK K
  refine Seq3.wpL_held (v := .string xtn) rfl rfl (fun wz hz => ?_) ?_
  · have l0 := (HB0.out.keep hz (by simp)).cell 0
    simp [go_sem, execOp, l0]
  simp only [Act.put, List.setIfInBounds_toArray, List.set_cons_succ, List.set_cons_zero]
  refine Seq3.wpL_quiet rfl rfl rfl (fun K hK => ?_)
  go_big_quiet_op
  first | refine hK _ ?_ | refine ⟨_, by intros; rfl, hK _ ?_⟩
  clear hK K
  refine Seq3.wpL_quiet rfl rfl rfl (fun K hK => ?_)
  go_big_quiet_op
  first | refine hK _ ?_ | refine ⟨_, by intros; rfl, hK _ ?_⟩
  clear hK K
  refine Seq3.wpL_quiet rfl rfl rfl (fun K hK => ?_)
  go_big_quiet_op
  first | refine hK _ ?_ | refine ⟨_, by intros; rfl, hK _ ?_⟩
  clear hK K
  refine Seq3.wpL_held (v := .slice (some ⟨g, off, none⟩) l.length c) rfl rfl (fun wz hz => ?_) ?_
  · have l0 := (HB0.out.keep hz (by simp)).cell 1
    simp [go_sem, execOp, l0]
  simp only [Act.put, List.setIfInBounds_toArray, List.set_cons_succ, List.set_cons_zero]
  refine Seq3.wpL_quiet rfl rfl rfl (fun K hK => ?_)
  go_big_quiet_op
  first | refine hK _ ?_ | refine ⟨_, by intros; rfl, hK _ ?_⟩
  clear hK K
  refine Seq3.wpL_quiet rfl rfl rfl (fun K hK => ?_)
  go_big_quiet_op
  first | refine hK _ ?_ | refine ⟨_, by intros; rfl, hK _ ?_⟩
  clear hK K
  refine Seq3.wpL_quiet rfl rfl rfl (fun K hK => ?_)
  go_big_quiet_op
  first | refine hK _ ?_ | refine ⟨_, by intros; rfl, hK _ ?_⟩
  clear hK K
  refine Seq3.wpL_held (v := .string xnm) rfl rfl (fun wz hz => ?_) ?_
  · have l0 := ((HF0.out.trans hz).cell (p := ⟨g, off + j * 3, none⟩) hg (by simp)).trans HC0.out
    simp [go_sem, execOp, l0]
  simp only [Act.put, List.setIfInBounds_toArray, List.set_cons_succ, List.set_cons_zero]
  refine Seq3.wpL_quiet rfl rfl rfl (fun K hK => ?_)
  go_big_quiet_op
  first | refine hK _ ?_ | refine ⟨_, by intros; rfl, hK _ ?_⟩
  clear hK K
  refine Seq3.wpL_quiet rfl rfl rfl (fun K hK => ?_)
  go_big_quiet_op
  first | refine hK _ ?_ | refine ⟨_, by intros; rfl, hK _ ?_⟩
  clear hK K
  refine Seq3.wpL_held (v := .agg #[.int .i64 k, .int .i64 i, .string (bt t)]) rfl rfl (fun wz hz => ?_) ?_
  · have l0 := (HB1.out.keep hz (by simp)).cell 0
    have l1 := (HB1.out.keep hz (by simp)).cell 1
    have l2 := (HB1.out.keep hz (by simp)).cell 2
    simp [go_sem, execOp, l0, l1, l2]
  simp only [Act.put, List.setIfInBounds_toArray, List.set_cons_succ, List.set_cons_zero]
  refine Seq3.wpL_call rfl rfl (by first | kernel_rfl | simp [go_sem, execOp]) (HR.out _) ?_
  rintro e w2 ⟨rfl, hf2⟩
  have HF2 := Lib.hid ((Fr.drew (Fr.refl [] w0)).trans hf2)
  refine ⟨_, rfl, HF2.out, ?_⟩
  simp only [Act.put, List.setIfInBounds_toArray, List.set_cons_succ, List.set_cons_zero]
  refine Seq3.wpL_quiet rfl rfl rfl (fun K hK => ?_)
  go_big_quiet_op
  first | refine hK _ ?_ | refine ⟨_, by intros; rfl, hK _ ?_⟩
  clear hK K
  refine Seq3.wpL_quiet rfl rfl rfl (fun K hK => ?_)
  go_big_quiet_op
  first | refine hK _ ?_ | refine ⟨_, by intros; rfl, hK _ ?_⟩
  clear hK K
  refine Seq3.wpL_nil ?_
  go_wp2_with fail
  go_ret
  exact ⟨congrArg (fun z => Ending.returned (.string z)) HRES.out, HF0.out.trans HF2.out⟩
end Pn
end Go.Proofs.YtmdnhinpaflamaaDoor
