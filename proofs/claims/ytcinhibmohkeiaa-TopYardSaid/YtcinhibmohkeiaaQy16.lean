/- edges of checks (layer 5). -/
import Derived.Test.YtcinhibmohkeiaaQy14
import Derived.Test.YtcinhibmohkeiaaQy06
import Derived.Test.YtcinhibmohkeiaaQy15
import Derived.Shelf.Abstract
import Derived.Laws.EntriesVeiled
import Derived.Handy
import Derived.Deep.DrawnRows
import Derived.Deep.DeepCutAuto
namespace Go.Proofs.Ytcinhibmohkeiaa
open Go.RowKit
open Go.Sort (grow)
set_option linter.unusedVariables false
set_option linter.unusedSimpArgs false

theorem egE : ElemT Try.prog 107 123 4 32 := by
  obtain ⟨i0, hi0, hz0, hz1, hz2⟩ := info_parts (P := Try.prog) (show (Try.prog.info? 123).map (fun i => (i.zero, i.size, i.bytes)) = some (some (.agg #[.int .i64 0, .int .i64 0, .int .i64 0, .int .i64 0]), 4, 32) by kernel_rfl)
  exact ⟨Try.underlying107, ⟨i0, _, hi0, hz0, hz1, hz2, rfl⟩, by omega, by omega⟩
theorem encE5_one (x : Ed5) : ∀ u ∈ encE5 x, u.oneCell' = true := by
  intro u hu; simp only [encE5, List.mem_cons, List.not_mem_nil, or_false] at hu; rcases hu with rfl | rfl | rfl | rfl <;> rfl
theorem ckY_n {n m : Nat} {ms : List Sp} {cs : List Cm5} {wr : Int} (h : ckY n m ms cs wr = true) : n ≤ 5 ∧ m ≤ 8 ∧ 0 ≤ wr ∧ wr ≤ 8 := by
  simp only [ckY, wn, Bool.and_eq_true, Bool.not_eq_true', decide_eq_false_iff_not, decide_eq_true_eq] at h
  omega
theorem ckY_m {n m : Nat} {ms : List Sp} {cs : List Cm5} {wr : Int} (h : ckY n m ms cs wr = true) {k : Nat} (hk : k < n) : -60 ≤ (spAt ms k).lo ∧ (spAt ms k).lo ≤ (spAt ms k).hi ∧ (spAt ms k).hi ≤ 60 := by
  simp only [ckY, Bool.and_eq_true] at h
  have := allN_iff.1 h.2.1 k hk
  simp only [ckS5, wn, Bool.and_eq_true, Bool.not_eq_true', decide_eq_false_iff_not, decide_eq_true_eq] at this
  omega
theorem ckY_c {n m : Nat} {ms : List Sp} {cs : List Cm5} {wr : Int} (h : ckY n m ms cs wr = true) {k : Nat} (hk : k < m) : (0 ≤ (cmAt cs k).a ∧ (cmAt cs k).a < n) ∧ (0 ≤ (cmAt cs k).b ∧ (cmAt cs k).b < n) ∧ -120 ≤ (cmAt cs k).lo ∧ (cmAt cs k).lo ≤ (cmAt cs k).hi ∧ (cmAt cs k).hi ≤ 120 := by
  simp only [ckY, Bool.and_eq_true] at h
  have := allN_iff.1 h.2.2.2.1 k hk
  simp only [ckC5, wn, Bool.and_eq_true, Bool.not_eq_true', decide_eq_false_iff_not, decide_eq_true_eq, beq_eq_false_iff_ne, ne_eq] at this
  omega
set_option maxRecDepth 100000 in
set_option maxHeartbeats 3200000 in
theorem edges_c (A : Option Addr) (n c : Nat) (B : Option Addr) (m d : Nat) (wr : Int) (ms : List Sp) (cs : List Cm5) (g : Nat) (fst cap : Array Value) (right : Nat → Bool) (w : World) (HM : SpsAt w A n ms) (HC : CmsAt w B m cs) (hck : ckY n m ms cs wr = true)
    (HE : ∀ args w, (callFunc g args).run Try.prog w = .ok (.enter g args) w)
    (HF : ∀ k, k < m → ∀ w', Below w.heap.size w w' → Calls Try.prog g (fst.push (.int .i64 k) ++ cap) w' fun e w'' => e = .returned (.bool (right k)) ∧ Below w'.heap.size w' w'') :
    Calls Try.prog 52 #[.agg #[.slice A n c, .slice B m d, .int .i64 wr], .func (.func g) fst cap] w fun e w' => ∃ L c', e = .returned (.slice L (eds5 ms cs right).length c') ∧ EdsAt w' L (eds5 ms cs right).length (eds5 ms cs right) ∧ Below w.heap.size w w' := by
  have HFI := Lib.hid HF
  have HMI := Lib.hid HM
  have HCI := Lib.hid HC
  have hml := HM.1
  have hcl := HC.1
  have HKM := Lib.hid (fun k (hk : k < n) => ckY_m hck hk)
  have HKC := Lib.hid (fun k (hk : k < m) => (ckY_c hck hk).2.2)
  obtain ⟨hn5, hm8, -, -⟩ := ckY_n hck
  have HR : Hid (eds5 ms cs right = edMs ms n ++ edCs cs right m) := by
    have : eds5 ms cs right = edMs ms n ++ edCs cs right m := by unfold eds5; rw [hml, hcl]
    exact Lib.hid this
  clear HF HM HC hck hml hcl
  obtain ⟨F, hF⟩ : ∃ F, eds5 ms cs right = F := ⟨_, rfl⟩
  rw [hF] at HR ⊢
  clear hF
  go_enter Try.func52, Try.ntmps52
  go_upto_region 1 with (fail)
  go_name_world X hX
  have BX := Lib.hid (al1 hX).1
  have zX := (al1 hX).2
  have HY0 : Hid (Blk X w.heap.size 51 #[.slice A n c, .slice B m d, .int .i64 wr]) := by rw [← hX]; exact Lib.hid (Blk.new w _ _)
  have q0 := HY0.out.cell
  have l0 := HY0.out.lt
  clear hX
  have own0 : Hid (X.ownsRow X.heap.size 123 4 (.slice none 0 0) (2 * 0) ((edMs ms 0).flatMap encE5)) := Lib.hid (World.ownsRow_nil X X.heap.size _ _)
  go_wp2_with fail
  clear q0 l0
  go_loopw [5, 13] (fun v i (wv : World) => ∃ k : Nat, k ≤ n ∧ i = .int .i64 k ∧ Hid (wv.ownsRow X.heap.size 123 4 v (2 * k) ((edMs ms k).flatMap encE5)) ∧ Below X.heap.size X wv) (fun _ i _ => n - (intOf i).toNat)
  case atStart => exact ⟨0, by omega, rfl, own0, Below.refl _ _⟩
  case round =>
    obtain ⟨k, hk, rfl, HO, hb⟩ := hrel
    obtain ⟨A3, c3, rfl, -, -⟩ := SlAt.of_own (d := (⟨0, 0, 0, 0⟩ : Ed5)) encE5_len HO.out (edMs_len k)
    have zb := hb.size
    have HYr := HY0.out.below hb (by omega)
    have q0 := HYr.cell
    have l0 := HYr.lt
    by_cases hlt : k < n
    · have hqB : decide ((k : Int) < n) = true := by simp; omega
      obtain ⟨b0, o0, rfl, hb0, x0, x1⟩ := (HMI.out.later (BX.out.trans (hb.mono (by omega)))).get hlt
      have hbd := HKM.out k hlt
      have hneg : IntKind.i64.wrap (-(spAt ms k).lo) = -(spAt ms k).lo := IntWalk.i64_in _ (by omega)
      clear HYr hbd
      go_wp2_with (at_builtin; go_must (refine wpList_append_T _ (d := (⟨0, 0, 0, 0⟩ : Ed5)) rfl (.tmp 18) (.tmp 30) _ rfl X.heap.size _ 4 32 egE encE5_len encE5_one (.slice A3 (2 * k) c3) _ (2 * k) (edMs ms k) rfl rfl ?_ _ 2 _ (edM ms k) rfl ?_ ?_ ?_ ?_; (exact own_below HO.out (by (repeat first | with_reducible assumption | with_reducible exact Below.refl _ _ | (with_reducible refine Below.alloc ?_ ?side _; case side => (first | omega | (with_reducible exact Below.size (by assumption)) | (simp; done) | (simp; omega))) | (with_reducible refine Below.setCell ?_ ?side _; case side => (first | omega | (with_reducible exact Below.size (by assumption)) | (simp; done) | (simp; omega))) | with_reducible refine Below.drew ?_ | with_reducible refine below_drewN ?_ _ | (with_reducible refine below_step (by assumption) ?side ?_; case side => (first | omega | (with_reducible exact Below.size (by assumption)) | (simp; done) | (simp; omega)))))); (exact sl_new encE5_len (by simp only [World.size_alloc]) rfl rfl); (focus omega); (focus (simp only [World.size_alloc]; omega)); (intro v' w6 hown6 hg6 hat6; have hb6 : Below X.heap.size X w6 := (Below.grown (by (repeat first | with_reducible assumption | with_reducible exact Below.refl _ _ | (with_reducible refine Below.alloc ?_ ?side _; case side => (first | omega | (with_reducible exact Below.size (by assumption)) | (simp; done) | (simp; omega))) | (with_reducible refine Below.setCell ?_ ?side _; case side => (first | omega | (with_reducible exact Below.size (by assumption)) | (simp; done) | (simp; omega))) | with_reducible refine Below.drew ?_ | with_reducible refine below_drewN ?_ _ | (with_reducible refine below_step (by assumption) ?side ?_; case side => (first | omega | (with_reducible exact Below.size (by assumption)) | (simp; done) | (simp; omega))))) hg6 (by simp only [World.size_alloc]; omega) (own_ge HO.out)); have HP := Lib.hid hown6; clear hown6 hg6 hat6)))
      go_roundw
      case rel => exact ⟨k + 1, by omega, by go_num, by rw [edMs_succ, show 2 * (k + 1) = 2 * k + 2 by omega]; exact HP, hb6⟩
      case measure => simp [intOf]; omega
    · obtain rfl : k = n := by omega
      have hqB : decide (((k : Nat) : Int) < k) = false := by simp
      clear HYr
      go_wp2_with fail
      clear q0 l0 hqB hk hlt
      go_loopw [5, 36] (fun v i (wv : World) => ∃ j : Nat, j ≤ m ∧ i = .int .i64 j ∧ Hid (wv.ownsRow X.heap.size 123 4 v (2 * k + (edCs cs right j).length) ((edMs ms k ++ edCs cs right j).flatMap encE5)) ∧ Below X.heap.size X wv) (fun _ i _ => m - (intOf i).toNat)
      case atStart => exact ⟨0, by omega, rfl, by simpa [edCs] using HO, hb⟩
      case round =>
        obtain ⟨j, hj, rfl, HO2, hbj⟩ := hrel
        clear HO hb zb
        have hlj := edCs_len (cs := cs) (right := right) j
        obtain ⟨A4, c4, rfl, -, -⟩ := SlAt.of_own (d := (⟨0, 0, 0, 0⟩ : Ed5)) encE5_len HO2.out (by rw [List.length_append, edMs_len])
        have zb := hbj.size
        have HYr := HY0.out.below hbj (by omega)
        have q0 := HYr.cell
        have l0 := HYr.lt
        clear HYr
        by_cases hlt : j < m
        · have hqB : decide ((j : Int) < m) = true := by simp; omega
          have hbw := BX.out.trans (hbj.mono (by omega))
          obtain ⟨b0, o0, rfl, hb0, x0, x1, x2, x3⟩ := (HCI.out.later hbw).get hlt
          have hbd := HKC.out j hlt
          have hneg : IntKind.i64.wrap (-(cmAt cs j).lo) = -(cmAt cs j).lo := IntWalk.i64_in _ (by omega)
          have hsc := edCs_succ (cs := cs) (right := right) (k := j)
          cases hr : right j
          · rw [hr, if_neg (by simp), List.append_nil] at hsc
            have HSC := Lib.hid hsc
            have HC2 := Lib.hid (fun V (hV : Below w.heap.size w V) => by have := HFI.out j hlt V hV; rw [hr] at this; exact this)
            clear hsc hbd hr hneg
            go_wp2_with fail
            refine (HC2.out _ (by (repeat first | with_reducible assumption | with_reducible exact Below.refl _ _ | (with_reducible refine Below.alloc ?_ ?side _; case side => (first | omega | (with_reducible exact Below.size (by assumption)) | (simp; done) | (simp; omega))) | (with_reducible refine Below.setCell ?_ ?side _; case side => (first | omega | (with_reducible exact Below.size (by assumption)) | (simp; done) | (simp; omega))) | with_reducible refine Below.drew ?_ | with_reducible refine below_drewN ?_ _ | (with_reducible refine below_step (by assumption) ?side ?_; case side => (first | omega | (with_reducible exact Below.size (by assumption)) | (simp; done) | (simp; omega)))))).mono ?_
            rintro e w5 ⟨rfl, hb5⟩
            have hb6 : Below X.heap.size X w5 := Below.trans (b := (wr.alloc (.cells #[.int .i64 (cmAt cs j).a, .int .i64 (cmAt cs j).b, .int .i64 (cmAt cs j).lo, .int .i64 (cmAt cs j).hi] 48))) (by (repeat first | with_reducible assumption | with_reducible exact Below.refl _ _ | (with_reducible refine Below.alloc ?_ ?side _; case side => (first | omega | (with_reducible exact Below.size (by assumption)) | (simp; done) | (simp; omega))) | (with_reducible refine Below.setCell ?_ ?side _; case side => (first | omega | (with_reducible exact Below.size (by assumption)) | (simp; done) | (simp; omega))) | with_reducible refine Below.drew ?_ | with_reducible refine below_drewN ?_ _ | (with_reducible refine below_step (by assumption) ?side ?_; case side => (first | omega | (with_reducible exact Below.size (by assumption)) | (simp; done) | (simp; omega))))) (hb5.mono (by simp only [World.size_alloc]; omega))
            have HP := Lib.hid (own_below (own_below HO2.out (Below.alloc (Below.refl _ _) (Nat.le_refl _) _)) hb5)
            clear hb5
            go_wp2_with fail
            go_roundw
            case rel => exact ⟨j + 1, by omega, by go_num, by rw [HSC.out]; exact HP, hb6⟩
            case measure => simp [intOf]; omega
          · rw [hr, if_pos rfl] at hsc
            have HSC := Lib.hid hsc
            have HC2 := Lib.hid (fun V (hV : Below w.heap.size w V) => by have := HFI.out j hlt V hV; rw [hr] at this; exact this)
            clear hsc hbd hr
            go_wp2_with fail
            refine (HC2.out _ (by (repeat first | with_reducible assumption | with_reducible exact Below.refl _ _ | (with_reducible refine Below.alloc ?_ ?side _; case side => (first | omega | (with_reducible exact Below.size (by assumption)) | (simp; done) | (simp; omega))) | (with_reducible refine Below.setCell ?_ ?side _; case side => (first | omega | (with_reducible exact Below.size (by assumption)) | (simp; done) | (simp; omega))) | with_reducible refine Below.drew ?_ | with_reducible refine below_drewN ?_ _ | (with_reducible refine below_step (by assumption) ?side ?_; case side => (first | omega | (with_reducible exact Below.size (by assumption)) | (simp; done) | (simp; omega)))))).mono ?_
            rintro e w5 ⟨rfl, hb5⟩
            have hb6 : Below X.heap.size X w5 := Below.trans (b := (wr.alloc (.cells #[.int .i64 (cmAt cs j).a, .int .i64 (cmAt cs j).b, .int .i64 (cmAt cs j).lo, .int .i64 (cmAt cs j).hi] 48))) (by (repeat first | with_reducible assumption | with_reducible exact Below.refl _ _ | (with_reducible refine Below.alloc ?_ ?side _; case side => (first | omega | (with_reducible exact Below.size (by assumption)) | (simp; done) | (simp; omega))) | (with_reducible refine Below.setCell ?_ ?side _; case side => (first | omega | (with_reducible exact Below.size (by assumption)) | (simp; done) | (simp; omega))) | with_reducible refine Below.drew ?_ | with_reducible refine below_drewN ?_ _ | (with_reducible refine below_step (by assumption) ?side ?_; case side => (first | omega | (with_reducible exact Below.size (by assumption)) | (simp; done) | (simp; omega))))) (hb5.mono (by simp only [World.size_alloc]; omega))
            have k5 := (Blk.new wr 48 #[.int .i64 (cmAt cs j).a, .int .i64 (cmAt cs j).b, .int .i64 (cmAt cs j).lo, .int .i64 (cmAt cs j).hi]).below hb5 (by simp only [World.size_alloc]; omega)
            have q5 := k5.cell
            have l5 := k5.lt
            have HP5 := Lib.hid (own_below (own_below HO2.out (Below.alloc (Below.refl _ _) (Nat.le_refl _) _)) hb5)
            have zb6 := hb6.size
            clear hb5 q0 x0 x1 x2 x3 l0 hb0 k5
            go_wp2_with (at_builtin; go_must (refine wpList_append_T _ (d := (⟨0, 0, 0, 0⟩ : Ed5)) rfl (.tmp 44) (.tmp 64) _ rfl X.heap.size _ 4 32 egE encE5_len encE5_one (.slice A4 (2 * k + (edCs cs right j).length) c4) _ (2 * k + (edCs cs right j).length) (edMs ms k ++ edCs cs right j) rfl rfl ?_ _ 2 _ (edC cs j) rfl ?_ ?_ ?_ ?_; (exact own_below HP5.out (by (repeat first | with_reducible assumption | with_reducible exact Below.refl _ _ | (with_reducible refine Below.alloc ?_ ?side _; case side => (first | omega | (with_reducible exact Below.size (by assumption)) | (simp; done) | (simp; omega))) | (with_reducible refine Below.setCell ?_ ?side _; case side => (first | omega | (with_reducible exact Below.size (by assumption)) | (simp; done) | (simp; omega))) | with_reducible refine Below.drew ?_ | with_reducible refine below_drewN ?_ _ | (with_reducible refine below_step (by assumption) ?side ?_; case side => (first | omega | (with_reducible exact Below.size (by assumption)) | (simp; done) | (simp; omega)))))); (exact sl_new encE5_len (by simp only [World.size_alloc]) rfl rfl); (focus omega); (focus (simp only [World.size_alloc]; omega)); (intro v' w6 hown6 hg6 hat6; have hb7 : Below X.heap.size X w6 := (Below.grown (by (repeat first | with_reducible assumption | with_reducible exact Below.refl _ _ | (with_reducible refine Below.alloc ?_ ?side _; case side => (first | omega | (with_reducible exact Below.size (by assumption)) | (simp; done) | (simp; omega))) | (with_reducible refine Below.setCell ?_ ?side _; case side => (first | omega | (with_reducible exact Below.size (by assumption)) | (simp; done) | (simp; omega))) | with_reducible refine Below.drew ?_ | with_reducible refine below_drewN ?_ _ | (with_reducible refine below_step (by assumption) ?side ?_; case side => (first | omega | (with_reducible exact Below.size (by assumption)) | (simp; done) | (simp; omega))))) hg6 (by simp only [World.size_alloc]; omega) (own_ge HP5.out)); have HP := Lib.hid hown6; clear hown6 hg6 hat6)))
            go_roundw
            case rel => exact ⟨j + 1, by omega, by go_num, by rw [HSC.out, ← List.append_assoc, List.length_append, ← Nat.add_assoc]; exact HP, hb7⟩
            case measure => simp [intOf]; omega
        · obtain rfl : j = m := by omega
          have hqB : decide (((j : Nat) : Int) < j) = false := by simp
          obtain ⟨A5, c5, hA5, -, hsl⟩ := SlAt.of_own (d := (⟨0, 0, 0, 0⟩ : Ed5)) encE5_len HO2.out (by rw [List.length_append, edMs_len])
          have HS := Lib.hid (show EdsAt wr A5 _ _ from hsl)
          have hlF : F.length = 2 * k + (edCs cs right j).length := by rw [HR.out, List.length_append, edMs_len]
          have HLF := Lib.hid hlF
          cases hA5
          clear hsl hlF
          go_wp2_with fail
          go_ret
          exact ⟨A4, c4, by rw [HLF.out]; rfl, by rw [HLF.out, HR.out]; exact HS.out, BX.out.trans (hbj.mono (by omega))⟩

end Go.Proofs.Ytcinhibmohkeiaa
