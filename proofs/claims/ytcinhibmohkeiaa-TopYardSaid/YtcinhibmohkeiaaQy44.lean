/- compared of TopYard: the examples of the layers 3 and 5; Sure of checks (layer 5), where no comparison is wrong in a truth. -/
import Derived.Test.YtcinhibmohkeiaaQy15
import Derived.Test.YtcinhibmohkeiaaQy39
import Derived.Test.YtcinhibmohkeiaaQy42
import Derived.Test.YtcinhibmohkeiaaQy41
import Derived.Shelf.Abstract
import Derived.Laws.EntriesVeiled
import Derived.Handy
import Derived.Deep.DrawnRows
import Derived.Deep.DeepCutAuto
import Derived.Test.YtcinhibmohkeiaaQy43
import Derived.BigRegionIn
import Derived.Shelf.RegionOpen
namespace Go.Proofs.Ytcinhibmohkeiaa
open Go.RowKit
open Go.Sort (grow)
set_option linter.unusedVariables false
set_option linter.unusedSimpArgs false

theorem ex3_ckM : ckM 2 1 20 1 2 0 exLv3 exBl3 = true := by decide +kernel
theorem ex5_tr : (trsY 3 4 exM5 exC5 1).isEmpty = false := by decide +kernel
theorem ex5_df : dfR (trT 3 exM5 exC5) 1 3 (trsY 3 4 exM5 exC5 1) = ⟨8, 9⟩ := by
  have h : (dfR (trT 3 exM5 exC5) 1 3 (trsY 3 4 exM5 exC5 1)).lo = 8 ∧ (dfR (trT 3 exM5 exC5) 1 3 (trsY 3 4 exM5 exC5 1)).hi = 9 := by decide +kernel
  generalize dfR (trT 3 exM5 exC5) 1 3 (trsY 3 4 exM5 exC5 1) = x at h
  obtain ⟨a, b⟩ := x
  obtain ⟨rfl, rfl⟩ := h
  rfl
set_option maxRecDepth 100000 in
set_option maxHeartbeats 1600000 in
theorem compared_c (w : World) : Calls Try.prog 8 #[] w fun e w' => e = .returned (.bool true) ∧ Below w.heap.size w w' := by
  have HE3 := Lib.hid (fun V => Example3_c V)
  have HE5 := Lib.hid (fun V => Example5_c V)
  have HOW : Hid (∀ Al Ab V, LvsAt V Al 2 exLv3 → BasAt V Ab 1 exBl3 → Calls Try.prog 9 #[.agg #[.slice Al 2 2, .int .i64 20, .int .i64 1, .int .i64 2, .slice Ab 1 1, .int .i64 0], .int .i64 30, .int .i64 0, .int .i64 5000] V fun e w' => e = .returned (.tuple #[.agg #[.int .i64 (-91), .int .i64 0], .int .i64 0]) ∧ Below V.heap.size V w') := Lib.hid (fun Al Ab V h1 h2 => Own_c Al 2 2 20 1 2 Ab 1 1 0 exLv3 exBl3 30 0 5000 4545 5000 V (by omega) (by omega) h1 h2 ex3_ckM (by omega) ex3_ld.1 ex3_ld.2.1 ex3_ld.2.2 (by omega) (by omega))
  have HER : Hid (∀ A B V, SpsAt V A 3 exM5 → CmsAt V B 4 exC5 → Calls Try.prog 13 #[.agg #[.slice A 3 3, .slice B 4 4, .int .i64 1], .int .i64 1] V fun e w' => e = .returned (.tuple #[.agg #[.int .i64 8, .int .i64 9], .int .i64 0]) ∧ Below V.heap.size V w') := Lib.hid (fun A B V h1 h2 => by
    have := Errors_c A 3 3 B 4 4 1 exM5 exC5 1 V (by omega) h1 h2 ex5_ck ex5_tr
    rw [ex5_df] at this
    exact this)
  have HMN := Lib.hid (fun Al Ab V h1 h2 => Many_ex3 Al Ab V h1 h2)
  go_enter Try.func8, Try.ntmps8
  go_upto_region 2 with (first | (go_at_call 19; refine (HE3.out _).mono ?_; rintro e v1 ⟨Al, Ab, rfl, h1, h2, hb1⟩; have H1 := Lib.hid h1; have H2 := Lib.hid h2; have B1 := Lib.hid hb1; clear h1 h2 hb1) | (go_at_call 9; refine (HOW.out Al Ab _ H1.out H2.out).mono ?_; rintro e v2 ⟨rfl, hb2⟩; have B2 := Lib.hid (B1.out.trans (hb2.mono B1.out.size)); clear hb2))
  go_name_world X hX
  have BX := Lib.hid (B2.out.trans ((al1 hX).1.mono B2.out.size))
  have HS1 : Hid (Blk X v2.heap.size 24 #[.int .i64 (-91), .int .i64 0]) := by rw [← hX]; exact Lib.hid (Blk.new v2 _ _)
  obtain ⟨g1, hg1⟩ : ∃ g, v2.heap.size = g := ⟨_, rfl⟩
  rw [hg1] at HS1 ⊢
  clear hX hg1
  go_upto_region 3 with (first | (go_at_call 20; refine (HE5.out _).mono ?_; rintro e v3 ⟨A5, B5, rfl, h1, h2, hb1⟩; have K1 := Lib.hid h1; have K2 := Lib.hid h2; have B3 := Lib.hid (BX.out.trans (hb1.mono BX.out.size)); have HS3 := Lib.hid (HS1.out.below hb1 HS1.out.lt); clear h1 h2 hb1) | (go_at_call 13; refine (HER.out A5 B5 _ K1.out K2.out).mono ?_; rintro e v4 ⟨rfl, hb2⟩; have B4 := Lib.hid (B3.out.trans (hb2.mono B3.out.size)); have HS4 := Lib.hid (HS3.out.below hb2 HS3.out.lt); clear hb2))
  go_name_world Y hY
  have BY := Lib.hid (B4.out.trans ((al1 hY).1.mono B4.out.size))
  have HS5 : Hid (Blk Y g1 24 #[.int .i64 (-91), .int .i64 0]) := by rw [← hY]; exact Lib.hid (HS4.out.alloc _)
  have HT5 : Hid (Blk Y v4.heap.size 24 #[.int .i64 8, .int .i64 9]) := by rw [← hY]; exact Lib.hid (Blk.new v4 _ _)
  obtain ⟨g2, hg2⟩ : ∃ g, v4.heap.size = g := ⟨_, rfl⟩
  rw [hg2] at HT5 ⊢
  clear hY hg2
  go_wp2_with (first | (go_at_call 19; refine (HE3.out _).mono ?_; rintro e v6 ⟨Al6, Ab6, rfl, h1, h2, hb1⟩; have L1 := Lib.hid h1; have L2 := Lib.hid h2; have B6 := Lib.hid (BY.out.trans (hb1.mono BY.out.size)); have HS6 := Lib.hid (HS5.out.below hb1 HS5.out.lt); have HT6 := Lib.hid (HT5.out.below hb1 HT5.out.lt); clear h1 h2 hb1) | (go_at_call 21; refine (HMN.out Al6 Ab6 _ L1.out L2.out).mono ?_; rintro e v7 ⟨rfl, hb2⟩; have B7 := Lib.hid (B6.out.trans (hb2.mono B6.out.size)); have HS7 := Lib.hid (HS6.out.below hb2 HS6.out.lt); have HT7 := Lib.hid (HT6.out.below hb2 HT6.out.lt); have cs7 := HS7.out.cell; have ls7 := HS7.out.lt; have ct7 := HT7.out.cell; have lt7 := HT7.out.lt; clear hb2))
  go_ret
  exact ⟨rfl, B7.out⟩

end Go.Proofs.Ytcinhibmohkeiaa

namespace Go.Proofs.Ytcinhibmohkeiaa
open Go.RowKit
open Go.Sort (grow)
set_option linter.unusedVariables false
set_option linter.unusedSimpArgs false

theorem intE5 : ElemT Try.prog 28 3 1 8 := by
  obtain ⟨i0, hi0, hz0, hz1, hz2⟩ := info_parts (P := Try.prog) (show (Try.prog.info? 3).map (fun i => (i.zero, i.size, i.bytes)) = some (some (.int .i64 0), 1, 8) by kernel_rfl)
  exact ⟨Try.underlying28, ⟨i0, _, hi0, hz0, hz1, hz2, rfl⟩, by omega, by omega⟩
def rgI (k : Nat) : List Int := (List.range k).map fun (i : Nat) => (i : Int)
theorem rgI_succ {k : Nat} : rgI (k + 1) = rgI k ++ [(k : Int)] := by unfold rgI; rw [List.range_succ, List.map_append]; rfl
theorem rgI_len {k : Nat} : (rgI k).length = k := by unfold rgI; simp
set_option maxRecDepth 100000 in
set_option maxHeartbeats 3200000 in
theorem some_c (A : Option Addr) (n c : Nat) (B : Option Addr) (m d : Nat) (wr : Int) (ms : List Sp) (cs : List Cm5) (w : World) (HM : SpsAt w A n ms) (HC : CmsAt w B m cs) (hck : ckY n m ms cs wr = true) (hne : (trsY n m ms cs wr).isEmpty = false) (hno : ∀ i, i < m → ∀ s ∈ trsY n m ms cs wr, s.testBit i = false) :
    Calls Try.prog 33 #[.agg #[.slice A n c, .slice B m d, .int .i64 wr], .bool false] w fun e w' => ∃ L c', e = .returned (.tuple #[.slice L m c', .int .i64 0]) ∧ IntsAt w' L m (rgI m) ∧ Below w.heap.size w w' := by
  obtain ⟨hn5, hm8, -, -⟩ := ckY_n hck
  have HAS : Hid (∀ V, Below w.heap.size w V → Calls Try.prog 30 #[.agg #[.slice A n c, .slice B m d, .int .i64 wr], .bool true] V fun e w' => e = .returned (.int .i64 0) ∧ Below V.heap.size V w') := Lib.hid (fun V hV => by
    have := ask5_c A n c B m d wr ms cs true V (by omega) (by omega) (HM.later hV) (HC.later hV) hck rfl
    rwa [hne] at this)
  have HCN := Lib.hid (fun (i : Nat) (hi : i < m) V (hV : Below w.heap.size w V) => can5_c A n c B m d wr ms cs i hi V (HM.later hV) (HC.later hV) hck (hno i hi))
  clear HM HC hck hne hno
  go_enter Try.func33, Try.ntmps33
  go_upto_region 1 with (fail)
  go_name_world X hX
  have BX := Lib.hid (al1 hX).1
  have HY0 : Hid (Blk X w.heap.size 51 #[.slice A n c, .slice B m d, .int .i64 wr]) := by rw [← hX]; exact Lib.hid (Blk.new w _ _)
  have zX := (al1 hX).2
  have q0 := HY0.out.cell
  have l0 := HY0.out.lt
  clear hX
  go_wp2_with (go_at_call 30; refine (HAS.out _ BX.out).mono ?_; rintro e w1 ⟨rfl, hb1⟩; have HY1 := Lib.hid (HY0.out.below hb1 HY0.out.lt); have q1 := HY1.out.cell; have l1 := HY1.out.lt; have HB1 := Lib.hid hb1; have z1 := hb1.size; clear hb1 q0 l0)
  have own0 : Hid (w1.ownsRow X.heap.size 3 1 (.slice none 0 0) 0 ((rgI 0).flatMap encI)) := Lib.hid (World.ownsRow_nil w1 X.heap.size _ _)
  clear q1 l1
  go_loopw [7, 17] (fun v i (wv : World) => ∃ k : Nat, k ≤ m ∧ i = .int .i64 k ∧ Hid (wv.ownsRow X.heap.size 3 1 v k ((rgI k).flatMap encI)) ∧ Below X.heap.size X wv) (fun _ i _ => m - (intOf i).toNat)
  case atStart => exact ⟨0, by omega, rfl, own0, HB1.out⟩
  case round =>
    obtain ⟨k, hk, rfl, HO, hb⟩ := hrel
    obtain ⟨A3, c3, rfl, -, hsl⟩ := SlAt.of_own (d := (0 : Int)) encI_len HO.out rgI_len
    have zb := hb.size
    have HYr := Lib.hid (HY0.out.below hb (by omega))
    have q2 := HYr.out.cell
    have l2 := HYr.out.lt
    have hbw := BX.out.trans (hb.mono (by omega))
    by_cases hlt : k < m
    · have hqB : decide ((k : Int) < m) = true := by simp; omega
      have vk : IntKind.i64.wrap ((k : Int) + 1) = (k : Int) + 1 := IntWalk.i64_in _ (by omega)
      clear hsl
      go_wp2_with (first | (go_at_call 55; refine (HCN.out k hlt _ hbw).mono ?_; rintro e w5 ⟨rfl, hb5⟩; have HO5 := Lib.hid (own_below HO.out hb5); have z5 := hb5.size; have B5 := hb.trans (hb5.mono zb); clear hb5) | (at_builtin; go_must (refine wpList_append_T _ (d := (0 : Int)) rfl (.tmp 25) (.tmp 27) _ rfl X.heap.size _ 1 8 intE5 encI_len encI_one (.slice A3 k c3) _ k (rgI k) rfl rfl ?_ _ 1 _ [(k : Int)] rfl ?_ ?_ ?_ ?_; (exact own_below HO5.out (by (repeat first | with_reducible assumption | with_reducible exact Below.refl _ _ | (with_reducible refine Below.alloc ?_ ?side _; case side => (first | omega | (with_reducible exact Below.size (by assumption)) | (simp; done) | (simp; omega))) | (with_reducible refine Below.setCell ?_ ?side _; case side => (first | omega | (with_reducible exact Below.size (by assumption)) | (simp; done) | (simp; omega))) | with_reducible refine Below.drew ?_ | with_reducible refine below_drewN ?_ _ | (with_reducible refine below_step (by assumption) ?side ?_; case side => (first | omega | (with_reducible exact Below.size (by assumption)) | (simp; done) | (simp; omega)))))); (exact sl_new encI_len rfl rfl rfl); (focus omega); (focus (simp only [World.size_alloc]; omega)); (intro v' w6 hown6 hg6 hat6; have hb6 : Below X.heap.size X w6 := (Below.grown (by (repeat first | with_reducible assumption | with_reducible exact Below.refl _ _ | (with_reducible refine Below.alloc ?_ ?side _; case side => (first | omega | (with_reducible exact Below.size (by assumption)) | (simp; done) | (simp; omega))) | (with_reducible refine Below.setCell ?_ ?side _; case side => (first | omega | (with_reducible exact Below.size (by assumption)) | (simp; done) | (simp; omega))) | with_reducible refine Below.drew ?_ | with_reducible refine below_drewN ?_ _ | (with_reducible refine below_step (by assumption) ?side ?_; case side => (first | omega | (with_reducible exact Below.size (by assumption)) | (simp; done) | (simp; omega))))) hg6 (by simp only [World.size_alloc]; omega) (own_ge HO5.out)); have HP := Lib.hid hown6; clear hown6 hg6 hat6))))
      go_roundw
      case rel => exact ⟨k + 1, by omega, by go_num, by rw [rgI_succ]; exact HP, hb6⟩
      case measure => simp [intOf]; omega
    · obtain rfl : k = m := by omega
      have hqB : decide (((k : Nat) : Int) < k) = false := by simp
      have HS := Lib.hid (ints_iff.2 hsl)
      clear hsl
      go_wp2_with fail
      refine bodyPost_ret (v := .tuple #[.slice A3 k c3, .int .i64 0]) (by simp [results, Try.results33, go_sem]) rfl ⟨A3, c3, rfl, HS.out, hbw⟩
set_option maxHeartbeats 800000 in
theorem Sure_c (A : Option Addr) (n c : Nat) (B : Option Addr) (m d : Nat) (wr : Int) (ms : List Sp) (cs : List Cm5) (w : World) (HM : SpsAt w A n ms) (HC : CmsAt w B m cs) (hck : ckY n m ms cs wr = true) (hne : (trsY n m ms cs wr).isEmpty = false) (hno : ∀ i, i < m → ∀ s ∈ trsY n m ms cs wr, s.testBit i = false) :
    Calls Try.prog 15 #[.agg #[.slice A n c, .slice B m d, .int .i64 wr]] w fun e w' => ∃ L c', e = .returned (.tuple #[.slice L m c', .int .i64 0]) ∧ IntsAt w' L m (rgI m) ∧ Below w.heap.size w w' := by
  have HSO := Lib.hid (fun V (hV : Below w.heap.size w V) => some_c A n c B m d wr ms cs V (HM.later hV) (HC.later hV) hck hne hno)
  clear HM HC hck hne hno
  go_enter Try.func15, Try.ntmps15
  go_upto_region 1 with (fail)
  go_name_world X hX
  have BX := Lib.hid (al1 hX).1
  have HY0 : Hid (Blk X w.heap.size 51 #[.slice A n c, .slice B m d, .int .i64 wr]) := by rw [← hX]; exact Lib.hid (Blk.new w _ _)
  have zX := (al1 hX).2
  have q0 := HY0.out.cell
  have l0 := HY0.out.lt
  clear hX
  go_wp2_with (go_at_call 33; refine (HSO.out _ BX.out).mono ?_; rintro e w1 ⟨L, c', rfl, hl, hb1⟩; have HL := Lib.hid hl; have HB1 := Lib.hid hb1; clear hl hb1)
  exact bodyPost_ret (v := .tuple #[.slice L m c', .int .i64 0]) (by simp [results, Try.results15, go_sem]) rfl ⟨L, c', rfl, HL.out, BX.out.trans (HB1.out.mono (by omega))⟩

end Go.Proofs.Ytcinhibmohkeiaa
