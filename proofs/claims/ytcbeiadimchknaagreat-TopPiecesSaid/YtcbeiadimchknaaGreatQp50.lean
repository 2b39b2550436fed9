/- TopPieces walked: for every input it returns true. -/
import Derived.Test.YtcbeiadimchknaaGreatQp47
import Derived.Test.YtcbeiadimchknaaGreatQp08
import Derived.Test.YtcbeiadimchknaaGreatQp49
import Derived.Shelf.Abstract
import Derived.Laws.EntriesVeiled
import Derived.Handy
import Derived.Deep.DrawnRows
import Derived.Deep.DeepCutAuto
import Derived.BigRegionIn
import Derived.Shelf.RegionOpen
import Derived.Deep.RegionHeld3
namespace Go.Proofs.YtcbeiadimchknaaGreat
open Go.RowKit
open Go.Sort (grow)
set_option linter.unusedVariables false
set_option linter.unusedSimpArgs false

set_option maxRecDepth 100000 in
set_option maxHeartbeats 6400000 in
theorem toppieces_c (A : Option Addr) (n c : Nat) (q : Cb) (ls : List Sp) (shl : Int) (w : World) (hq : CbOk q) (HC : SpsAt w A n ls) :
    Calls Tryz.prog 3 #[.agg #[.slice A n c, .int .i64 q.need, .int .i64 q.gap, .int .i64 q.doubt, .int .i64 q.joins, .int .i64 q.least], .int .i64 shl] w fun e w' => e = .returned (.bool true) ∧ Below w.heap.size w w' := by
  have HF70 := fun V (hV : Below w.heap.size w V) => Far_c_q7 A n c q ls V (HC.later hV)
  cases hf7 : farC n ls q
  case true =>
    rw [hf7] at HF70
    have HF7 := Lib.hid HF70
    clear HF70 hf7 HC hq
    go_enter Tryz.func3, Tryz.ntmps3
    go_upto_region 1 with (fail)
    go_name_world X hX
    have B0 : Hid (Below w.heap.size w X) := Lib.hid (al1 hX).1
    have HP0 : Hid (Blk X w.heap.size 24 #[Value.slice A n c, .int .i64 q.need, .int .i64 q.gap, .int .i64 q.doubt, .int .i64 q.joins, .int .i64 q.least]) := by rw [← hX]; exact Lib.hid (Blk.new w _ _)
    have q0 := HP0.out.cell
    have l0 := HP0.out.lt
    clear hX
    go_wp2_with (first | (go_at_call 5; (with_reducible refine (HF7.out X B0.out).mono ?_); (rintro e v1 ⟨rfl, hb⟩); (have HP1 := Lib.hid (HP0.out.below hb HP0.out.lt)); (have q1 := HP1.out.cell); (have l1 := HP1.out.lt); (have B1 := Lib.hid (B0.out.trans (hb.mono B0.out.size))); clear hb q0 l0) | (go_at_call 7; (refine (served_c _).mono ?_); (rintro e v99 ⟨rfl, hb⟩); (have B99 := Lib.hid (B1.out.trans (hb.mono B1.out.size))); clear hb))
    go_ret
    exact ⟨rfl, B99.out⟩
  case false =>
    rw [hf7] at HF70
    have HF7 := Lib.hid HF70
    have hn40 : n ≤ 40 := by
      simp only [farC, Bool.or_eq_false_iff, decide_eq_false_iff_not] at hf7
      omega
    have HK70 := fun V (hV : Below w.heap.size w V) => refCheck_c_q7 A n c q ls V hn40 (HC.later hV)
    clear HF70
    cases hc7 : ckC n ls q
    case false =>
      rw [hc7] at HK70
      have HK7 : Hid (∀ V, Below w.heap.size w V → Calls Tryz.prog 6 #[.agg #[.slice A n c, .int .i64 q.need, .int .i64 q.gap, .int .i64 q.doubt, .int .i64 q.joins, .int .i64 q.least]] V fun e w' => e = .returned (.int .i64 70) ∧ Below V.heap.size V w') := Lib.hid (fun V hV => HK70 V hV)
      clear HK70 hf7 hc7 HC hq
      go_enter Tryz.func3, Tryz.ntmps3
      go_upto_region 1 with (fail)
      go_name_world X hX
      have B0 : Hid (Below w.heap.size w X) := Lib.hid (al1 hX).1
      have HP0 : Hid (Blk X w.heap.size 24 #[Value.slice A n c, .int .i64 q.need, .int .i64 q.gap, .int .i64 q.doubt, .int .i64 q.joins, .int .i64 q.least]) := by rw [← hX]; exact Lib.hid (Blk.new w _ _)
      have q0 := HP0.out.cell
      have l0 := HP0.out.lt
      clear hX
      go_wp2_with (first | (go_at_call 5; (with_reducible refine (HF7.out X B0.out).mono ?_); (rintro e v1 ⟨rfl, hb⟩); (have HP1 := Lib.hid (HP0.out.below hb HP0.out.lt)); (have q1 := HP1.out.cell); (have l1 := HP1.out.lt); (have B1 := Lib.hid (B0.out.trans (hb.mono B0.out.size))); clear hb q0 l0) | (go_at_call 6; (with_reducible refine (HK7.out v1 B1.out).mono ?_); (rintro e v2 ⟨rfl, hb⟩); (have HP2 := Lib.hid (HP1.out.below hb HP1.out.lt)); (have q2 := HP2.out.cell); (have l2 := HP2.out.lt); (have B2 := Lib.hid (B1.out.trans (hb.mono B1.out.size))); clear hb q1 l1) | (go_at_call 7; (refine (served_c _).mono ?_); (rintro e v99 ⟨rfl, hb⟩); (have B99 := Lib.hid (B2.out.trans (hb.mono B2.out.size))); clear hb))
      go_ret
      exact ⟨rfl, B99.out⟩
    case true =>
      rw [hc7] at HK70
      have HK7 : Hid (∀ V, Below w.heap.size w V → Calls Tryz.prog 6 #[.agg #[.slice A n c, .int .i64 q.need, .int .i64 q.gap, .int .i64 q.doubt, .int .i64 q.joins, .int .i64 q.least]] V fun e w' => e = .returned (.int .i64 0) ∧ Below V.heap.size V w') := Lib.hid (fun V hV => HK70 V hV)
      clear HK70
      by_cases g1 : shl < 0
      · have gB : decide (shl < 0) = true := decide_eq_true g1
        clear hf7 hc7 HC hq
        go_enter Tryz.func3, Tryz.ntmps3
        go_upto_region 1 with (fail)
        go_name_world X hX
        have B0 : Hid (Below w.heap.size w X) := Lib.hid (al1 hX).1
        have HP0 : Hid (Blk X w.heap.size 24 #[Value.slice A n c, .int .i64 q.need, .int .i64 q.gap, .int .i64 q.doubt, .int .i64 q.joins, .int .i64 q.least]) := by rw [← hX]; exact Lib.hid (Blk.new w _ _)
        have q0 := HP0.out.cell
        have l0 := HP0.out.lt
        clear hX
        go_wp2_with (first | (go_at_call 5; (with_reducible refine (HF7.out X B0.out).mono ?_); (rintro e v1 ⟨rfl, hb⟩); (have HP1 := Lib.hid (HP0.out.below hb HP0.out.lt)); (have q1 := HP1.out.cell); (have l1 := HP1.out.lt); (have B1 := Lib.hid (B0.out.trans (hb.mono B0.out.size))); clear hb q0 l0) | (go_at_call 6; (with_reducible refine (HK7.out v1 B1.out).mono ?_); (rintro e v2 ⟨rfl, hb⟩); (have HP2 := Lib.hid (HP1.out.below hb HP1.out.lt)); (have q2 := HP2.out.cell); (have l2 := HP2.out.lt); (have B2 := Lib.hid (B1.out.trans (hb.mono B1.out.size))); clear hb q1 l1) | (go_at_call 7; (refine (served_c _).mono ?_); (rintro e v99 ⟨rfl, hb⟩); (have B99 := Lib.hid (B2.out.trans (hb.mono B2.out.size))); clear hb))
        go_ret
        exact ⟨rfl, B99.out⟩
      have g1B : decide (shl < 0) = false := decide_eq_false g1
      by_cases g2 : 9 < shl
      · have gB : decide (9 < shl) = true := decide_eq_true g2
        clear hf7 hc7 HC hq
        go_enter Tryz.func3, Tryz.ntmps3
        go_upto_region 1 with (fail)
        go_name_world X hX
        have B0 : Hid (Below w.heap.size w X) := Lib.hid (al1 hX).1
        have HP0 : Hid (Blk X w.heap.size 24 #[Value.slice A n c, .int .i64 q.need, .int .i64 q.gap, .int .i64 q.doubt, .int .i64 q.joins, .int .i64 q.least]) := by rw [← hX]; exact Lib.hid (Blk.new w _ _)
        have q0 := HP0.out.cell
        have l0 := HP0.out.lt
        clear hX
        go_wp2_with (first | (go_at_call 5; (with_reducible refine (HF7.out X B0.out).mono ?_); (rintro e v1 ⟨rfl, hb⟩); (have HP1 := Lib.hid (HP0.out.below hb HP0.out.lt)); (have q1 := HP1.out.cell); (have l1 := HP1.out.lt); (have B1 := Lib.hid (B0.out.trans (hb.mono B0.out.size))); clear hb q0 l0) | (go_at_call 6; (with_reducible refine (HK7.out v1 B1.out).mono ?_); (rintro e v2 ⟨rfl, hb⟩); (have HP2 := Lib.hid (HP1.out.below hb HP1.out.lt)); (have q2 := HP2.out.cell); (have l2 := HP2.out.lt); (have B2 := Lib.hid (B1.out.trans (hb.mono B1.out.size))); clear hb q1 l1) | (go_at_call 7; (refine (served_c _).mono ?_); (rintro e v99 ⟨rfl, hb⟩); (have B99 := Lib.hid (B2.out.trans (hb.mono B2.out.size))); clear hb))
        go_ret
        exact ⟨rfl, B99.out⟩
      have g2B : decide (9 < shl) = false := decide_eq_false g2
      have hn8 : n ≤ 8 := by
        rw [farC, hc7] at hf7
        simp at hf7
        omega
      have HPL0 := fun V (hV : Below w.heap.size w V) => Plan_c A n c q ls V hn40 hq (HC.later hV)
      rcases plan_8 hc7 with ⟨e1, e2⟩ | ⟨e1, y, e2, hg, hy2⟩
      case inl =>
        rw [e1, e2] at HPL0
        have HPL : Hid (∀ V, Below w.heap.size w V → Calls Tryz.prog 8 #[.agg #[.slice A n c, .int .i64 q.need, .int .i64 q.gap, .int .i64 q.doubt, .int .i64 q.joins, .int .i64 q.least]] V fun e w' => ∃ B d, e = .returned (.tuple #[.slice B 0 d, .int .i64 3]) ∧ Below V.heap.size V w') := Lib.hid (fun V hV => (HPL0 V hV).mono fun e w' h => by obtain ⟨B, d, h1, -, h3⟩ := h; exact ⟨B, d, h1, h3⟩)
        clear HPL0 e1 e2 hf7 hc7 HC hq
        go_enter Tryz.func3, Tryz.ntmps3
        go_upto_region 1 with (fail)
        go_name_world X hX
        have B0 : Hid (Below w.heap.size w X) := Lib.hid (al1 hX).1
        have HP0 : Hid (Blk X w.heap.size 24 #[Value.slice A n c, .int .i64 q.need, .int .i64 q.gap, .int .i64 q.doubt, .int .i64 q.joins, .int .i64 q.least]) := by rw [← hX]; exact Lib.hid (Blk.new w _ _)
        have q0 := HP0.out.cell
        have l0 := HP0.out.lt
        clear hX
        go_wp2_with (first | (go_at_call 5; (with_reducible refine (HF7.out X B0.out).mono ?_); (rintro e v1 ⟨rfl, hb⟩); (have HP1 := Lib.hid (HP0.out.below hb HP0.out.lt)); (have q1 := HP1.out.cell); (have l1 := HP1.out.lt); (have B1 := Lib.hid (B0.out.trans (hb.mono B0.out.size))); clear hb q0 l0) | (go_at_call 6; (with_reducible refine (HK7.out v1 B1.out).mono ?_); (rintro e v2 ⟨rfl, hb⟩); (have HP2 := Lib.hid (HP1.out.below hb HP1.out.lt)); (have q2 := HP2.out.cell); (have l2 := HP2.out.lt); (have B2 := Lib.hid (B1.out.trans (hb.mono B1.out.size))); clear hb q1 l1) | (go_at_call 8; (with_reducible refine (HPL.out v2 B2.out).mono ?_); (rintro e v3 ⟨B, d, rfl, hb⟩); (have B3 := Lib.hid (B2.out.trans (hb.mono B2.out.size))); clear hb q2 l2) | (go_at_call 7; (refine (served_c _).mono ?_); (rintro e v99 ⟨rfl, hb⟩); (have B99 := Lib.hid (B3.out.trans (hb.mono B3.out.size))); clear hb))
        go_ret
        exact ⟨rfl, B99.out⟩
      case inr =>
        rw [e1, e2] at HPL0
        obtain ⟨hK1, hK4, hsh, hlf1, hlf8⟩ := pcs_good hc7 hg hn8
        have hm := memN_le8 (y := y) (n := n)
        have HSH0 := fun B d V (hV : Below w.heap.size w V) (hI : IntsAt V B (memN y n).length (ints (memN y n))) => Shackles_c A B n c (memN y n).length d q ls (ints (memN y n)) V hn40 (by omega) hq (HC.later hV) hI
        rw [(gv_mem8 hc7 hy2).1, (gv_mem8 hc7 hy2).2, hsh] at HSH0
        have HIN0 := fun B m d L (hm : (memN y n).length = m) (hL : ints (memN y n) = L) k hk V h => cut8_c y n hn40 B m d L hm hL k hk V h
        have HPC := Lib.hid (fun i (hi : i < (pcs y n).length) => pcs_at hi)
        have HSM := Lib.hid (smK_pcs y n)
        obtain ⟨m, hmm⟩ : ∃ x, (memN y n).length = x := ⟨_, rfl⟩
        obtain ⟨L, hLL⟩ : ∃ x, ints (memN y n) = x := ⟨_, rfl⟩
        have HPL : Hid (∀ V, Below w.heap.size w V → Calls Tryz.prog 8 #[.agg #[.slice A n c, .int .i64 q.need, .int .i64 q.gap, .int .i64 q.doubt, .int .i64 q.joins, .int .i64 q.least]] V fun e w' => ∃ B d, e = .returned (.tuple #[.slice B m d, .int .i64 0]) ∧ IntsAt w' B m L ∧ Below V.heap.size V w') := Lib.hid (fun V hV => by have := HPL0 V hV; unfold LiRet at this; rw [hmm, hLL] at this; exact this)
        have HIN := Lib.hid (fun B d k hk V h => HIN0 B m d L hmm hLL k hk V h)
        have HSH : Hid (∀ B d V, Below w.heap.size w V → IntsAt V B m L → Calls Tryz.prog 10 #[.agg #[.slice A n c, .int .i64 q.need, .int .i64 q.gap, .int .i64 q.doubt, .int .i64 q.joins, .int .i64 q.least], .slice B m d] V fun e w' => e = .returned (.tuple #[.int .i64 (((pcs y n).length - 1 : Nat) : Int), .int .i64 0]) ∧ Below V.heap.size V w') := Lib.hid (by rw [hmm, hLL] at HSH0; exact HSH0)
        rw [hmm] at hm
        have hmB : decide ((40 : Int) < (m : Int)) = false := decide_eq_false (by omega)
        clear HPL0 HSH0 HIN0 hmm hLL e1 e2 hf7 hc7 HC hq hg hy2 hsh
        go_enter Tryz.func3, Tryz.ntmps3
        go_upto_region 1 with (fail)
        go_name_world X hX
        have B0 : Hid (Below w.heap.size w X) := Lib.hid (al1 hX).1
        have HP0 : Hid (Blk X w.heap.size 24 #[Value.slice A n c, .int .i64 q.need, .int .i64 q.gap, .int .i64 q.doubt, .int .i64 q.joins, .int .i64 q.least]) := by rw [← hX]; exact Lib.hid (Blk.new w _ _)
        have q0 := HP0.out.cell
        have l0 := HP0.out.lt
        clear hX
        go_upto_region 8 with (first | (go_at_call 5; (with_reducible refine (HF7.out X B0.out).mono ?_); (rintro e v1 ⟨rfl, hb⟩); (have HP1 := Lib.hid (HP0.out.below hb HP0.out.lt)); (have q1 := HP1.out.cell); (have l1 := HP1.out.lt); (have B1 := Lib.hid (B0.out.trans (hb.mono B0.out.size))); clear hb q0 l0) | (go_at_call 6; (with_reducible refine (HK7.out v1 B1.out).mono ?_); (rintro e v2 ⟨rfl, hb⟩); (have HP2 := Lib.hid (HP1.out.below hb HP1.out.lt)); (have q2 := HP2.out.cell); (have l2 := HP2.out.lt); (have B2 := Lib.hid (B1.out.trans (hb.mono B1.out.size))); clear hb q1 l1) | (go_at_call 8; (with_reducible refine (HPL.out v2 B2.out).mono ?_); (rintro e v3 ⟨B, d, rfl, hI, hb⟩); (have I3 := Lib.hid hI); clear hI; (have HP3 := Lib.hid (HP2.out.below hb HP2.out.lt)); (have q3 := HP3.out.cell); (have l3 := HP3.out.lt); (have B3 := Lib.hid (B2.out.trans (hb.mono B2.out.size))); clear hb q2 l2))
        clear HF7 HK7 HPL
        go_wp2_with fail
        go_loopw [7, 8, 9, 10, 11, 12] (fun vp vq va lf i _ (wr : World) => ∃ k : Nat, k ≤ n ∧ i = .int .i64 k ∧ lf = .int .i64 (lfC y k : Nat) ∧ Hid (PcM v3.heap.size vp vq va (pcs y k).length (pcs y k).length (pcs y k).length (dbS (pcs y k)) (List.replicate (pcs y k).length 0) (upN (pcs y k).length) wr) ∧ Hid (Below v3.heap.size v3 wr)) (fun _ _ _ _ i _ _ => n - (intOf i).toNat)
        case atStart => exact ⟨0, by omega, rfl, rfl, Lib.hid (PcM.nil _ _), Lib.hid (Below.refl _ _)⟩
        case round =>
          obtain ⟨k, hk, rfl, rfl, HM, HB⟩ := hrel
          have hb := HB.out
          have zb := hb.size
          have qr := fun j => (hb.cell (p := ⟨w.heap.size, j, none⟩) l3).trans (q3 j)
          have lr : w.heap.size < wr.heap.size := Nat.lt_of_lt_of_le l3 zb
          have Ir := Lib.hid (I3.out.later hb)
          clear q3
          by_cases hkn : k < n
          case pos =>
            have hkB : decide ((k : Int) < n) = true := decide_eq_true (by omega)
            have vk : IntKind.i64.wrap ((k : Int) + 1) = (k : Int) + 1 := IntWalk.i64_in _ (by omega)
            have HX := Lib.hid (HIN.out B d k hkn wr Ir.out)
            have hle := pcs_len y k
            obtain ⟨ns, hns⟩ : ∃ x, pcs y k = x := ⟨_, rfl⟩
            have HBD := Lib.hid (fun i (h : i < ns.length) => (by rw [← hns] at h ⊢; exact pcs_at h : 1 ≤ iAt ns i ∧ iAt ns i ≤ k))
            rw [hns] at HM hle
            obtain ⟨K, hK⟩ : ∃ x, ns.length = x := ⟨_, rfl⟩
            have HKK := Lib.hid hK
            rw [hK] at HM hle
            have hfl := lfC_le y k
            obtain ⟨f, hf⟩ : ∃ x, lfC y k = x := ⟨_, rfl⟩
            rw [hf] at hfl ⊢
            have vl : IntKind.i64.wrap ((f : Int) + 1) = ((f + 1 : Nat) : Int) := by rw [IntWalk.i64_in _ (by omega)]; omega
            clear HPC HSM HSH
            obtain ⟨Ap, cp, rfl, -, -⟩ := SlAt.of_own (d := (⟨0, 0⟩ : Sp)) encS_len HM.out.p HM.out.pl
            obtain ⟨Aq, cq, rfl, -, -⟩ := SlAt.of_own (d := (0 : Int)) encI_len HM.out.q HM.out.ql
            cases hy : y.testBit k
            case true =>
              rw [hy] at HX
              have E1 : Hid (pcs y (k + 1) = ns) := Lib.hid (by rw [pcs_skip hy]; exact hns)
              have E2 : Hid (lfC y (k + 1) = f) := Lib.hid (by rw [← hf]; exact if_pos hy)
              clear hns hK hf hy
              go_wp2_with (go_at_call 9; (with_reducible refine HX.out.mono ?_); (rintro e v98 ⟨rfl, rfl⟩))
              go_roundw
              case rel => exact ⟨k + 1, by omega, by go_num, by rw [E2.out], by rw [E1.out, HKK.out]; exact HM, HB⟩
              case measure => simp [intOf]; omega
            case false =>
              rw [hy] at HX
              have E2 : Hid (lfC y (k + 1) = f + 1) := Lib.hid (by rw [← hf]; exact if_neg (by rw [hy]; decide))
              clear hf
              by_cases h0 : K = 0
              case pos =>
                have h0B : ((K : Int) == 0) = true := by simp [h0]
                have HNW : Hid (pcs y k = [] ∨ k = 0 ∨ y.testBit (k - 1) = true) := Lib.hid (.inl (by rw [hns]; exact List.eq_nil_of_length_eq_zero (hK.trans h0)))
                clear h0
                go_upto_region 18 with (first | (go_at_call 9; first | ((with_reducible refine HX.out.mono ?_); (rintro e v98 ⟨rfl, rfl⟩)) | ((with_reducible refine HX1.out.mono ?_); (rintro e v98 ⟨rfl, rfl⟩))) | (at_builtin; go_must (refine wpList_append_T _ (d := (⟨0, 0⟩ : Sp)) rfl (.tmp 86) (.tmp 88) _ rfl v3.heap.size _ 2 16 spE8 encS_len encS_one (.slice Ap K cp) _ K (dbS ns) rfl rfl ?ow _ 1 _ [⟨0, 0⟩] rfl ?sl (by omega) ?sz ?_; (case ow => exact own_below HM.out.p (by (repeat first | with_reducible assumption | with_reducible exact Below.refl _ _ | (with_reducible refine Below.alloc ?_ ?side _; case side => (first | omega | (with_reducible exact Below.size (by assumption)) | (simp; done) | (simp; omega))) | (with_reducible refine Below.setCell ?_ ?side _; case side => (first | omega | (with_reducible exact Below.size (by assumption)) | (simp; done) | (simp; omega))) | with_reducible refine Below.drew ?_ | with_reducible refine below_drewN ?_ _ | (with_reducible refine below_step (by assumption) ?side ?_; case side => (first | omega | (with_reducible exact Below.size (by assumption)) | (simp; done) | (simp; omega)))))); (case sl => exact sl_new encS_len (by first | rfl | simp) rfl rfl); (case sz => go_size); (rintro v5 w5 ho5 hg5 ha5); (have hb5 : Below v3.heap.size v3 w5 := Below.grown (by (repeat first | with_reducible assumption | with_reducible exact Below.refl _ _ | (with_reducible refine Below.alloc ?_ ?side _; case side => (first | omega | (with_reducible exact Below.size (by assumption)) | (simp; done) | (simp; omega))) | (with_reducible refine Below.setCell ?_ ?side _; case side => (first | omega | (with_reducible exact Below.size (by assumption)) | (simp; done) | (simp; omega))) | with_reducible refine Below.drew ?_ | with_reducible refine below_drewN ?_ _ | (with_reducible refine below_step (by assumption) ?side ?_; case side => (first | omega | (with_reducible exact Below.size (by assumption)) | (simp; done) | (simp; omega))))) hg5 (by go_size) (own_ge HM.out.p)); (have M5 := Lib.hid (HM.out.pushP ho5 hg5 ha5)); (have Z5 := hb5.size); clear ho5 hg5 ha5)))
                go_upto_region 19 with (at_builtin; go_must (first | (refine wpList_append_T _ (d := (0 : Int)) rfl (.tmp 90) (.tmp 93) _ rfl v3.heap.size _ 1 8 intE8 encI_len encI_one u9 u9.ownBlock K (upN K) rfl rfl ?ow _ 1 _ [(K : Int)] rfl ?sl (by omega) ?sz ?_; (case ow => exact own_below M5.out.a (by (repeat first | with_reducible assumption | with_reducible exact Below.refl _ _ | (with_reducible refine Below.alloc ?_ ?side _; case side => (first | omega | (with_reducible exact Below.size (by assumption)) | (simp; done) | (simp; omega))) | (with_reducible refine Below.setCell ?_ ?side _; case side => (first | omega | (with_reducible exact Below.size (by assumption)) | (simp; done) | (simp; omega))) | with_reducible refine Below.drew ?_ | with_reducible refine below_drewN ?_ _ | (with_reducible refine below_step (by assumption) ?side ?_; case side => (first | omega | (with_reducible exact Below.size (by assumption)) | (simp; done) | (simp; omega)))))); (case sl => exact sl_new encI_len (by first | rfl | simp) rfl rfl); (case sz => go_size); (rintro v6 w6 ho6 hg6 ha6); (have hb6 : Below v3.heap.size v3 w6 := Below.grown (by (repeat first | with_reducible assumption | with_reducible exact Below.refl _ _ | (with_reducible refine Below.alloc ?_ ?side _; case side => (first | omega | (with_reducible exact Below.size (by assumption)) | (simp; done) | (simp; omega))) | (with_reducible refine Below.setCell ?_ ?side _; case side => (first | omega | (with_reducible exact Below.size (by assumption)) | (simp; done) | (simp; omega))) | with_reducible refine Below.drew ?_ | with_reducible refine below_drewN ?_ _ | (with_reducible refine below_step (by assumption) ?side ?_; case side => (first | omega | (with_reducible exact Below.size (by assumption)) | (simp; done) | (simp; omega))))) hg6 (by go_size) (own_ge M5.out.a)); (have M6 := Lib.hid (M5.out.pushA ho6 hg6 ha6)); (have Z6 := hb6.size); clear ho6 hg6 ha6) | (refine wpList_append_T _ (d := (0 : Int)) rfl (.tmp 95) (.tmp 96) _ rfl v3.heap.size _ 1 8 intE8 encI_len encI_one (.slice Aq K cq) _ K (List.replicate K 0) rfl rfl ?ow _ 1 _ [(0 : Int)] rfl ?sl (by omega) ?sz ?_; (case ow => exact own_below M6.out.q (by (repeat first | with_reducible assumption | with_reducible exact Below.refl _ _ | (with_reducible refine Below.alloc ?_ ?side _; case side => (first | omega | (with_reducible exact Below.size (by assumption)) | (simp; done) | (simp; omega))) | (with_reducible refine Below.setCell ?_ ?side _; case side => (first | omega | (with_reducible exact Below.size (by assumption)) | (simp; done) | (simp; omega))) | with_reducible refine Below.drew ?_ | with_reducible refine below_drewN ?_ _ | (with_reducible refine below_step (by assumption) ?side ?_; case side => (first | omega | (with_reducible exact Below.size (by assumption)) | (simp; done) | (simp; omega)))))); (case sl => exact sl_new encI_len (by first | rfl | simp) rfl rfl); (case sz => go_size); (rintro v7 w7 ho7 hg7 ha7); (have hb7 : Below v3.heap.size v3 w7 := Below.grown (by (repeat first | with_reducible assumption | with_reducible exact Below.refl _ _ | (with_reducible refine Below.alloc ?_ ?side _; case side => (first | omega | (with_reducible exact Below.size (by assumption)) | (simp; done) | (simp; omega))) | (with_reducible refine Below.setCell ?_ ?side _; case side => (first | omega | (with_reducible exact Below.size (by assumption)) | (simp; done) | (simp; omega))) | with_reducible refine Below.drew ?_ | with_reducible refine below_drewN ?_ _ | (with_reducible refine below_step (by assumption) ?side ?_; case side => (first | omega | (with_reducible exact Below.size (by assumption)) | (simp; done) | (simp; omega))))) hg7 (by go_size) (own_ge M6.out.q)); (have M7 := Lib.hid (M6.out.pushQ ho7 hg7 ha7)); (have Z7 := hb7.size); clear ho7 hg7 ha7)))
                obtain ⟨g, c5, rfl, hg, hgl⟩ := M7.out.p.form (by omega)
                have M8 : Hid (PcM v3.heap.size (.slice (some ⟨g, 0, none⟩) (K + 1) c5) v7 v6 (K + 1) (K + 1) (K + 1) (dbS (ns ++ [0])) (List.replicate (K + 1) 0) (upN (K + 1)) w7) := by
                  have := M7.out
                  rw [show (dbS ns ++ [⟨0, 0⟩]) = dbS (ns ++ [0]) from dbS_push.symm, ← zer_succ, ← upN_succ] at this
                  exact Lib.hid this
                clear M7 M6 M5 HM hb5 hb6 Z5 Z6
                obtain ⟨K1, hK1⟩ : ∃ x, K + 1 = x := ⟨_, rfl⟩
                rw [hK1] at M8 ⊢
                have hjK : K < K1 := by omega
                have hjK2 : K1 ≤ K + 1 := by omega
                have hjK9 : K1 ≤ 9 := by omega
                have HNL : Hid ((ns ++ [0]).length = K1) := Lib.hid (by rw [List.length_append, HKK.out, ← hK1]; rfl)
                have HV : Hid (iAt (ns ++ [0]) K = 0) := Lib.hid (by rw [← HKK.out]; unfold iAt; rw [List.getD_eq_getElem?_getD, List.getElem?_append_right (Nat.le_refl _), Nat.sub_self]; rfl)
                have HE : Hid (pcs y (k + 1) = (ns ++ [0]).set K (0 + 1) ∧ (pcs y (k + 1)).length = K1) := Lib.hid (by
                  have e := pcs_new hy HNW.out
                  rw [hns] at e
                  rw [e, ← HKK.out, List.set_append_right _ _ (Nat.le_refl _), Nat.sub_self, List.length_append, HKK.out, ← hK1]
                  exact ⟨rfl, rfl⟩)
                obtain ⟨nz, hnz⟩ : ∃ x, ns ++ [0] = x := ⟨_, rfl⟩
                rw [hnz] at M8 HNL HV HE
                obtain ⟨v, hv⟩ : ∃ x, (0 : Int) = x := ⟨_, rfl⟩
                have hvb : 0 ≤ v ∧ v ≤ 8 := by omega
                rw [hv] at HV HE
                obtain ⟨j, hj⟩ : ∃ x, K = x := ⟨_, rfl⟩
                rw [hj] at hjK hjK2 HV HE
                clear hv hnz hj hK1 h0B hns hK hy
                obtain ⟨c0, c1, f0, f1, hgs⟩ := M8.out.cells (i := j) hjK (v := v) (by rw [dbS_at (by have := HNL.out; omega), HV.out])
                have vj : IntKind.i64.wrap ((K1 : Int) - 1) = (j : Int) := by rw [IntWalk.i64_in _ (by omega)]; omega
                have vv : IntKind.i64.wrap (v + 1) = v + 1 := IntWalk.i64_in _ (by omega)
                have hjB : decide ((j : Int) < (K1 : Int)) = true := decide_eq_true (by omega)
                go_upto_region 20 with (fail)
                refine wp_region_L (by kernel_rfl) (fun W' => W'.cell? ⟨g, j * 2, none⟩ = some (.int .i64 v) ∧ W'.cell? ⟨g, j * 2 + 1, none⟩ = some (.int .i64 v)) 16 ?_
                have hS : w7.drew.cell? ⟨g, j * 2, none⟩ = some (.int .i64 v) ∧ w7.drew.cell? ⟨g, j * 2 + 1, none⟩ = some (.int .i64 v) := ⟨c0, c1⟩
                refine wpAnyL_take (i := 0) (v := ?_) rfl (by kernel_rfl) (by kernel_rfl) (by kernel_rfl) (by kernel_rfl) (fun _ _ _ h => h) hS (Or.inl ⟨by rfl, ?_⟩) ?_
                rotate_left 1
                · intro w9 hw9
                  obtain ⟨s0, s1⟩ := hw9
                  go_simp
                  try with_reducible rfl
                try simp only [List.getElem_toArray, List.getElem_cons_zero, List.getElem_cons_succ, Act.put, List.setIfInBounds_toArray, List.set_cons_zero, List.set_cons_succ]
                refine wpAnyL_take (i := 1) (v := ?_) rfl (by kernel_rfl) (by kernel_rfl) (by kernel_rfl) (by kernel_rfl) (fun _ _ _ h => h) hS (Or.inl ⟨by rfl, ?_⟩) ?_
                rotate_left 1
                · intro w9 hw9
                  obtain ⟨s0, s1⟩ := hw9
                  go_simp
                  try with_reducible rfl
                try simp only [List.getElem_toArray, List.getElem_cons_zero, List.getElem_cons_succ, Act.put, List.setIfInBounds_toArray, List.set_cons_zero, List.set_cons_succ]
                refine wpAnyL_take (i := 2) (v := ?_) rfl (by kernel_rfl) (by kernel_rfl) (by kernel_rfl) (by kernel_rfl) (fun _ _ _ h => h) hS (Or.inl ⟨by rfl, ?_⟩) ?_
                rotate_left 1
                · intro w9 hw9
                  obtain ⟨s0, s1⟩ := hw9
                  go_simp
                  try with_reducible rfl
                try simp only [List.getElem_toArray, List.getElem_cons_zero, List.getElem_cons_succ, Act.put, List.setIfInBounds_toArray, List.set_cons_zero, List.set_cons_succ]
                refine wpAnyL_take (i := 3) (v := ?_) rfl (by kernel_rfl) (by kernel_rfl) (by kernel_rfl) (by kernel_rfl) (fun _ _ _ h => h) hS (Or.inl ⟨by rfl, ?_⟩) ?_
                rotate_left 1
                · intro w9 hw9
                  obtain ⟨s0, s1⟩ := hw9
                  go_simp
                  try with_reducible rfl
                try simp only [List.getElem_toArray, List.getElem_cons_zero, List.getElem_cons_succ, Act.put, List.setIfInBounds_toArray, List.set_cons_zero, List.set_cons_succ]
                refine wpAnyL_take (i := 4) (v := ?_) rfl (by kernel_rfl) (by kernel_rfl) (by kernel_rfl) (by kernel_rfl) (fun _ _ _ h => h) hS (Or.inl ⟨by rfl, ?_⟩) ?_
                rotate_left 1
                · intro w9 hw9
                  obtain ⟨s0, s1⟩ := hw9
                  go_simp
                  try with_reducible rfl
                try simp only [List.getElem_toArray, List.getElem_cons_zero, List.getElem_cons_succ, Act.put, List.setIfInBounds_toArray, List.set_cons_zero, List.set_cons_succ]
                refine wpAnyL_take (i := 5) (v := ?_) rfl (by kernel_rfl) (by kernel_rfl) (by kernel_rfl) (by kernel_rfl) (fun _ _ _ h => h) hS (Or.inl ⟨by rfl, ?_⟩) ?_
                rotate_left 1
                · intro w9 hw9
                  obtain ⟨s0, s1⟩ := hw9
                  go_simp
                  try with_reducible rfl
                try simp only [List.getElem_toArray, List.getElem_cons_zero, List.getElem_cons_succ, Act.put, List.setIfInBounds_toArray, List.set_cons_zero, List.set_cons_succ]
                refine wpAnyL_take (i := 6) (v := ?_) rfl (by kernel_rfl) (by kernel_rfl) (by kernel_rfl) (by kernel_rfl) (fun _ _ _ h => h) hS (Or.inl ⟨by rfl, ?_⟩) ?_
                rotate_left 1
                · intro w9 hw9
                  obtain ⟨s0, s1⟩ := hw9
                  go_simp
                  try with_reducible rfl
                try simp only [List.getElem_toArray, List.getElem_cons_zero, List.getElem_cons_succ, Act.put, List.setIfInBounds_toArray, List.set_cons_zero, List.set_cons_succ]
                refine wpAnyL_take (i := 7) (v := ?_) rfl (by kernel_rfl) (by kernel_rfl) (by kernel_rfl) (by kernel_rfl) (fun _ _ _ h => h) hS (Or.inl ⟨by rfl, ?_⟩) ?_
                rotate_left 1
                · intro w9 hw9
                  obtain ⟨s0, s1⟩ := hw9
                  go_simp
                  try with_reducible rfl
                try simp only [List.getElem_toArray, List.getElem_cons_zero, List.getElem_cons_succ, Act.put, List.setIfInBounds_toArray, List.set_cons_zero, List.set_cons_succ]
                refine wpAnyL_take (i := 8) (v := ?_) rfl (by kernel_rfl) (by kernel_rfl) (by kernel_rfl) (by kernel_rfl) (fun _ _ _ h => h) hS (Or.inl ⟨by rfl, ?_⟩) ?_
                rotate_left 1
                · intro w9 hw9
                  obtain ⟨s0, s1⟩ := hw9
                  go_simp
                  try with_reducible rfl
                try simp only [List.getElem_toArray, List.getElem_cons_zero, List.getElem_cons_succ, Act.put, List.setIfInBounds_toArray, List.set_cons_zero, List.set_cons_succ]
                refine wpAnyL_take (i := 9) (v := ?_) rfl (by kernel_rfl) (by kernel_rfl) (by kernel_rfl) (by kernel_rfl) (fun _ _ _ h => h) hS (Or.inl ⟨by rfl, ?_⟩) ?_
                rotate_left 1
                · intro w9 hw9
                  obtain ⟨s0, s1⟩ := hw9
                  go_simp
                  try with_reducible rfl
                try simp only [List.getElem_toArray, List.getElem_cons_zero, List.getElem_cons_succ, Act.put, List.setIfInBounds_toArray, List.set_cons_zero, List.set_cons_succ]
                refine wpAnyL_take (i := 10) (v := ?_) rfl (by kernel_rfl) (by kernel_rfl) (by kernel_rfl) (by kernel_rfl) (fun _ _ _ h => h) hS (Or.inl ⟨by rfl, ?_⟩) ?_
                rotate_left 1
                · intro w9 hw9
                  obtain ⟨s0, s1⟩ := hw9
                  go_simp
                  try with_reducible rfl
                try simp only [List.getElem_toArray, List.getElem_cons_zero, List.getElem_cons_succ, Act.put, List.setIfInBounds_toArray, List.set_cons_zero, List.set_cons_succ]
                refine wpAnyL_take (i := 11) (v := ?_) rfl (by kernel_rfl) (by kernel_rfl) (by kernel_rfl) (by kernel_rfl) (fun _ _ _ h => h) hS (Or.inl ⟨by rfl, ?_⟩) ?_
                rotate_left 1
                · intro w9 hw9
                  obtain ⟨s0, s1⟩ := hw9
                  go_simp
                  try with_reducible rfl
                try simp only [List.getElem_toArray, List.getElem_cons_zero, List.getElem_cons_succ, Act.put, List.setIfInBounds_toArray, List.set_cons_zero, List.set_cons_succ]
                refine wpAnyL_take (i := 12) (v := ?_) rfl (by kernel_rfl) (by kernel_rfl) (by kernel_rfl) (by kernel_rfl) (fun _ _ _ h => h) hS (Or.inl ⟨by rfl, ?_⟩) ?_
                rotate_left 1
                · intro w9 hw9
                  obtain ⟨s0, s1⟩ := hw9
                  go_simp
                  try with_reducible rfl
                try simp only [List.getElem_toArray, List.getElem_cons_zero, List.getElem_cons_succ, Act.put, List.setIfInBounds_toArray, List.set_cons_zero, List.set_cons_succ]
                refine wpAnyL_take (i := 13) (v := ?_) rfl (by kernel_rfl) (by kernel_rfl) (by kernel_rfl) (by kernel_rfl) (fun _ _ _ h => h) hS (Or.inl ⟨by rfl, ?_⟩) ?_
                rotate_left 1
                · intro w9 hw9
                  obtain ⟨s0, s1⟩ := hw9
                  go_simp
                  try with_reducible rfl
                try simp only [List.getElem_toArray, List.getElem_cons_zero, List.getElem_cons_succ, Act.put, List.setIfInBounds_toArray, List.set_cons_zero, List.set_cons_succ]
                refine wpAnyL_take (i := 14) (v := ?_) rfl (by kernel_rfl) (by kernel_rfl) (by kernel_rfl) (by kernel_rfl) (fun _ _ _ h => h) hS (Or.inl ⟨by rfl, ?_⟩) ?_
                rotate_left 1
                · intro w9 hw9
                  obtain ⟨s0, s1⟩ := hw9
                  go_simp
                  try with_reducible rfl
                try simp only [List.getElem_toArray, List.getElem_cons_zero, List.getElem_cons_succ, Act.put, List.setIfInBounds_toArray, List.set_cons_zero, List.set_cons_succ]
                refine wpAnyL_take (i := 15) (v := ?_) rfl (by kernel_rfl) (by kernel_rfl) (by kernel_rfl) (by kernel_rfl) (fun _ _ _ h => h) hS (Or.inl ⟨by rfl, ?_⟩) ?_
                rotate_left 1
                · intro w9 hw9
                  obtain ⟨s0, s1⟩ := hw9
                  go_simp
                  try with_reducible rfl
                try simp only [List.getElem_toArray, List.getElem_cons_zero, List.getElem_cons_succ, Act.put, List.setIfInBounds_toArray, List.set_cons_zero, List.set_cons_succ]
                clear hS
                refine wpAnyL_one (i := 16) (by kernel_rfl) rfl (fun Kc hKc => ?_)
                go_simp
                obtain ⟨Z, hZ⟩ : ∃ Z, (((w7.setCell ⟨g, j * 2, none⟩ (.int .i64 (v + 1))).setCell ⟨g, j * 2 + 1, none⟩ (.int .i64 (v + 1))).drew) = Z := ⟨_, rfl⟩
                rw [hZ]
                have M9 : Hid (PcM v3.heap.size (.slice (some ⟨g, 0, none⟩) K1 c5) v7 v6 K1 K1 K1 (dbS (pcs y (k + 1))) (List.replicate K1 0) (upN K1) Z) := by
                  rw [← hZ, HE.out.1, ← dbS_set]
                  exact Lib.hid ((M8.out.set hjK (v := v) (by rw [dbS_at (by have := HNL.out; omega), HV.out])).drew)
                have B9 : Hid (Below v3.heap.size v3 Z) := Lib.hid (by rw [← hZ]; (repeat first | with_reducible assumption | with_reducible exact Below.refl _ _ | (with_reducible refine Below.alloc ?_ ?side _; case side => (first | omega | (with_reducible exact Below.size (by assumption)) | (simp; done) | (simp; omega))) | (with_reducible refine Below.setCell ?_ ?side _; case side => (first | omega | (with_reducible exact Below.size (by assumption)) | (simp; done) | (simp; omega))) | with_reducible refine Below.drew ?_ | with_reducible refine below_drewN ?_ _ | (with_reducible refine below_step (by assumption) ?side ?_; case side => (first | omega | (with_reducible exact Below.size (by assumption)) | (simp; done) | (simp; omega)))))
                clear hZ
                refine hKc.out _ _ (fun h => absurd rfl h) (fun _ => ?_)
                clear hKc Kc
                refine wpAnyL_done (by kernel_rfl) ?_ _
                go_wp2_with fail
                go_roundw
                case rel => exact ⟨k + 1, by omega, by go_num, by rw [E2.out]; rfl, by rw [HE.out.2]; exact M9, B9⟩
                case measure => simp [intOf]; omega
              case neg =>
                have h0B : ((K : Int) == 0) = false := by simp [h0]
                have hk0B : ((k : Int) == 0) = false := by simp; omega
                have HX1 := Lib.hid (HIN.out B d (k - 1) (by omega) wr Ir.out)
                have vk1 : IntKind.i64.wrap ((k : Int) - 1) = ((k - 1 : Nat) : Int) := by rw [IntWalk.i64_in _ (by omega)]; omega
                cases hy1 : y.testBit (k - 1)
                case true =>
                  rw [hy1] at HX1
                  have HNW : Hid (pcs y k = [] ∨ k = 0 ∨ y.testBit (k - 1) = true) := Lib.hid (.inr (.inr hy1))
                  obtain ⟨kp, hkp⟩ : ∃ x, k - 1 = x := ⟨_, rfl⟩
                  rw [hkp] at HX1 vk1
                  clear h0 hy1 hkp
                  go_upto_region 18 with (first | (go_at_call 9; first | ((with_reducible refine HX.out.mono ?_); (rintro e v98 ⟨rfl, rfl⟩)) | ((with_reducible refine HX1.out.mono ?_); (rintro e v98 ⟨rfl, rfl⟩))) | (at_builtin; go_must (refine wpList_append_T _ (d := (⟨0, 0⟩ : Sp)) rfl (.tmp 86) (.tmp 88) _ rfl v3.heap.size _ 2 16 spE8 encS_len encS_one (.slice Ap K cp) _ K (dbS ns) rfl rfl ?ow _ 1 _ [⟨0, 0⟩] rfl ?sl (by omega) ?sz ?_; (case ow => exact own_below HM.out.p (by (repeat first | with_reducible assumption | with_reducible exact Below.refl _ _ | (with_reducible refine Below.alloc ?_ ?side _; case side => (first | omega | (with_reducible exact Below.size (by assumption)) | (simp; done) | (simp; omega))) | (with_reducible refine Below.setCell ?_ ?side _; case side => (first | omega | (with_reducible exact Below.size (by assumption)) | (simp; done) | (simp; omega))) | with_reducible refine Below.drew ?_ | with_reducible refine below_drewN ?_ _ | (with_reducible refine below_step (by assumption) ?side ?_; case side => (first | omega | (with_reducible exact Below.size (by assumption)) | (simp; done) | (simp; omega)))))); (case sl => exact sl_new encS_len (by first | rfl | simp) rfl rfl); (case sz => go_size); (rintro v5 w5 ho5 hg5 ha5); (have hb5 : Below v3.heap.size v3 w5 := Below.grown (by (repeat first | with_reducible assumption | with_reducible exact Below.refl _ _ | (with_reducible refine Below.alloc ?_ ?side _; case side => (first | omega | (with_reducible exact Below.size (by assumption)) | (simp; done) | (simp; omega))) | (with_reducible refine Below.setCell ?_ ?side _; case side => (first | omega | (with_reducible exact Below.size (by assumption)) | (simp; done) | (simp; omega))) | with_reducible refine Below.drew ?_ | with_reducible refine below_drewN ?_ _ | (with_reducible refine below_step (by assumption) ?side ?_; case side => (first | omega | (with_reducible exact Below.size (by assumption)) | (simp; done) | (simp; omega))))) hg5 (by go_size) (own_ge HM.out.p)); (have M5 := Lib.hid (HM.out.pushP ho5 hg5 ha5)); (have Z5 := hb5.size); clear ho5 hg5 ha5)))
                  go_upto_region 19 with (at_builtin; go_must (first | (refine wpList_append_T _ (d := (0 : Int)) rfl (.tmp 90) (.tmp 93) _ rfl v3.heap.size _ 1 8 intE8 encI_len encI_one u9 u9.ownBlock K (upN K) rfl rfl ?ow _ 1 _ [(K : Int)] rfl ?sl (by omega) ?sz ?_; (case ow => exact own_below M5.out.a (by (repeat first | with_reducible assumption | with_reducible exact Below.refl _ _ | (with_reducible refine Below.alloc ?_ ?side _; case side => (first | omega | (with_reducible exact Below.size (by assumption)) | (simp; done) | (simp; omega))) | (with_reducible refine Below.setCell ?_ ?side _; case side => (first | omega | (with_reducible exact Below.size (by assumption)) | (simp; done) | (simp; omega))) | with_reducible refine Below.drew ?_ | with_reducible refine below_drewN ?_ _ | (with_reducible refine below_step (by assumption) ?side ?_; case side => (first | omega | (with_reducible exact Below.size (by assumption)) | (simp; done) | (simp; omega)))))); (case sl => exact sl_new encI_len (by first | rfl | simp) rfl rfl); (case sz => go_size); (rintro v6 w6 ho6 hg6 ha6); (have hb6 : Below v3.heap.size v3 w6 := Below.grown (by (repeat first | with_reducible assumption | with_reducible exact Below.refl _ _ | (with_reducible refine Below.alloc ?_ ?side _; case side => (first | omega | (with_reducible exact Below.size (by assumption)) | (simp; done) | (simp; omega))) | (with_reducible refine Below.setCell ?_ ?side _; case side => (first | omega | (with_reducible exact Below.size (by assumption)) | (simp; done) | (simp; omega))) | with_reducible refine Below.drew ?_ | with_reducible refine below_drewN ?_ _ | (with_reducible refine below_step (by assumption) ?side ?_; case side => (first | omega | (with_reducible exact Below.size (by assumption)) | (simp; done) | (simp; omega))))) hg6 (by go_size) (own_ge M5.out.a)); (have M6 := Lib.hid (M5.out.pushA ho6 hg6 ha6)); (have Z6 := hb6.size); clear ho6 hg6 ha6) | (refine wpList_append_T _ (d := (0 : Int)) rfl (.tmp 95) (.tmp 96) _ rfl v3.heap.size _ 1 8 intE8 encI_len encI_one (.slice Aq K cq) _ K (List.replicate K 0) rfl rfl ?ow _ 1 _ [(0 : Int)] rfl ?sl (by omega) ?sz ?_; (case ow => exact own_below M6.out.q (by (repeat first | with_reducible assumption | with_reducible exact Below.refl _ _ | (with_reducible refine Below.alloc ?_ ?side _; case side => (first | omega | (with_reducible exact Below.size (by assumption)) | (simp; done) | (simp; omega))) | (with_reducible refine Below.setCell ?_ ?side _; case side => (first | omega | (with_reducible exact Below.size (by assumption)) | (simp; done) | (simp; omega))) | with_reducible refine Below.drew ?_ | with_reducible refine below_drewN ?_ _ | (with_reducible refine below_step (by assumption) ?side ?_; case side => (first | omega | (with_reducible exact Below.size (by assumption)) | (simp; done) | (simp; omega)))))); (case sl => exact sl_new encI_len (by first | rfl | simp) rfl rfl); (case sz => go_size); (rintro v7 w7 ho7 hg7 ha7); (have hb7 : Below v3.heap.size v3 w7 := Below.grown (by (repeat first | with_reducible assumption | with_reducible exact Below.refl _ _ | (with_reducible refine Below.alloc ?_ ?side _; case side => (first | omega | (with_reducible exact Below.size (by assumption)) | (simp; done) | (simp; omega))) | (with_reducible refine Below.setCell ?_ ?side _; case side => (first | omega | (with_reducible exact Below.size (by assumption)) | (simp; done) | (simp; omega))) | with_reducible refine Below.drew ?_ | with_reducible refine below_drewN ?_ _ | (with_reducible refine below_step (by assumption) ?side ?_; case side => (first | omega | (with_reducible exact Below.size (by assumption)) | (simp; done) | (simp; omega))))) hg7 (by go_size) (own_ge M6.out.q)); (have M7 := Lib.hid (M6.out.pushQ ho7 hg7 ha7)); (have Z7 := hb7.size); clear ho7 hg7 ha7)))
                  obtain ⟨g, c5, rfl, hg, hgl⟩ := M7.out.p.form (by omega)
                  have M8 : Hid (PcM v3.heap.size (.slice (some ⟨g, 0, none⟩) (K + 1) c5) v7 v6 (K + 1) (K + 1) (K + 1) (dbS (ns ++ [0])) (List.replicate (K + 1) 0) (upN (K + 1)) w7) := by
                    have := M7.out
                    rw [show (dbS ns ++ [⟨0, 0⟩]) = dbS (ns ++ [0]) from dbS_push.symm, ← zer_succ, ← upN_succ] at this
                    exact Lib.hid this
                  clear M7 M6 M5 HM hb5 hb6 Z5 Z6
                  obtain ⟨K1, hK1⟩ : ∃ x, K + 1 = x := ⟨_, rfl⟩
                  rw [hK1] at M8 ⊢
                  have hjK : K < K1 := by omega
                  have hjK2 : K1 ≤ K + 1 := by omega
                  have hjK9 : K1 ≤ 9 := by omega
                  have HNL : Hid ((ns ++ [0]).length = K1) := Lib.hid (by rw [List.length_append, HKK.out, ← hK1]; rfl)
                  have HV : Hid (iAt (ns ++ [0]) K = 0) := Lib.hid (by rw [← HKK.out]; unfold iAt; rw [List.getD_eq_getElem?_getD, List.getElem?_append_right (Nat.le_refl _), Nat.sub_self]; rfl)
                  have HE : Hid (pcs y (k + 1) = (ns ++ [0]).set K (0 + 1) ∧ (pcs y (k + 1)).length = K1) := Lib.hid (by
                    have e := pcs_new hy HNW.out
                    rw [hns] at e
                    rw [e, ← HKK.out, List.set_append_right _ _ (Nat.le_refl _), Nat.sub_self, List.length_append, HKK.out, ← hK1]
                    exact ⟨rfl, rfl⟩)
                  obtain ⟨nz, hnz⟩ : ∃ x, ns ++ [0] = x := ⟨_, rfl⟩
                  rw [hnz] at M8 HNL HV HE
                  obtain ⟨v, hv⟩ : ∃ x, (0 : Int) = x := ⟨_, rfl⟩
                  have hvb : 0 ≤ v ∧ v ≤ 8 := by omega
                  rw [hv] at HV HE
                  obtain ⟨j, hj⟩ : ∃ x, K = x := ⟨_, rfl⟩
                  rw [hj] at hjK hjK2 HV HE
                  clear hv hnz hj hK1 h0B hns hK hy
                  obtain ⟨c0, c1, f0, f1, hgs⟩ := M8.out.cells (i := j) hjK (v := v) (by rw [dbS_at (by have := HNL.out; omega), HV.out])
                  have vj : IntKind.i64.wrap ((K1 : Int) - 1) = (j : Int) := by rw [IntWalk.i64_in _ (by omega)]; omega
                  have vv : IntKind.i64.wrap (v + 1) = v + 1 := IntWalk.i64_in _ (by omega)
                  have hjB : decide ((j : Int) < (K1 : Int)) = true := decide_eq_true (by omega)
                  go_upto_region 20 with (fail)
                  refine wp_region_L (by kernel_rfl) (fun W' => W'.cell? ⟨g, j * 2, none⟩ = some (.int .i64 v) ∧ W'.cell? ⟨g, j * 2 + 1, none⟩ = some (.int .i64 v)) 16 ?_
                  have hS : w7.drew.cell? ⟨g, j * 2, none⟩ = some (.int .i64 v) ∧ w7.drew.cell? ⟨g, j * 2 + 1, none⟩ = some (.int .i64 v) := ⟨c0, c1⟩
                  refine wpAnyL_take (i := 0) (v := ?_) rfl (by kernel_rfl) (by kernel_rfl) (by kernel_rfl) (by kernel_rfl) (fun _ _ _ h => h) hS (Or.inl ⟨by rfl, ?_⟩) ?_
                  rotate_left 1
                  · intro w9 hw9
                    obtain ⟨s0, s1⟩ := hw9
                    go_simp
                    try with_reducible rfl
                  try simp only [List.getElem_toArray, List.getElem_cons_zero, List.getElem_cons_succ, Act.put, List.setIfInBounds_toArray, List.set_cons_zero, List.set_cons_succ]
                  refine wpAnyL_take (i := 1) (v := ?_) rfl (by kernel_rfl) (by kernel_rfl) (by kernel_rfl) (by kernel_rfl) (fun _ _ _ h => h) hS (Or.inl ⟨by rfl, ?_⟩) ?_
                  rotate_left 1
                  · intro w9 hw9
                    obtain ⟨s0, s1⟩ := hw9
                    go_simp
                    try with_reducible rfl
                  try simp only [List.getElem_toArray, List.getElem_cons_zero, List.getElem_cons_succ, Act.put, List.setIfInBounds_toArray, List.set_cons_zero, List.set_cons_succ]
                  refine wpAnyL_take (i := 2) (v := ?_) rfl (by kernel_rfl) (by kernel_rfl) (by kernel_rfl) (by kernel_rfl) (fun _ _ _ h => h) hS (Or.inl ⟨by rfl, ?_⟩) ?_
                  rotate_left 1
                  · intro w9 hw9
                    obtain ⟨s0, s1⟩ := hw9
                    go_simp
                    try with_reducible rfl
                  try simp only [List.getElem_toArray, List.getElem_cons_zero, List.getElem_cons_succ, Act.put, List.setIfInBounds_toArray, List.set_cons_zero, List.set_cons_succ]
                  refine wpAnyL_take (i := 3) (v := ?_) rfl (by kernel_rfl) (by kernel_rfl) (by kernel_rfl) (by kernel_rfl) (fun _ _ _ h => h) hS (Or.inl ⟨by rfl, ?_⟩) ?_
                  rotate_left 1
                  · intro w9 hw9
                    obtain ⟨s0, s1⟩ := hw9
                    go_simp
                    try with_reducible rfl
                  try simp only [List.getElem_toArray, List.getElem_cons_zero, List.getElem_cons_succ, Act.put, List.setIfInBounds_toArray, List.set_cons_zero, List.set_cons_succ]
                  refine wpAnyL_take (i := 4) (v := ?_) rfl (by kernel_rfl) (by kernel_rfl) (by kernel_rfl) (by kernel_rfl) (fun _ _ _ h => h) hS (Or.inl ⟨by rfl, ?_⟩) ?_
                  rotate_left 1
                  · intro w9 hw9
                    obtain ⟨s0, s1⟩ := hw9
                    go_simp
                    try with_reducible rfl
                  try simp only [List.getElem_toArray, List.getElem_cons_zero, List.getElem_cons_succ, Act.put, List.setIfInBounds_toArray, List.set_cons_zero, List.set_cons_succ]
                  refine wpAnyL_take (i := 5) (v := ?_) rfl (by kernel_rfl) (by kernel_rfl) (by kernel_rfl) (by kernel_rfl) (fun _ _ _ h => h) hS (Or.inl ⟨by rfl, ?_⟩) ?_
                  rotate_left 1
                  · intro w9 hw9
                    obtain ⟨s0, s1⟩ := hw9
                    go_simp
                    try with_reducible rfl
                  try simp only [List.getElem_toArray, List.getElem_cons_zero, List.getElem_cons_succ, Act.put, List.setIfInBounds_toArray, List.set_cons_zero, List.set_cons_succ]
                  refine wpAnyL_take (i := 6) (v := ?_) rfl (by kernel_rfl) (by kernel_rfl) (by kernel_rfl) (by kernel_rfl) (fun _ _ _ h => h) hS (Or.inl ⟨by rfl, ?_⟩) ?_
                  rotate_left 1
                  · intro w9 hw9
                    obtain ⟨s0, s1⟩ := hw9
                    go_simp
                    try with_reducible rfl
                  try simp only [List.getElem_toArray, List.getElem_cons_zero, List.getElem_cons_succ, Act.put, List.setIfInBounds_toArray, List.set_cons_zero, List.set_cons_succ]
                  refine wpAnyL_take (i := 7) (v := ?_) rfl (by kernel_rfl) (by kernel_rfl) (by kernel_rfl) (by kernel_rfl) (fun _ _ _ h => h) hS (Or.inl ⟨by rfl, ?_⟩) ?_
                  rotate_left 1
                  · intro w9 hw9
                    obtain ⟨s0, s1⟩ := hw9
                    go_simp
                    try with_reducible rfl
                  try simp only [List.getElem_toArray, List.getElem_cons_zero, List.getElem_cons_succ, Act.put, List.setIfInBounds_toArray, List.set_cons_zero, List.set_cons_succ]
                  refine wpAnyL_take (i := 8) (v := ?_) rfl (by kernel_rfl) (by kernel_rfl) (by kernel_rfl) (by kernel_rfl) (fun _ _ _ h => h) hS (Or.inl ⟨by rfl, ?_⟩) ?_
                  rotate_left 1
                  · intro w9 hw9
                    obtain ⟨s0, s1⟩ := hw9
                    go_simp
                    try with_reducible rfl
                  try simp only [List.getElem_toArray, List.getElem_cons_zero, List.getElem_cons_succ, Act.put, List.setIfInBounds_toArray, List.set_cons_zero, List.set_cons_succ]
                  refine wpAnyL_take (i := 9) (v := ?_) rfl (by kernel_rfl) (by kernel_rfl) (by kernel_rfl) (by kernel_rfl) (fun _ _ _ h => h) hS (Or.inl ⟨by rfl, ?_⟩) ?_
                  rotate_left 1
                  · intro w9 hw9
                    obtain ⟨s0, s1⟩ := hw9
                    go_simp
                    try with_reducible rfl
                  try simp only [List.getElem_toArray, List.getElem_cons_zero, List.getElem_cons_succ, Act.put, List.setIfInBounds_toArray, List.set_cons_zero, List.set_cons_succ]
                  refine wpAnyL_take (i := 10) (v := ?_) rfl (by kernel_rfl) (by kernel_rfl) (by kernel_rfl) (by kernel_rfl) (fun _ _ _ h => h) hS (Or.inl ⟨by rfl, ?_⟩) ?_
                  rotate_left 1
                  · intro w9 hw9
                    obtain ⟨s0, s1⟩ := hw9
                    go_simp
                    try with_reducible rfl
                  try simp only [List.getElem_toArray, List.getElem_cons_zero, List.getElem_cons_succ, Act.put, List.setIfInBounds_toArray, List.set_cons_zero, List.set_cons_succ]
                  refine wpAnyL_take (i := 11) (v := ?_) rfl (by kernel_rfl) (by kernel_rfl) (by kernel_rfl) (by kernel_rfl) (fun _ _ _ h => h) hS (Or.inl ⟨by rfl, ?_⟩) ?_
                  rotate_left 1
                  · intro w9 hw9
                    obtain ⟨s0, s1⟩ := hw9
                    go_simp
                    try with_reducible rfl
                  try simp only [List.getElem_toArray, List.getElem_cons_zero, List.getElem_cons_succ, Act.put, List.setIfInBounds_toArray, List.set_cons_zero, List.set_cons_succ]
                  refine wpAnyL_take (i := 12) (v := ?_) rfl (by kernel_rfl) (by kernel_rfl) (by kernel_rfl) (by kernel_rfl) (fun _ _ _ h => h) hS (Or.inl ⟨by rfl, ?_⟩) ?_
                  rotate_left 1
                  · intro w9 hw9
                    obtain ⟨s0, s1⟩ := hw9
                    go_simp
                    try with_reducible rfl
                  try simp only [List.getElem_toArray, List.getElem_cons_zero, List.getElem_cons_succ, Act.put, List.setIfInBounds_toArray, List.set_cons_zero, List.set_cons_succ]
                  refine wpAnyL_take (i := 13) (v := ?_) rfl (by kernel_rfl) (by kernel_rfl) (by kernel_rfl) (by kernel_rfl) (fun _ _ _ h => h) hS (Or.inl ⟨by rfl, ?_⟩) ?_
                  rotate_left 1
                  · intro w9 hw9
                    obtain ⟨s0, s1⟩ := hw9
                    go_simp
                    try with_reducible rfl
                  try simp only [List.getElem_toArray, List.getElem_cons_zero, List.getElem_cons_succ, Act.put, List.setIfInBounds_toArray, List.set_cons_zero, List.set_cons_succ]
                  refine wpAnyL_take (i := 14) (v := ?_) rfl (by kernel_rfl) (by kernel_rfl) (by kernel_rfl) (by kernel_rfl) (fun _ _ _ h => h) hS (Or.inl ⟨by rfl, ?_⟩) ?_
                  rotate_left 1
                  · intro w9 hw9
                    obtain ⟨s0, s1⟩ := hw9
                    go_simp
                    try with_reducible rfl
                  try simp only [List.getElem_toArray, List.getElem_cons_zero, List.getElem_cons_succ, Act.put, List.setIfInBounds_toArray, List.set_cons_zero, List.set_cons_succ]
                  refine wpAnyL_take (i := 15) (v := ?_) rfl (by kernel_rfl) (by kernel_rfl) (by kernel_rfl) (by kernel_rfl) (fun _ _ _ h => h) hS (Or.inl ⟨by rfl, ?_⟩) ?_
                  rotate_left 1
                  · intro w9 hw9
                    obtain ⟨s0, s1⟩ := hw9
                    go_simp
                    try with_reducible rfl
                  try simp only [List.getElem_toArray, List.getElem_cons_zero, List.getElem_cons_succ, Act.put, List.setIfInBounds_toArray, List.set_cons_zero, List.set_cons_succ]
                  clear hS
                  refine wpAnyL_one (i := 16) (by kernel_rfl) rfl (fun Kc hKc => ?_)
                  go_simp
                  obtain ⟨Z, hZ⟩ : ∃ Z, (((w7.setCell ⟨g, j * 2, none⟩ (.int .i64 (v + 1))).setCell ⟨g, j * 2 + 1, none⟩ (.int .i64 (v + 1))).drew) = Z := ⟨_, rfl⟩
                  rw [hZ]
                  have M9 : Hid (PcM v3.heap.size (.slice (some ⟨g, 0, none⟩) K1 c5) v7 v6 K1 K1 K1 (dbS (pcs y (k + 1))) (List.replicate K1 0) (upN K1) Z) := by
                    rw [← hZ, HE.out.1, ← dbS_set]
                    exact Lib.hid ((M8.out.set hjK (v := v) (by rw [dbS_at (by have := HNL.out; omega), HV.out])).drew)
                  have B9 : Hid (Below v3.heap.size v3 Z) := Lib.hid (by rw [← hZ]; (repeat first | with_reducible assumption | with_reducible exact Below.refl _ _ | (with_reducible refine Below.alloc ?_ ?side _; case side => (first | omega | (with_reducible exact Below.size (by assumption)) | (simp; done) | (simp; omega))) | (with_reducible refine Below.setCell ?_ ?side _; case side => (first | omega | (with_reducible exact Below.size (by assumption)) | (simp; done) | (simp; omega))) | with_reducible refine Below.drew ?_ | with_reducible refine below_drewN ?_ _ | (with_reducible refine below_step (by assumption) ?side ?_; case side => (first | omega | (with_reducible exact Below.size (by assumption)) | (simp; done) | (simp; omega)))))
                  clear hZ
                  refine hKc.out _ _ (fun h => absurd rfl h) (fun _ => ?_)
                  clear hKc Kc
                  refine wpAnyL_done (by kernel_rfl) ?_ _
                  go_wp2_with fail
                  go_roundw
                  case rel => exact ⟨k + 1, by omega, by go_num, by rw [E2.out]; rfl, by rw [HE.out.2]; exact M9, B9⟩
                  case measure => simp [intOf]; omega
                case false =>
                  rw [hy1] at HX1
                  have HE0 : Hid (pcs y (k + 1) = ns.set (K - 1) (iAt ns (K - 1) + 1) ∧ (pcs y (k + 1)).length = K) := Lib.hid (by
                    have e := pcs_bump hy (by omega) hy1
                    rw [hns, hK] at e
                    rw [e, List.length_set]
                    exact ⟨rfl, hK⟩)
                  obtain ⟨kp, hkp⟩ : ∃ x, k - 1 = x := ⟨_, rfl⟩
                  rw [hkp] at HX1 vk1
                  obtain ⟨g, c5, e, hg, hgl⟩ := HM.out.p.form (by omega)
                  cases e
                  have HNL := HKK
                  have hvb0 := HBD.out (K - 1) (by omega)
                  obtain ⟨v, hv⟩ : ∃ x, iAt ns (K - 1) = x := ⟨_, rfl⟩
                  have HV0 := Lib.hid hv
                  rw [hv] at hvb0 HE0
                  have hvb : 0 ≤ v ∧ v ≤ 8 := by omega
                  have hjK0 : K - 1 < K := by omega
                  have hjK20 : K ≤ K - 1 + 1 := by omega
                  have hjK9 : K ≤ 9 := by omega
                  obtain ⟨j, hj⟩ : ∃ x, K - 1 = x := ⟨_, rfl⟩
                  rw [hj] at hjK0 hjK20 HV0 HE0
                  have HE := HE0
                  have hjK := hjK0
                  have hjK2 := hjK20
                  have HV := HV0
                  clear h0 hy1 hkp hv hvb0 hj hjK0 hjK20 HE0 HV0 hns hK hy
                  go_upto_region 19 with (go_at_call 9; first | ((with_reducible refine HX.out.mono ?_); (rintro e v98 ⟨rfl, rfl⟩)) | ((with_reducible refine HX1.out.mono ?_); (rintro e v98 ⟨rfl, rfl⟩)))
                  obtain ⟨c0, c1, f0, f1, hgs⟩ := HM.out.cells (i := j) hjK (v := v) (by rw [dbS_at (by have := HNL.out; omega), HV.out])
                  have vj : IntKind.i64.wrap ((K : Int) - 1) = (j : Int) := by rw [IntWalk.i64_in _ (by omega)]; omega
                  have vv : IntKind.i64.wrap (v + 1) = v + 1 := IntWalk.i64_in _ (by omega)
                  have hjB : decide ((j : Int) < (K : Int)) = true := decide_eq_true (by omega)
                  go_upto_region 20 with (fail)
                  refine wp_region_L (by kernel_rfl) (fun W' => W'.cell? ⟨g, j * 2, none⟩ = some (.int .i64 v) ∧ W'.cell? ⟨g, j * 2 + 1, none⟩ = some (.int .i64 v)) 16 ?_
                  have hS : wr.drew.cell? ⟨g, j * 2, none⟩ = some (.int .i64 v) ∧ wr.drew.cell? ⟨g, j * 2 + 1, none⟩ = some (.int .i64 v) := ⟨c0, c1⟩
                  refine wpAnyL_take (i := 0) (v := ?_) rfl (by kernel_rfl) (by kernel_rfl) (by kernel_rfl) (by kernel_rfl) (fun _ _ _ h => h) hS (Or.inl ⟨by rfl, ?_⟩) ?_
                  rotate_left 1
                  · intro w9 hw9
                    obtain ⟨s0, s1⟩ := hw9
                    go_simp
                    try with_reducible rfl
                  try simp only [List.getElem_toArray, List.getElem_cons_zero, List.getElem_cons_succ, Act.put, List.setIfInBounds_toArray, List.set_cons_zero, List.set_cons_succ]
                  refine wpAnyL_take (i := 1) (v := ?_) rfl (by kernel_rfl) (by kernel_rfl) (by kernel_rfl) (by kernel_rfl) (fun _ _ _ h => h) hS (Or.inl ⟨by rfl, ?_⟩) ?_
                  rotate_left 1
                  · intro w9 hw9
                    obtain ⟨s0, s1⟩ := hw9
                    go_simp
                    try with_reducible rfl
                  try simp only [List.getElem_toArray, List.getElem_cons_zero, List.getElem_cons_succ, Act.put, List.setIfInBounds_toArray, List.set_cons_zero, List.set_cons_succ]
                  refine wpAnyL_take (i := 2) (v := ?_) rfl (by kernel_rfl) (by kernel_rfl) (by kernel_rfl) (by kernel_rfl) (fun _ _ _ h => h) hS (Or.inl ⟨by rfl, ?_⟩) ?_
                  rotate_left 1
                  · intro w9 hw9
                    obtain ⟨s0, s1⟩ := hw9
                    go_simp
                    try with_reducible rfl
                  try simp only [List.getElem_toArray, List.getElem_cons_zero, List.getElem_cons_succ, Act.put, List.setIfInBounds_toArray, List.set_cons_zero, List.set_cons_succ]
                  refine wpAnyL_take (i := 3) (v := ?_) rfl (by kernel_rfl) (by kernel_rfl) (by kernel_rfl) (by kernel_rfl) (fun _ _ _ h => h) hS (Or.inl ⟨by rfl, ?_⟩) ?_
                  rotate_left 1
                  · intro w9 hw9
                    obtain ⟨s0, s1⟩ := hw9
                    go_simp
                    try with_reducible rfl
                  try simp only [List.getElem_toArray, List.getElem_cons_zero, List.getElem_cons_succ, Act.put, List.setIfInBounds_toArray, List.set_cons_zero, List.set_cons_succ]
                  refine wpAnyL_take (i := 4) (v := ?_) rfl (by kernel_rfl) (by kernel_rfl) (by kernel_rfl) (by kernel_rfl) (fun _ _ _ h => h) hS (Or.inl ⟨by rfl, ?_⟩) ?_
                  rotate_left 1
                  · intro w9 hw9
                    obtain ⟨s0, s1⟩ := hw9
                    go_simp
                    try with_reducible rfl
                  try simp only [List.getElem_toArray, List.getElem_cons_zero, List.getElem_cons_succ, Act.put, List.setIfInBounds_toArray, List.set_cons_zero, List.set_cons_succ]
                  refine wpAnyL_take (i := 5) (v := ?_) rfl (by kernel_rfl) (by kernel_rfl) (by kernel_rfl) (by kernel_rfl) (fun _ _ _ h => h) hS (Or.inl ⟨by rfl, ?_⟩) ?_
                  rotate_left 1
                  · intro w9 hw9
                    obtain ⟨s0, s1⟩ := hw9
                    go_simp
                    try with_reducible rfl
                  try simp only [List.getElem_toArray, List.getElem_cons_zero, List.getElem_cons_succ, Act.put, List.setIfInBounds_toArray, List.set_cons_zero, List.set_cons_succ]
                  refine wpAnyL_take (i := 6) (v := ?_) rfl (by kernel_rfl) (by kernel_rfl) (by kernel_rfl) (by kernel_rfl) (fun _ _ _ h => h) hS (Or.inl ⟨by rfl, ?_⟩) ?_
                  rotate_left 1
                  · intro w9 hw9
                    obtain ⟨s0, s1⟩ := hw9
                    go_simp
                    try with_reducible rfl
                  try simp only [List.getElem_toArray, List.getElem_cons_zero, List.getElem_cons_succ, Act.put, List.setIfInBounds_toArray, List.set_cons_zero, List.set_cons_succ]
                  refine wpAnyL_take (i := 7) (v := ?_) rfl (by kernel_rfl) (by kernel_rfl) (by kernel_rfl) (by kernel_rfl) (fun _ _ _ h => h) hS (Or.inl ⟨by rfl, ?_⟩) ?_
                  rotate_left 1
                  · intro w9 hw9
                    obtain ⟨s0, s1⟩ := hw9
                    go_simp
                    try with_reducible rfl
                  try simp only [List.getElem_toArray, List.getElem_cons_zero, List.getElem_cons_succ, Act.put, List.setIfInBounds_toArray, List.set_cons_zero, List.set_cons_succ]
                  refine wpAnyL_take (i := 8) (v := ?_) rfl (by kernel_rfl) (by kernel_rfl) (by kernel_rfl) (by kernel_rfl) (fun _ _ _ h => h) hS (Or.inl ⟨by rfl, ?_⟩) ?_
                  rotate_left 1
                  · intro w9 hw9
                    obtain ⟨s0, s1⟩ := hw9
                    go_simp
                    try with_reducible rfl
                  try simp only [List.getElem_toArray, List.getElem_cons_zero, List.getElem_cons_succ, Act.put, List.setIfInBounds_toArray, List.set_cons_zero, List.set_cons_succ]
                  refine wpAnyL_take (i := 9) (v := ?_) rfl (by kernel_rfl) (by kernel_rfl) (by kernel_rfl) (by kernel_rfl) (fun _ _ _ h => h) hS (Or.inl ⟨by rfl, ?_⟩) ?_
                  rotate_left 1
                  · intro w9 hw9
                    obtain ⟨s0, s1⟩ := hw9
                    go_simp
                    try with_reducible rfl
                  try simp only [List.getElem_toArray, List.getElem_cons_zero, List.getElem_cons_succ, Act.put, List.setIfInBounds_toArray, List.set_cons_zero, List.set_cons_succ]
                  refine wpAnyL_take (i := 10) (v := ?_) rfl (by kernel_rfl) (by kernel_rfl) (by kernel_rfl) (by kernel_rfl) (fun _ _ _ h => h) hS (Or.inl ⟨by rfl, ?_⟩) ?_
                  rotate_left 1
                  · intro w9 hw9
                    obtain ⟨s0, s1⟩ := hw9
                    go_simp
                    try with_reducible rfl
                  try simp only [List.getElem_toArray, List.getElem_cons_zero, List.getElem_cons_succ, Act.put, List.setIfInBounds_toArray, List.set_cons_zero, List.set_cons_succ]
                  refine wpAnyL_take (i := 11) (v := ?_) rfl (by kernel_rfl) (by kernel_rfl) (by kernel_rfl) (by kernel_rfl) (fun _ _ _ h => h) hS (Or.inl ⟨by rfl, ?_⟩) ?_
                  rotate_left 1
                  · intro w9 hw9
                    obtain ⟨s0, s1⟩ := hw9
                    go_simp
                    try with_reducible rfl
                  try simp only [List.getElem_toArray, List.getElem_cons_zero, List.getElem_cons_succ, Act.put, List.setIfInBounds_toArray, List.set_cons_zero, List.set_cons_succ]
                  refine wpAnyL_take (i := 12) (v := ?_) rfl (by kernel_rfl) (by kernel_rfl) (by kernel_rfl) (by kernel_rfl) (fun _ _ _ h => h) hS (Or.inl ⟨by rfl, ?_⟩) ?_
                  rotate_left 1
                  · intro w9 hw9
                    obtain ⟨s0, s1⟩ := hw9
                    go_simp
                    try with_reducible rfl
                  try simp only [List.getElem_toArray, List.getElem_cons_zero, List.getElem_cons_succ, Act.put, List.setIfInBounds_toArray, List.set_cons_zero, List.set_cons_succ]
                  refine wpAnyL_take (i := 13) (v := ?_) rfl (by kernel_rfl) (by kernel_rfl) (by kernel_rfl) (by kernel_rfl) (fun _ _ _ h => h) hS (Or.inl ⟨by rfl, ?_⟩) ?_
                  rotate_left 1
                  · intro w9 hw9
                    obtain ⟨s0, s1⟩ := hw9
                    go_simp
                    try with_reducible rfl
                  try simp only [List.getElem_toArray, List.getElem_cons_zero, List.getElem_cons_succ, Act.put, List.setIfInBounds_toArray, List.set_cons_zero, List.set_cons_succ]
                  refine wpAnyL_take (i := 14) (v := ?_) rfl (by kernel_rfl) (by kernel_rfl) (by kernel_rfl) (by kernel_rfl) (fun _ _ _ h => h) hS (Or.inl ⟨by rfl, ?_⟩) ?_
                  rotate_left 1
                  · intro w9 hw9
                    obtain ⟨s0, s1⟩ := hw9
                    go_simp
                    try with_reducible rfl
                  try simp only [List.getElem_toArray, List.getElem_cons_zero, List.getElem_cons_succ, Act.put, List.setIfInBounds_toArray, List.set_cons_zero, List.set_cons_succ]
                  refine wpAnyL_take (i := 15) (v := ?_) rfl (by kernel_rfl) (by kernel_rfl) (by kernel_rfl) (by kernel_rfl) (fun _ _ _ h => h) hS (Or.inl ⟨by rfl, ?_⟩) ?_
                  rotate_left 1
                  · intro w9 hw9
                    obtain ⟨s0, s1⟩ := hw9
                    go_simp
                    try with_reducible rfl
                  try simp only [List.getElem_toArray, List.getElem_cons_zero, List.getElem_cons_succ, Act.put, List.setIfInBounds_toArray, List.set_cons_zero, List.set_cons_succ]
                  clear hS
                  refine wpAnyL_one (i := 16) (by kernel_rfl) rfl (fun Kc hKc => ?_)
                  go_simp
                  obtain ⟨Z, hZ⟩ : ∃ Z, (((wr.setCell ⟨g, j * 2, none⟩ (.int .i64 (v + 1))).setCell ⟨g, j * 2 + 1, none⟩ (.int .i64 (v + 1))).drew) = Z := ⟨_, rfl⟩
                  rw [hZ]
                  have M9 : Hid (PcM v3.heap.size (.slice (some ⟨g, 0, none⟩) K cp) (.slice Aq K cq) u9 K K K (dbS (pcs y (k + 1))) (List.replicate K 0) (upN K) Z) := by
                    rw [← hZ, HE.out.1, ← dbS_set]
                    exact Lib.hid ((HM.out.set hjK (v := v) (by rw [dbS_at (by have := HNL.out; omega), HV.out])).drew)
                  have B9 : Hid (Below v3.heap.size v3 Z) := Lib.hid (by rw [← hZ]; (repeat first | with_reducible assumption | with_reducible exact Below.refl _ _ | (with_reducible refine Below.alloc ?_ ?side _; case side => (first | omega | (with_reducible exact Below.size (by assumption)) | (simp; done) | (simp; omega))) | (with_reducible refine Below.setCell ?_ ?side _; case side => (first | omega | (with_reducible exact Below.size (by assumption)) | (simp; done) | (simp; omega))) | with_reducible refine Below.drew ?_ | with_reducible refine below_drewN ?_ _ | (with_reducible refine below_step (by assumption) ?side ?_; case side => (first | omega | (with_reducible exact Below.size (by assumption)) | (simp; done) | (simp; omega)))))
                  clear hZ
                  refine hKc.out _ _ (fun h => absurd rfl h) (fun _ => ?_)
                  clear hKc Kc
                  refine wpAnyL_done (by kernel_rfl) ?_ _
                  go_wp2_with fail
                  go_roundw
                  case rel => exact ⟨k + 1, by omega, by go_num, by rw [E2.out]; rfl, by rw [HE.out.2]; exact M9, B9⟩
                  case measure => simp [intOf]; omega
          case neg =>
            obtain rfl : n = k := by omega
            have hkB : decide (((n : Nat) : Int) < n) = false := decide_eq_false (by omega)
            obtain ⟨ns, hns⟩ : ∃ x, pcs y n = x := ⟨_, rfl⟩
            rw [hns] at HM HPC HSM hK1 hK4 HSH
            obtain ⟨K, hK⟩ : ∃ x, ns.length = x := ⟨_, rfl⟩
            rw [hK] at HM HSM hK1 hK4 HSH
            obtain ⟨f, hf⟩ : ∃ x, lfC y n = x := ⟨_, rfl⟩
            rw [hf] at hlf1 hlf8 HSM ⊢
            obtain ⟨Ap, cp, rfl, -, -⟩ := SlAt.of_own (d := (⟨0, 0⟩ : Sp)) encS_len HM.out.p HM.out.pl
            obtain ⟨Aq, cq, rfl, -, -⟩ := SlAt.of_own (d := (0 : Int)) encI_len HM.out.q HM.out.ql
            obtain ⟨Aa, ca, rfl, -, -⟩ := SlAt.of_own (d := (0 : Int)) encI_len HM.out.a HM.out.al
            have SP := Lib.hid (sps_iff.2 (sl_of_own encS_len HM.out.p HM.out.pl))
            have SQ := Lib.hid (ints_iff.2 (sl_of_own (d := (0 : Int)) encI_len HM.out.q HM.out.ql))
            have SA := Lib.hid (ints_iff.2 (sl_of_own (d := (0 : Int)) encI_len HM.out.a HM.out.al))
            obtain ⟨jn, hjn⟩ : ∃ x, K - 1 = x := ⟨_, rfl⟩
            have hjn3 : jn ≤ 3 := by omega
            obtain ⟨P, hP⟩ : ∃ x, (jn : Int) * shl = x := ⟨_, rfl⟩
            have hP0 : 0 ≤ P := by rw [← hP]; exact Int.mul_nonneg (by omega) (by omega)
            have hP1 : P ≤ 3 * 9 := by rw [← hP]; exact Int.mul_le_mul (by omega) (by omega) (by omega) (by omega)
            obtain ⟨long, hlg⟩ : ∃ x, (f : Int) + P = x := ⟨_, rfl⟩
            have hlb : 1 ≤ long ∧ long ≤ 40 := by omega
            have HOK : Hid (PcOk ns K shl long) := Lib.hid ⟨hK, hK1, by omega, fun i hi => (by have := HPC.out i hi; omega), ⟨by omega, by omega⟩, by rw [HSM.out, hjn, Int.mul_comm, hP, hlg], ⟨by omega, by omega⟩⟩
            have vP : IntKind.i64.wrap ((jn : Int) * shl) = P := by rw [hP]; exact IntWalk.i64_in _ (by omega)
            have vL : IntKind.i64.wrap ((f : Int) + P) = long := by rw [hlg]; exact IntWalk.i64_in _ (by omega)
            have vL1 : IntKind.i64.wrap (long + 1) = long + 1 := IntWalk.i64_in _ (by omega)
            have vK1 : IntKind.i64.wrap ((K : Int) - 1) = (jn : Int) := by rw [IntWalk.i64_in _ (by omega)]; omega
            have d1 : decide ((K : Int) < 1) = false := decide_eq_false (by omega)
            have d2 : decide ((7 : Int) < (K : Int)) = false := decide_eq_false (by omega)
            have hK7 : K ≤ 7 := by omega
            have HBW := Lib.hid (B3.out.trans (hb.mono B3.out.size))
            rw [hjn] at HSH
            clear hns hK hf HPC HSM HIN hP hlg hjn HM HB hb
            obtain ⟨U, hU⟩ : ∃ x, wr = x := ⟨_, rfl⟩
            subst hU
            go_upto_region 22 with (go_at_call 10; (with_reducible refine (HSH.out B d wr HBW.out Ir.out).mono ?_); (rintro e w10 ⟨rfl, hb⟩); (have D10 := Lib.hid hb); clear qr lr; clear hb)
            go_upto_region 24 with (fail)
            clear HSH
            go_upto_region 26 with (go_at_call 11; (with_reducible refine (alone8p_c Ap _ ns K shl long w10 hK7 (SP.out.later D10.out)).mono ?_); (rintro e w11 ⟨A1, A2, A3, c3, rfl, ho, hb⟩); (have D11 := Lib.hid (D10.out.trans (hb.mono D10.out.size))); (have HO11 := Lib.hid ho); clear ho; clear hb)
            obtain ⟨g, hg⟩ : ∃ x, w11.heap.size = x := ⟨_, rfl⟩
            go_name_world V hV
            have BV := (al1 hV).1
            have HG12 : Hid (Blk V w11.heap.size 40 #[.slice A1 1 1, .slice A2 1 1, .slice A3 K c3, .int .i64 shl]) := by rw [← hV]; exact Lib.hid (Blk.new _ _ _)
            rw [hg] at HG12 ⊢
            have D12 := Lib.hid (D11.out.trans (BV.mono D11.out.size))
            have HO12 := Lib.hid (HO11.out.later BV)
            have k12 := HG12.out.cell
            have m12 := HG12.out.lt
            clear hV BV hg HO11
            go_upto_region 27 with (go_at_call 12; (with_reducible refine (makes8p_c HOK.out A1 A2 A3 c3 Aq _ V HO12.out (SQ.out.later D12.out)).mono ?_); (rintro e w13 ⟨rfl, hb⟩); (have D13 := Lib.hid (D12.out.trans (hb.mono D12.out.size))); (have HO13 := Lib.hid (HO12.out.later hb)); (have HG13 := Lib.hid (HG12.out.below hb HG12.out.lt)); (have k13 := HG13.out.cell); (have m13 := HG13.out.lt); clear hb k12 m12)
            go_upto_region 28 with (go_at_call 13; (with_reducible refine (fewest8p_c HOK.out A1 A2 A3 c3 w13 HO13.out).mono ?_); (rintro e w14 ⟨rfl, hb⟩); (have D14 := Lib.hid (D13.out.trans (hb.mono D13.out.size))); (have HO14 := Lib.hid (HO13.out.later hb)); (have HG14 := Lib.hid (HG13.out.below hb HG13.out.lt)); (have k14 := HG14.out.cell); (have m14 := HG14.out.lt); clear hb k13 m13)
            go_upto_region 29 with (go_at_call 14; (with_reducible refine (needed8p_c HOK.out A1 A2 A3 c3 w14 HO14.out).mono ?_); (rintro e w15 ⟨Nv, cN, rfl, hN, hb⟩); (have D15 := Lib.hid (D14.out.trans (hb.mono D14.out.size))); (have HO15 := Lib.hid (HO14.out.later hb)); (have HG15 := Lib.hid (HG14.out.below hb HG14.out.lt)); (have k15 := HG15.out.cell); (have m15 := HG15.out.lt); (have HN15 := Lib.hid hN); clear hN; clear hb k14 m14)
            clear k15 m15
            go_upto_region 30 with (first | (go_at_call 11; (with_reducible refine (alone8p_c Ap _ ns K shl (long + 1) w15 hK7 (SP.out.later D15.out)).mono ?_); (rintro e w16 ⟨A4, A5, A6, c6, rfl, ho, hb⟩); (have D16 := Lib.hid (D15.out.trans (hb.mono D15.out.size))); (have HO16 := Lib.hid ho); (have HN16 := Lib.hid (HN15.out.later hb)); clear ho; clear hb) | (go_at_call 12; (with_reducible refine (makes8q_c HOK.out A4 A5 A6 c6 Aq _ w16 HO16.out (SQ.out.later D16.out)).mono ?_); (rintro e w17 ⟨rfl, hb⟩); (have D17 := Lib.hid (D16.out.trans (hb.mono D16.out.size))); (have HN17 := Lib.hid (HN16.out.later hb)); clear hb))
            go_upto_region 31 with (first | (go_at_call 11; (with_reducible refine (alone8p_c Ap _ ns K shl (long + 1) w17 hK7 (SP.out.later D17.out)).mono ?_); (rintro e w18 ⟨A7, A8, A9, c9, rfl, ho, hb⟩); (have D18 := Lib.hid (D17.out.trans (hb.mono D17.out.size))); (have HO18 := Lib.hid ho); (have HN18 := Lib.hid (HN17.out.later hb)); clear ho; clear hb) | (go_at_call 13; (with_reducible refine (fewest8q_c HOK.out A7 A8 A9 c9 w18 HO18.out).mono ?_); (rintro e w19 ⟨rfl, hb⟩); (have D19 := Lib.hid (D18.out.trans (hb.mono D18.out.size))); (have HN19 := Lib.hid (HN18.out.later hb)); clear hb))
            go_wp2_with (first | (go_at_call 15; (with_reducible refine (same8p_c Nv Aa _ _ w19 hK7 HN19.out (SA.out.later D19.out)).mono ?_); (rintro e w20 ⟨rfl, hb⟩); (have D20 := Lib.hid (D19.out.trans (hb.mono D19.out.size))); clear hb) | (go_at_call 7; (refine (served_c _).mono ?_); (rintro e w21 ⟨rfl, hb⟩); (have D21 := Lib.hid (D20.out.trans (hb.mono D20.out.size))); clear hb))
            go_ret
            exact ⟨rfl, HBW.out.trans (D21.out.mono HBW.out.size)⟩

end Go.Proofs.YtcbeiadimchknaaGreat
