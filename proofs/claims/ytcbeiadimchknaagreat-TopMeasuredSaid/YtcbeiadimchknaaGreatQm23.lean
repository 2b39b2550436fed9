/- Check of the specification (layer 4). -/
import Derived.Test.YtcbeiadimchknaaGreatQm22
import Derived.Shelf.Abstract
import Derived.Laws.EntriesVeiled
import Derived.Handy
import Derived.Deep.DrawnRows
import Derived.Deep.DeepCutAuto
namespace Go.Proofs.YtcbeiadimchknaaGreat
open Go.RowKit
open Go.Sort (grow)
set_option linter.unusedVariables false
set_option linter.unusedSimpArgs false

theorem ck4_split {p : P4} {nr nd : Nat} (hr : p.rods.length = nr) (hd : p.res.length = nd) :
    ck4 p = (wn p.ir 0 50 && (wn p.glo 1 p.ghi && (decide (p.ghi ≤ 99999) && (wn p.wr 0 8 && (decide (nr ≤ 4) && (decide (nd ≤ 8) && ((allN nr fun k => ckRo4 (roAt p.rods k)) && (allN nd fun k => ckRe4 nr (reAt p.res k)))))))) ) := by
  have k1 : (allN nr fun k => ckRo4 (roAt p.rods k)) = p.rods.all ckRo4 := by rw [← hr]; exact allN_list
  have k2 : (allN nd fun k => ckRe4 nr (reAt p.res k)) = p.res.all (ckRe4 nr) := by rw [← hd]; exact allN_list
  rw [k1, k2]
  unfold ck4
  rw [hr, hd]
  simp only [Bool.and_assoc]
set_option maxRecDepth 100000 in
set_option maxHeartbeats 6400000 in
theorem refCheck4_c (Ar : Option Addr) (nr cr : Nat) (Ad : Option Addr) (nd cd : Nat) (p : P4) (w : World) (hnr : nr ≤ 40) (hnd : nd ≤ 40) (HM : MemP Ar nr Ad nd p w) :
    Calls Tryz.prog 17 #[.agg #[.int .i64 p.ir, .int .i64 p.glo, .int .i64 p.ghi, .slice Ar nr cr, .slice Ad nd cd, .int .i64 p.wr]] w fun e w' => e = .returned (.int .i64 (er4 (ck4 p))) ∧ Below w.heap.size w w' := by
  have HMI := Lib.hid HM
  have hck := ck4_split HM.hr.1 HM.hd.1
  obtain ⟨z, hz⟩ : ∃ x, er4 (ck4 p) = x := ⟨_, rfl⟩
  rw [hz]
  rw [hck] at hz
  clear hck HM
  obtain ⟨ir, glo, ghi, wrg, rods, res⟩ := p
  simp only at hz ⊢
  have c1 := fun V => refWithin4_c ir 0 50 V
  have c2 := fun V => refWithin4_c glo 1 ghi V
  have c3 := fun V => refWithin4_c wrg 0 8 V
  cases e1 : wn ir 0 50
  · rw [e1] at hz c1; have hck := Lib.hid hz; replace c1 := Lib.hid c1; replace c2 := Lib.hid c2; replace c3 := Lib.hid c3
    clear e1 hz
    go_enter Tryz.func17, Tryz.ntmps17
    go_wp2_with (go_at_call 41; (first | with_reducible refine (c1.out _).mono ?_ | with_reducible refine (c2.out _).mono ?_ | with_reducible refine (c3.out _).mono ?_); rintro e w' ⟨rfl, rfl⟩)
    go_ret
    exact ⟨ret_int hck.out, by (repeat first | with_reducible assumption | with_reducible exact Below.refl _ _ | (with_reducible refine Below.alloc ?_ ?side _; case side => (first | omega | (with_reducible exact Below.size (by assumption)) | (simp; done) | (simp; omega))) | (with_reducible refine Below.setCell ?_ ?side _; case side => (first | omega | (with_reducible exact Below.size (by assumption)) | (simp; done) | (simp; omega))) | with_reducible refine Below.drew ?_ | with_reducible refine below_drewN ?_ _ | (with_reducible refine below_step (by assumption) ?side ?_; case side => (first | omega | (with_reducible exact Below.size (by assumption)) | (simp; done) | (simp; omega))))⟩
  rw [e1] at hz c1; replace c1 := Lib.hid c1; clear e1
  cases e2 : wn glo 1 ghi
  · rw [e2] at hz c2; have hck := Lib.hid hz; replace c2 := Lib.hid c2; replace c3 := Lib.hid c3
    clear e2 hz
    go_enter Tryz.func17, Tryz.ntmps17
    go_wp2_with (go_at_call 41; (first | with_reducible refine (c1.out _).mono ?_ | with_reducible refine (c2.out _).mono ?_ | with_reducible refine (c3.out _).mono ?_); rintro e w' ⟨rfl, rfl⟩)
    go_ret
    exact ⟨ret_int hck.out, by (repeat first | with_reducible assumption | with_reducible exact Below.refl _ _ | (with_reducible refine Below.alloc ?_ ?side _; case side => (first | omega | (with_reducible exact Below.size (by assumption)) | (simp; done) | (simp; omega))) | (with_reducible refine Below.setCell ?_ ?side _; case side => (first | omega | (with_reducible exact Below.size (by assumption)) | (simp; done) | (simp; omega))) | with_reducible refine Below.drew ?_ | with_reducible refine below_drewN ?_ _ | (with_reducible refine below_step (by assumption) ?side ?_; case side => (first | omega | (with_reducible exact Below.size (by assumption)) | (simp; done) | (simp; omega))))⟩
  rw [e2] at hz c2; replace c2 := Lib.hid c2; clear e2
  by_cases g3 : ghi ≤ 99999
  case neg =>
    rw [decide_eq_false g3] at hz; have hck := Lib.hid hz; replace c3 := Lib.hid c3
    have gB : decide ((99999 : Int) < ghi) = true := by simp; omega
    clear hz
    go_enter Tryz.func17, Tryz.ntmps17
    go_wp2_with (go_at_call 41; (first | with_reducible refine (c1.out _).mono ?_ | with_reducible refine (c2.out _).mono ?_ | with_reducible refine (c3.out _).mono ?_); rintro e w' ⟨rfl, rfl⟩)
    go_ret
    exact ⟨ret_int hck.out, by (repeat first | with_reducible assumption | with_reducible exact Below.refl _ _ | (with_reducible refine Below.alloc ?_ ?side _; case side => (first | omega | (with_reducible exact Below.size (by assumption)) | (simp; done) | (simp; omega))) | (with_reducible refine Below.setCell ?_ ?side _; case side => (first | omega | (with_reducible exact Below.size (by assumption)) | (simp; done) | (simp; omega))) | with_reducible refine Below.drew ?_ | with_reducible refine below_drewN ?_ _ | (with_reducible refine below_step (by assumption) ?side ?_; case side => (first | omega | (with_reducible exact Below.size (by assumption)) | (simp; done) | (simp; omega))))⟩
  rw [decide_eq_true g3] at hz
  have g3B : decide ((99999 : Int) < ghi) = false := by simp; omega
  cases e4 : wn wrg 0 8
  · rw [e4] at hz c3; have hck := Lib.hid hz; replace c3 := Lib.hid c3
    clear hz e4
    go_enter Tryz.func17, Tryz.ntmps17
    go_wp2_with (go_at_call 41; (first | with_reducible refine (c1.out _).mono ?_ | with_reducible refine (c2.out _).mono ?_ | with_reducible refine (c3.out _).mono ?_); rintro e w' ⟨rfl, rfl⟩)
    go_ret
    exact ⟨ret_int hck.out, by (repeat first | with_reducible assumption | with_reducible exact Below.refl _ _ | (with_reducible refine Below.alloc ?_ ?side _; case side => (first | omega | (with_reducible exact Below.size (by assumption)) | (simp; done) | (simp; omega))) | (with_reducible refine Below.setCell ?_ ?side _; case side => (first | omega | (with_reducible exact Below.size (by assumption)) | (simp; done) | (simp; omega))) | with_reducible refine Below.drew ?_ | with_reducible refine below_drewN ?_ _ | (with_reducible refine below_step (by assumption) ?side ?_; case side => (first | omega | (with_reducible exact Below.size (by assumption)) | (simp; done) | (simp; omega))))⟩
  rw [e4] at hz c3; replace c3 := Lib.hid c3; clear e4
  by_cases g5 : nr ≤ 4
  case neg =>
    rw [decide_eq_false g5] at hz; have hck := Lib.hid hz
    have gB : decide ((4 : Int) < nr) = true := by simp; omega
    clear hz
    go_enter Tryz.func17, Tryz.ntmps17
    go_wp2_with (go_at_call 41; (first | with_reducible refine (c1.out _).mono ?_ | with_reducible refine (c2.out _).mono ?_ | with_reducible refine (c3.out _).mono ?_); rintro e w' ⟨rfl, rfl⟩)
    go_ret
    exact ⟨ret_int hck.out, by (repeat first | with_reducible assumption | with_reducible exact Below.refl _ _ | (with_reducible refine Below.alloc ?_ ?side _; case side => (first | omega | (with_reducible exact Below.size (by assumption)) | (simp; done) | (simp; omega))) | (with_reducible refine Below.setCell ?_ ?side _; case side => (first | omega | (with_reducible exact Below.size (by assumption)) | (simp; done) | (simp; omega))) | with_reducible refine Below.drew ?_ | with_reducible refine below_drewN ?_ _ | (with_reducible refine below_step (by assumption) ?side ?_; case side => (first | omega | (with_reducible exact Below.size (by assumption)) | (simp; done) | (simp; omega))))⟩
  rw [decide_eq_true g5] at hz
  have g5B : decide ((4 : Int) < nr) = false := by simp; omega
  by_cases g6 : nd ≤ 8
  case neg =>
    rw [decide_eq_false g6] at hz; have hck := Lib.hid hz
    have gB : decide ((8 : Int) < nd) = true := by simp; omega
    clear hz
    go_enter Tryz.func17, Tryz.ntmps17
    go_wp2_with (go_at_call 41; (first | with_reducible refine (c1.out _).mono ?_ | with_reducible refine (c2.out _).mono ?_ | with_reducible refine (c3.out _).mono ?_); rintro e w' ⟨rfl, rfl⟩)
    go_ret
    exact ⟨ret_int hck.out, by (repeat first | with_reducible assumption | with_reducible exact Below.refl _ _ | (with_reducible refine Below.alloc ?_ ?side _; case side => (first | omega | (with_reducible exact Below.size (by assumption)) | (simp; done) | (simp; omega))) | (with_reducible refine Below.setCell ?_ ?side _; case side => (first | omega | (with_reducible exact Below.size (by assumption)) | (simp; done) | (simp; omega))) | with_reducible refine Below.drew ?_ | with_reducible refine below_drewN ?_ _ | (with_reducible refine below_step (by assumption) ?side ?_; case side => (first | omega | (with_reducible exact Below.size (by assumption)) | (simp; done) | (simp; omega))))⟩
  rw [decide_eq_true g6] at hz
  have g6B : decide ((8 : Int) < nd) = false := by simp; omega
  simp only [Bool.true_and] at hz
  have HF1 : Hid (∀ k, k < nr → ckRo4 (roAt rods k) = false → z = 40) := Lib.hid (fun k hk h => by
    rw [← hz, show (allN nr fun k => ckRo4 (roAt rods k)) = false from allN_no hk h]; rfl)
  have HF2 : Hid (∀ k, k < nd → ckRe4 nr (reAt res k) = false → z = 40) := Lib.hid (fun k hk h => by
    rw [← hz, show (allN nd fun k => ckRe4 nr (reAt res k)) = false from allN_no hk h, Bool.and_false]; rfl)
  have HT : Hid ((∀ k, k < nr → ckRo4 (roAt rods k) = true) → (∀ k, k < nd → ckRe4 nr (reAt res k) = true) → z = 0) := Lib.hid (fun h1 h2 => by
    rw [← hz, allN_iff.2 h1, allN_iff.2 h2]; rfl)
  clear hz g3 g5
  go_enter Tryz.func17, Tryz.ntmps17
  go_upto_region 3 with (go_at_call 41; (first | with_reducible refine (c1.out _).mono ?_ | with_reducible refine (c2.out _).mono ?_ | with_reducible refine (c3.out _).mono ?_); rintro e w' ⟨rfl, rfl⟩)
  go_name_world X hX
  have BX : Below w.heap.size w X := (al1 hX).1
  have q0 := (al1_0 hX).2.1
  have l0 := (al1_0 hX).1
  clear hX c1 c2 c3
  go_wp2_with fail
  go_loopw [3] (fun i (wr : World) => ∃ k : Nat, k ≤ nr ∧ i = .int .i64 k ∧ Hid (∀ j, j < k → ckRo4 (roAt rods j) = true) ∧ Below X.heap.size X wr) (fun i _ => nr - (intOf i).toNat)
  case atStart => exact ⟨0, by omega, by simp, Lib.hid (fun j hj => absurd hj (by omega)), Below.refl _ _⟩
  case round =>
    obtain ⟨k, hk, rfl, H1, hbr⟩ := hrel
    have hw := Lib.hid (BX.trans (hbr.mono BX.size))
    have zr := hbr.size
    have q0r := fun j => (hbr.cell (p := ⟨w.heap.size, j, none⟩) l0).trans (q0 j)
    have l0r := Nat.lt_of_lt_of_le l0 zr
    by_cases hkn : k < nr
    · have hkB : decide ((k : Int) < nr) = true := by simp; omega
      have vk : IntKind.i64.wrap ((k : Int) + 1) = (k : Int) + 1 := IntWalk.i64_in _ (by omega)
      obtain ⟨b, o, hA, hb, x0, x1, x2⟩ := (HMI.out.hr.later hw.out).get hkn
      subst hA
      have HF := Lib.hid (HF1.out k hkn)
      have HN : Hid (ckRo4 (roAt rods k) = true → ∀ j, j < k + 1 → ckRo4 (roAt rods j) = true) := Lib.hid (fun h j hj => by
        rcases Nat.lt_succ_iff_lt_or_eq.1 hj with h' | rfl
        · exact H1.out j h'
        · exact h)
      obtain ⟨x, hx⟩ : ∃ x, roAt rods k = x := ⟨_, rfl⟩
      rw [hx] at x0 x1 x2 HF HN
      clear hx
      obtain ⟨lg, we, gr⟩ := x
      simp only at x0 x1 x2
      rw [show ckRo4 ⟨lg, we, gr⟩ = (wn lg 1 9999 && wn we 0 (min 9 (lg - 1)) && wn gr 0 50) from rfl] at HF HN
      go_upto_region 7 with (fail)
      go_name_world Y hY
      have BY : Below wr.heap.size wr Y := (al1 hY).1
      have qY := (al1_0 hY).2.1
      have lY := (al1_0 hY).1
      have BF := BX.trans ((hbr.trans (BY.mono zr)).mono BX.size)
      have BFX := hbr.trans (BY.mono zr)
      clear hY x0 x1 x2 q0r l0r
      have d1 := fun V => refWithin4_c lg 1 9999 V
      have d3 := fun V => refWithin4_c gr 0 50 V
      cases e1 : wn lg 1 9999
      · rw [e1] at d1 HF
        have hz40 := Lib.hid (HF.out (by simp))
        replace d1 := Lib.hid d1; replace d3 := Lib.hid d3
        clear e1
        go_wp2_with (go_at_call 41; (first | with_reducible refine (d1.out _).mono ?_ | with_reducible refine (d2.out _).mono ?_ | with_reducible refine (d3.out _).mono ?_); rintro e w' ⟨rfl, rfl⟩)
        go_ret
        exact ⟨ret_int hz40.out.symm, by (repeat first | with_reducible assumption | with_reducible exact Below.refl _ _ | (with_reducible refine Below.alloc ?_ ?side _; case side => (first | omega | (with_reducible exact Below.size (by assumption)) | (simp; done) | (simp; omega))) | (with_reducible refine Below.setCell ?_ ?side _; case side => (first | omega | (with_reducible exact Below.size (by assumption)) | (simp; done) | (simp; omega))) | with_reducible refine Below.drew ?_ | with_reducible refine below_drewN ?_ _ | (with_reducible refine below_step (by assumption) ?side ?_; case side => (first | omega | (with_reducible exact Below.size (by assumption)) | (simp; done) | (simp; omega))))⟩
      have hl := wn_true.1 e1
      have v1 : IntKind.i64.wrap (lg - 1) = lg - 1 := IntWalk.i64_in _ (by omega)
      obtain ⟨m, hm⟩ : ∃ m, min 9 (lg - 1) = m := ⟨_, rfl⟩
      rw [hm] at HF HN
      rw [e1] at d1 HF HN
      replace d1 := Lib.hid d1
      clear e1
      have d2 := fun V => refWithin4_c we 0 m V
      cases e2 : wn we 0 m
      · rw [e2] at d2 HF
        have hz40 := Lib.hid (HF.out (by simp))
        replace d2 := Lib.hid d2; replace d3 := Lib.hid d3
        clear e2
        by_cases h9 : lg - 1 < 9
        · obtain rfl : lg - 1 = m := by omega
          go_wp2_with (go_at_call 41; (first | with_reducible refine (d1.out _).mono ?_ | with_reducible refine (d2.out _).mono ?_ | with_reducible refine (d3.out _).mono ?_); rintro e w' ⟨rfl, rfl⟩)
          go_ret
          exact ⟨ret_int hz40.out.symm, by (repeat first | with_reducible assumption | with_reducible exact Below.refl _ _ | (with_reducible refine Below.alloc ?_ ?side _; case side => (first | omega | (with_reducible exact Below.size (by assumption)) | (simp; done) | (simp; omega))) | (with_reducible refine Below.setCell ?_ ?side _; case side => (first | omega | (with_reducible exact Below.size (by assumption)) | (simp; done) | (simp; omega))) | with_reducible refine Below.drew ?_ | with_reducible refine below_drewN ?_ _ | (with_reducible refine below_step (by assumption) ?side ?_; case side => (first | omega | (with_reducible exact Below.size (by assumption)) | (simp; done) | (simp; omega))))⟩
        · obtain rfl : 9 = m := by omega
          go_wp2_with (go_at_call 41; (first | with_reducible refine (d1.out _).mono ?_ | with_reducible refine (d2.out _).mono ?_ | with_reducible refine (d3.out _).mono ?_); rintro e w' ⟨rfl, rfl⟩)
          go_ret
          exact ⟨ret_int hz40.out.symm, by (repeat first | with_reducible assumption | with_reducible exact Below.refl _ _ | (with_reducible refine Below.alloc ?_ ?side _; case side => (first | omega | (with_reducible exact Below.size (by assumption)) | (simp; done) | (simp; omega))) | (with_reducible refine Below.setCell ?_ ?side _; case side => (first | omega | (with_reducible exact Below.size (by assumption)) | (simp; done) | (simp; omega))) | with_reducible refine Below.drew ?_ | with_reducible refine below_drewN ?_ _ | (with_reducible refine below_step (by assumption) ?side ?_; case side => (first | omega | (with_reducible exact Below.size (by assumption)) | (simp; done) | (simp; omega))))⟩
      rw [e2] at d2 HF HN
      replace d2 := Lib.hid d2
      clear e2
      cases e3 : wn gr 0 50
      · rw [e3] at d3 HF
        have hz40 := Lib.hid (HF.out (by simp))
        replace d3 := Lib.hid d3
        clear e3
        by_cases h9 : lg - 1 < 9
        · obtain rfl : lg - 1 = m := by omega
          go_wp2_with (go_at_call 41; (first | with_reducible refine (d1.out _).mono ?_ | with_reducible refine (d2.out _).mono ?_ | with_reducible refine (d3.out _).mono ?_); rintro e w' ⟨rfl, rfl⟩)
          go_ret
          exact ⟨ret_int hz40.out.symm, by (repeat first | with_reducible assumption | with_reducible exact Below.refl _ _ | (with_reducible refine Below.alloc ?_ ?side _; case side => (first | omega | (with_reducible exact Below.size (by assumption)) | (simp; done) | (simp; omega))) | (with_reducible refine Below.setCell ?_ ?side _; case side => (first | omega | (with_reducible exact Below.size (by assumption)) | (simp; done) | (simp; omega))) | with_reducible refine Below.drew ?_ | with_reducible refine below_drewN ?_ _ | (with_reducible refine below_step (by assumption) ?side ?_; case side => (first | omega | (with_reducible exact Below.size (by assumption)) | (simp; done) | (simp; omega))))⟩
        · obtain rfl : 9 = m := by omega
          go_wp2_with (go_at_call 41; (first | with_reducible refine (d1.out _).mono ?_ | with_reducible refine (d2.out _).mono ?_ | with_reducible refine (d3.out _).mono ?_); rintro e w' ⟨rfl, rfl⟩)
          go_ret
          exact ⟨ret_int hz40.out.symm, by (repeat first | with_reducible assumption | with_reducible exact Below.refl _ _ | (with_reducible refine Below.alloc ?_ ?side _; case side => (first | omega | (with_reducible exact Below.size (by assumption)) | (simp; done) | (simp; omega))) | (with_reducible refine Below.setCell ?_ ?side _; case side => (first | omega | (with_reducible exact Below.size (by assumption)) | (simp; done) | (simp; omega))) | with_reducible refine Below.drew ?_ | with_reducible refine below_drewN ?_ _ | (with_reducible refine below_step (by assumption) ?side ?_; case side => (first | omega | (with_reducible exact Below.size (by assumption)) | (simp; done) | (simp; omega))))⟩
      rw [e3] at d3 HN
      replace d3 := Lib.hid d3
      clear e3
      have HN2 := Lib.hid (HN.out rfl)
      by_cases h9 : lg - 1 < 9
      · obtain rfl : lg - 1 = m := by omega
        go_wp2_with (go_at_call 41; (first | with_reducible refine (d1.out _).mono ?_ | with_reducible refine (d2.out _).mono ?_ | with_reducible refine (d3.out _).mono ?_); rintro e w' ⟨rfl, rfl⟩)
        go_roundw
        case rel => exact ⟨k + 1, by omega, by go_num, HN2, BFX⟩
        case measure => simp [intOf]; omega
      · obtain rfl : 9 = m := by omega
        go_wp2_with (go_at_call 41; (first | with_reducible refine (d1.out _).mono ?_ | with_reducible refine (d2.out _).mono ?_ | with_reducible refine (d3.out _).mono ?_); rintro e w' ⟨rfl, rfl⟩)
        go_roundw
        case rel => exact ⟨k + 1, by omega, by go_num, HN2, BFX⟩
        case measure => simp [intOf]; omega
    · obtain rfl : k = nr := by omega
      have hkB : decide ((k : Int) < k) = false := by simp
      obtain ⟨X2, rfl⟩ : ∃ X2 : World, X2 = wr := ⟨_, rfl⟩
      have BX0 := hw.out
      clear BX hw hbr q0 l0 HF1 hkn
      replace BX := BX0
      clear BX0
      go_wp2_with fail
      go_loopw [5] (fun i (wr : World) => ∃ j : Nat, j ≤ nd ∧ i = .int .i64 j ∧ Hid (∀ i, i < j → ckRe4 k (reAt res i) = true) ∧ Below X2.heap.size X2 wr) (fun i _ => nd - (intOf i).toNat)
      case atStart => exact ⟨0, by omega, by simp, Lib.hid (fun j hj => absurd hj (by omega)), Below.refl _ _⟩
      case round =>
        obtain ⟨j, hj, rfl, H2, hbr⟩ := hrel
        have hw := Lib.hid (BX.trans (hbr.mono BX.size))
        have zs := hbr.size
        have q0s := fun j => (hbr.cell (p := ⟨w.heap.size, j, none⟩) l0r).trans (q0r j)
        have l0s := Nat.lt_of_lt_of_le l0r zs
        by_cases hjn : j < nd
        · have hjB : decide ((j : Int) < nd) = true := by simp; omega
          have vj : IntKind.i64.wrap ((j : Int) + 1) = (j : Int) + 1 := IntWalk.i64_in _ (by omega)
          obtain ⟨b, o, hA, hb, x0, x1, x2, x3, x4, x5, x6⟩ := (HMI.out.hd.later hw.out).get hjn
          have hc1 := Lib.hid (fun n V => isRod4_c ir glo ghi wrg Ar k cr Ad nd cd n V hnr)
          subst hA
          have HF := Lib.hid (HF2.out j hjn)
          have HN : Hid (ckRe4 k (reAt res j) = true → ∀ i, i < j + 1 → ckRe4 k (reAt res i) = true) := Lib.hid (fun h i hi => by
            rcases Nat.lt_succ_iff_lt_or_eq.1 hi with h' | rfl
            · exact H2.out i h'
            · exact h)
          obtain ⟨x, hx⟩ : ∃ x, reAt res j = x := ⟨_, rfl⟩
          rw [hx] at x0 x1 x2 x3 x4 x5 x6 HF HN
          clear hx
          obtain ⟨wh, rd, ct, rs, of, lo, hi⟩ := x
          simp only at x0 x1 x2 x3 x4 x5 x6
          have e0 : ckRe4 k ⟨wh, rd, ct, rs, of, lo, hi⟩ = (when4 wh && (wn rd 0 ((k : Int) - 1) && (wn ct 0 99 && (wn rs 0 9999 && (wn of 0 99 && (wn lo (-50) hi && decide (hi ≤ 50))))))) := by
            unfold ckRe4 when4
            simp only [Bool.and_assoc]
            cases h1 : (wh == 1) <;> cases h2 : (wh == 2) <;> simp_all
          rw [e0] at HF HN
          clear e0
          go_upto_region 13 with (fail)
          go_name_world Y hY
          have BY : Below wr.heap.size wr Y := (al1 hY).1
          have qY := (al1_0 hY).2.1
          have lY := (al1_0 hY).1
          have q0Y := fun j => (BY.cell (p := ⟨w.heap.size, j, none⟩) l0s).trans (q0s j)
          have l0Y := Nat.lt_of_lt_of_le l0s BY.size
          clear hY x0 x1 x2 x3 x4 x5 x6 q0s l0s
          have c0 := fun V => refIsWhen4_c wh V
          have c1 := fun V => hc1.out rd V
          have c2 := fun V => refWithin4_c ct 0 99 V
          have c3 := fun V => refWithin4_c rs 0 9999 V
          have c4 := fun V => refWithin4_c of 0 99 V
          have c5 := fun V => refWithin4_c lo (-50) hi V
          cases e0 : when4 wh
          · rw [e0] at c0 HF; replace c0 := Lib.hid c0; replace c1 := Lib.hid c1; replace c2 := Lib.hid c2; replace c3 := Lib.hid c3; replace c4 := Lib.hid c4; replace c5 := Lib.hid c5; clear e0
            have hz40 := Lib.hid (HF.out (by simp))
            go_wp2_with (first | (go_at_call 42; refine (c0.out _).mono ?_; rintro e w' ⟨rfl, rfl⟩) | (go_at_call 43; refine (c1.out _).mono ?_; (rintro e wZ ⟨rfl, hbZ⟩); (have qZ := fun j => (hbZ.cell (p := ⟨wr.heap.size, j, none⟩) lY).trans (qY j)); (have lZ := Nat.lt_of_lt_of_le lY hbZ.size); (have BZ := BY.trans (hbZ.mono BY.size)); clear hbZ) | (go_at_call 41; (first | with_reducible refine (c2.out _).mono ?_ | with_reducible refine (c3.out _).mono ?_ | with_reducible refine (c4.out _).mono ?_ | with_reducible refine (c5.out _).mono ?_); rintro e w' ⟨rfl, rfl⟩))
            go_ret
            exact ⟨ret_int hz40.out.symm, by first | exact BX.trans ((hbr.trans (BZ.mono hbr.size)).mono BX.size) | exact BX.trans ((hbr.trans (BY.mono hbr.size)).mono BX.size)⟩
          rw [e0] at c0 HF HN; replace c0 := Lib.hid c0; clear e0
          cases e1 : wn rd 0 ((k : Int) - 1)
          · rw [e1] at c1 HF; replace c1 := Lib.hid c1; replace c2 := Lib.hid c2; replace c3 := Lib.hid c3; replace c4 := Lib.hid c4; replace c5 := Lib.hid c5; clear e1
            have hz40 := Lib.hid (HF.out (by simp))
            go_wp2_with (first | (go_at_call 42; refine (c0.out _).mono ?_; rintro e w' ⟨rfl, rfl⟩) | (go_at_call 43; refine (c1.out _).mono ?_; (rintro e wZ ⟨rfl, hbZ⟩); (have qZ := fun j => (hbZ.cell (p := ⟨wr.heap.size, j, none⟩) lY).trans (qY j)); (have lZ := Nat.lt_of_lt_of_le lY hbZ.size); (have BZ := BY.trans (hbZ.mono BY.size)); clear hbZ) | (go_at_call 41; (first | with_reducible refine (c2.out _).mono ?_ | with_reducible refine (c3.out _).mono ?_ | with_reducible refine (c4.out _).mono ?_ | with_reducible refine (c5.out _).mono ?_); rintro e w' ⟨rfl, rfl⟩))
            go_ret
            exact ⟨ret_int hz40.out.symm, by first | exact BX.trans ((hbr.trans (BZ.mono hbr.size)).mono BX.size) | exact BX.trans ((hbr.trans (BY.mono hbr.size)).mono BX.size)⟩
          rw [e1] at c1 HF HN; replace c1 := Lib.hid c1; clear e1
          cases e2 : wn ct 0 99
          · rw [e2] at c2 HF; replace c2 := Lib.hid c2; replace c3 := Lib.hid c3; replace c4 := Lib.hid c4; replace c5 := Lib.hid c5; clear e2
            have hz40 := Lib.hid (HF.out (by simp))
            go_wp2_with (first | (go_at_call 42; refine (c0.out _).mono ?_; rintro e w' ⟨rfl, rfl⟩) | (go_at_call 43; refine (c1.out _).mono ?_; (rintro e wZ ⟨rfl, hbZ⟩); (have qZ := fun j => (hbZ.cell (p := ⟨wr.heap.size, j, none⟩) lY).trans (qY j)); (have lZ := Nat.lt_of_lt_of_le lY hbZ.size); (have BZ := BY.trans (hbZ.mono BY.size)); clear hbZ) | (go_at_call 41; (first | with_reducible refine (c2.out _).mono ?_ | with_reducible refine (c3.out _).mono ?_ | with_reducible refine (c4.out _).mono ?_ | with_reducible refine (c5.out _).mono ?_); rintro e w' ⟨rfl, rfl⟩))
            go_ret
            exact ⟨ret_int hz40.out.symm, by first | exact BX.trans ((hbr.trans (BZ.mono hbr.size)).mono BX.size) | exact BX.trans ((hbr.trans (BY.mono hbr.size)).mono BX.size)⟩
          rw [e2] at c2 HF HN; replace c2 := Lib.hid c2; clear e2
          cases e3 : wn rs 0 9999
          · rw [e3] at c3 HF; replace c3 := Lib.hid c3; replace c4 := Lib.hid c4; replace c5 := Lib.hid c5; clear e3
            have hz40 := Lib.hid (HF.out (by simp))
            go_wp2_with (first | (go_at_call 42; refine (c0.out _).mono ?_; rintro e w' ⟨rfl, rfl⟩) | (go_at_call 43; refine (c1.out _).mono ?_; (rintro e wZ ⟨rfl, hbZ⟩); (have qZ := fun j => (hbZ.cell (p := ⟨wr.heap.size, j, none⟩) lY).trans (qY j)); (have lZ := Nat.lt_of_lt_of_le lY hbZ.size); (have BZ := BY.trans (hbZ.mono BY.size)); clear hbZ) | (go_at_call 41; (first | with_reducible refine (c2.out _).mono ?_ | with_reducible refine (c3.out _).mono ?_ | with_reducible refine (c4.out _).mono ?_ | with_reducible refine (c5.out _).mono ?_); rintro e w' ⟨rfl, rfl⟩))
            go_ret
            exact ⟨ret_int hz40.out.symm, by first | exact BX.trans ((hbr.trans (BZ.mono hbr.size)).mono BX.size) | exact BX.trans ((hbr.trans (BY.mono hbr.size)).mono BX.size)⟩
          rw [e3] at c3 HF HN; replace c3 := Lib.hid c3; clear e3
          cases e4 : wn of 0 99
          · rw [e4] at c4 HF; replace c4 := Lib.hid c4; replace c5 := Lib.hid c5; clear e4
            have hz40 := Lib.hid (HF.out (by simp))
            go_wp2_with (first | (go_at_call 42; refine (c0.out _).mono ?_; rintro e w' ⟨rfl, rfl⟩) | (go_at_call 43; refine (c1.out _).mono ?_; (rintro e wZ ⟨rfl, hbZ⟩); (have qZ := fun j => (hbZ.cell (p := ⟨wr.heap.size, j, none⟩) lY).trans (qY j)); (have lZ := Nat.lt_of_lt_of_le lY hbZ.size); (have BZ := BY.trans (hbZ.mono BY.size)); clear hbZ) | (go_at_call 41; (first | with_reducible refine (c2.out _).mono ?_ | with_reducible refine (c3.out _).mono ?_ | with_reducible refine (c4.out _).mono ?_ | with_reducible refine (c5.out _).mono ?_); rintro e w' ⟨rfl, rfl⟩))
            go_ret
            exact ⟨ret_int hz40.out.symm, by first | exact BX.trans ((hbr.trans (BZ.mono hbr.size)).mono BX.size) | exact BX.trans ((hbr.trans (BY.mono hbr.size)).mono BX.size)⟩
          rw [e4] at c4 HF HN; replace c4 := Lib.hid c4; clear e4
          cases e5 : wn lo (-50) hi
          · rw [e5] at c5 HF; replace c5 := Lib.hid c5; clear e5
            have hz40 := Lib.hid (HF.out (by simp))
            go_wp2_with (first | (go_at_call 42; refine (c0.out _).mono ?_; rintro e w' ⟨rfl, rfl⟩) | (go_at_call 43; refine (c1.out _).mono ?_; (rintro e wZ ⟨rfl, hbZ⟩); (have qZ := fun j => (hbZ.cell (p := ⟨wr.heap.size, j, none⟩) lY).trans (qY j)); (have lZ := Nat.lt_of_lt_of_le lY hbZ.size); (have BZ := BY.trans (hbZ.mono BY.size)); clear hbZ) | (go_at_call 41; (first | with_reducible refine (c2.out _).mono ?_ | with_reducible refine (c3.out _).mono ?_ | with_reducible refine (c4.out _).mono ?_ | with_reducible refine (c5.out _).mono ?_); rintro e w' ⟨rfl, rfl⟩))
            go_ret
            exact ⟨ret_int hz40.out.symm, by first | exact BX.trans ((hbr.trans (BZ.mono hbr.size)).mono BX.size) | exact BX.trans ((hbr.trans (BY.mono hbr.size)).mono BX.size)⟩
          rw [e5] at c5 HF HN; replace c5 := Lib.hid c5; clear e5
          by_cases g6 : hi ≤ 50
          case neg =>
            have hz40 := Lib.hid (HF.out (by simp [g6]))
            have gB : decide ((50 : Int) < hi) = true := by simp; omega
            go_wp2_with (first | (go_at_call 42; refine (c0.out _).mono ?_; rintro e w' ⟨rfl, rfl⟩) | (go_at_call 43; refine (c1.out _).mono ?_; (rintro e wZ ⟨rfl, hbZ⟩); (have qZ := fun j => (hbZ.cell (p := ⟨wr.heap.size, j, none⟩) lY).trans (qY j)); (have lZ := Nat.lt_of_lt_of_le lY hbZ.size); (have BZ := BY.trans (hbZ.mono BY.size)); clear hbZ) | (go_at_call 41; (first | with_reducible refine (c2.out _).mono ?_ | with_reducible refine (c3.out _).mono ?_ | with_reducible refine (c4.out _).mono ?_ | with_reducible refine (c5.out _).mono ?_); rintro e w' ⟨rfl, rfl⟩))
            go_ret
            exact ⟨ret_int hz40.out.symm, by first | exact BX.trans ((hbr.trans (BZ.mono hbr.size)).mono BX.size) | exact BX.trans ((hbr.trans (BY.mono hbr.size)).mono BX.size)⟩
          have gB : decide ((50 : Int) < hi) = false := by simp; omega
          have HN2 := Lib.hid (HN.out (by simp [g6]))
          go_wp2_with (first | (go_at_call 42; refine (c0.out _).mono ?_; rintro e w' ⟨rfl, rfl⟩) | (go_at_call 43; refine (c1.out _).mono ?_; (rintro e wZ ⟨rfl, hbZ⟩); (have qZ := fun j => (hbZ.cell (p := ⟨wr.heap.size, j, none⟩) lY).trans (qY j)); (have lZ := Nat.lt_of_lt_of_le lY hbZ.size); (have BZ := BY.trans (hbZ.mono BY.size)); clear hbZ) | (go_at_call 41; (first | with_reducible refine (c2.out _).mono ?_ | with_reducible refine (c3.out _).mono ?_ | with_reducible refine (c4.out _).mono ?_ | with_reducible refine (c5.out _).mono ?_); rintro e w' ⟨rfl, rfl⟩))
          go_roundw
          case rel => exact ⟨j + 1, by omega, by go_num, HN2, hbr.trans (BZ.mono hbr.size)⟩
          case measure => simp [intOf]; omega
        · obtain rfl : j = nd := by omega
          have hjB : decide ((j : Int) < j) = false := by simp
          have hz0 := Lib.hid (HT.out H1.out H2.out)
          clear HT H1 H2
          go_wp2_with fail
          go_ret
          exact ⟨ret_int hz0.out.symm, hw.out⟩

end Go.Proofs.YtcbeiadimchknaaGreat
