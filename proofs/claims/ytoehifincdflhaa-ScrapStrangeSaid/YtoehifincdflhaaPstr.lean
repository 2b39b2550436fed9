/- ScrapStrange (layer 11): for every book the statement returns true, and the argument reads as before. -/
import Derived.Test.YtoehifincdflhaaSq11
import Derived.Test.YtoehifincdflhaaWk11
import Derived.Test.YtoehifincdflhaaFa11
import Derived.Test.YtoehifincdflhaaSa11
import Derived.Test.YtoehifincdflhaaJb11
namespace Go.Proofs.Ytoehifincdflhaa
open Go.RowKit Go.ChangeShapes Go.WideShapes Go.ChangeAt Go.Deep Go.Joins
open Go.Sort (grow)
set_option linter.unusedVariables false

theorem same_yes (n : Nat) (xs : List Int) : (n == n && allN n fun k => iAt xs k == iAt xs k) = true := by
  rw [allN_iff.2 fun k _ => by simp]; simp
theorem ints_none (w : World) : IntsAt w none 0 [] := ⟨rfl, fun h => absurd h (by omega)⟩
set_option maxRecDepth 100000 in
set_option maxHeartbeats 6400000 in
theorem StrangeLaw_c (Ap Al : Option Addr) (np cp nl cl : Nat) (wrg : Int) (pl : List Sp) (ls : List Ln) (w : World) (hp : np ≤ 9223372036854775807) (hl : nl ≤ 9223372036854775807) (HP : SpsAt w Ap np pl) (HL : LnsAt w Al nl ls) :
    Calls Try.prog 7 #[.agg #[.slice Ap np cp, .slice Al nl cl, .int .i64 wrg]] w
      fun e w' => e = .returned (.bool true) ∧ Below w.heap.size w w' := by
  have HPI := Lib.hid HP
  have HLI := Lib.hid HL
  have lpI := Lib.hid HP.1
  have llI := Lib.hid HL.1
  clear HP HL
  by_cases hbig : 40 < np ∨ 40 < nl
  · skip
    go_enter Try.func7, Try.ntmps7
    go_wp2_with fail
    go_at_call 29
    refine (FarBig_c Ap Al np cp nl cl wrg _ hbig hp hl).mono ?_
    rintro e w1 ⟨rfl, hb1⟩
    have z1 := hb1.size
    simp only [World.size_alloc] at z1
    go_wp2_with (go_at_call 13; refine (works_c _).mono ?_; (rintro e w8 ⟨rfl, hb8⟩))
    go_ret
    exact ⟨rfl, by (repeat first | with_reducible assumption | with_reducible exact Below.refl _ _ | (with_reducible refine Below.alloc ?_ ?side _; case side => (first | omega | (with_reducible exact Below.size (by assumption)) | (simp; done) | (simp; omega))) | (with_reducible refine Below.setCell ?_ ?side _; case side => (first | omega | (with_reducible exact Below.size (by assumption)) | (simp; done) | (simp; omega))) | with_reducible refine Below.drew ?_ | with_reducible refine below_drewN ?_ _ | (with_reducible refine below_step (by assumption) ?side ?_; case side => (first | omega | (with_reducible exact Below.size (by assumption)) | (simp; done) | (simp; omega))))⟩
  have hp40 : np ≤ 40 := by omega
  have hl40 : nl ≤ 40 := by omega
  clear hbig hp hl
  by_cases hr : farB np nl pl ls wrg = true
  · skip
    go_enter Try.func7, Try.ntmps7
    go_wp2_with fail
    go_at_call 29
    refine (Far_c Ap Al np cp nl cl wrg pl ls _ hp40 hl40 (HPI.out.later (by (repeat first | with_reducible assumption | with_reducible exact Below.refl _ _ | (with_reducible refine Below.alloc ?_ ?side _; case side => (first | omega | (with_reducible exact Below.size (by assumption)) | (simp; done) | (simp; omega))) | (with_reducible refine Below.setCell ?_ ?side _; case side => (first | omega | (with_reducible exact Below.size (by assumption)) | (simp; done) | (simp; omega))) | with_reducible refine Below.drew ?_ | with_reducible refine below_drewN ?_ _ | (with_reducible refine below_step (by assumption) ?side ?_; case side => (first | omega | (with_reducible exact Below.size (by assumption)) | (simp; done) | (simp; omega)))))) (HLI.out.later (by (repeat first | with_reducible assumption | with_reducible exact Below.refl _ _ | (with_reducible refine Below.alloc ?_ ?side _; case side => (first | omega | (with_reducible exact Below.size (by assumption)) | (simp; done) | (simp; omega))) | (with_reducible refine Below.setCell ?_ ?side _; case side => (first | omega | (with_reducible exact Below.size (by assumption)) | (simp; done) | (simp; omega))) | with_reducible refine Below.drew ?_ | with_reducible refine below_drewN ?_ _ | (with_reducible refine below_step (by assumption) ?side ?_; case side => (first | omega | (with_reducible exact Below.size (by assumption)) | (simp; done) | (simp; omega))))))).mono ?_
    rw [hr]
    rintro e w1 ⟨rfl, hb1⟩
    have z1 := hb1.size
    simp only [World.size_alloc] at z1
    go_wp2_with (go_at_call 13; refine (works_c _).mono ?_; (rintro e w8 ⟨rfl, hb8⟩))
    go_ret
    exact ⟨rfl, by (repeat first | with_reducible assumption | with_reducible exact Below.refl _ _ | (with_reducible refine Below.alloc ?_ ?side _; case side => (first | omega | (with_reducible exact Below.size (by assumption)) | (simp; done) | (simp; omega))) | (with_reducible refine Below.setCell ?_ ?side _; case side => (first | omega | (with_reducible exact Below.size (by assumption)) | (simp; done) | (simp; omega))) | with_reducible refine Below.drew ?_ | with_reducible refine below_drewN ?_ _ | (with_reducible refine below_step (by assumption) ?side ?_; case side => (first | omega | (with_reducible exact Below.size (by assumption)) | (simp; done) | (simp; omega))))⟩
  replace hr : farB np nl pl ls wrg = false := by simpa using hr
  have HR := Lib.hid hr
  clear hr
  obtain ⟨z, hz⟩ : ∃ z, askZ np nl pl ls wrg true = z := ⟨_, rfl⟩
  have hzF : askF np nl pl ls wrg true = z := by rw [ask_eq lpI.out llI.out]; exact hz
  have HFar : ∀ (A B : Option Addr) (c d : Nat) (Z : World), Calls Try.prog 18 #[.agg #[.slice A nl c, .slice B nl d]] Z fun e Z' => e = .returned (.bool false) ∧ Below Z.heap.size Z Z' := fun A B c d Z => by
    have := farPlan_c A B nl c nl d Z
    rwa [show (decide (40 < nl) || decide (40 < nl)) = false by simp; omega] at this
  have HFarI := Lib.hid HFar
  clear HFar
  by_cases h0 : z = 0
  · subst h0
    have hck := (askZ_zero hz).1
    have hctx := ctx_of lpI.out llI.out hck
    obtain ⟨-, hw0, -⟩ := okBk_of lpI.out llI.out hck
    obtain ⟨s0, hs0⟩ : ∃ s0, (truthSets np nl pl ls wrg)[0]? = some s0 := by
      have := (askZ_zero hz).2.2
      cases h : truthSets np nl pl ls wrg with
      | nil => rw [h] at this; cases this
      | cons a l => exact ⟨a, rfl⟩
    have htr := plan_truth hctx hw0 (List.mem_of_getElem? hs0)
    have hse := str_eq hctx hw0
    obtain ⟨g, hg⟩ : ∃ g, (strL np nl pl ls wrg).length = g := ⟨_, rfl⟩
    obtain ⟨LI, hLI⟩ : ∃ LI, ((strL np nl pl ls wrg).map fun k : Nat => (k : Int)) = LI := ⟨_, rfl⟩
    have hg40 : g ≤ 40 := by
      have := strK_len (np := np) (nl := nl) (pl := pl) (ls := ls) (wrg := wrg) nl
      rw [← hg]
      exact Nat.le_trans this hl40
    obtain ⟨WS, hWS⟩ : ∃ WS, plW np nl pl ls s0 nl = WS := ⟨_, rfl⟩
    obtain ⟨SS', hSS⟩ : ∃ SS', plS np nl pl ls s0 nl = SS' := ⟨_, rfl⟩
    have F1 : ∀ (B1 B2 : Option Addr) (d1 d2 : Nat) Z, SpsAt Z B1 np pl → LnsAt Z B2 nl ls → Calls Try.prog 21 #[.agg #[.slice B1 np d1, .slice B2 nl d2, .int .i64 wrg]] Z fun e Z' => ∃ A c, e = .returned (.tuple #[.slice A g c, .int .i64 0]) ∧ IntsAt Z' A g LI ∧ Below Z.heap.size Z Z' := fun B1 B2 d1 d2 Z h1 h2 =>
      (Strange_c B1 B2 np d1 nl d2 wrg pl ls Z hp40 hl40 h1 h2).mono fun e Z' ⟨hb, h⟩ => by
        rcases h with ⟨h, -⟩ | ⟨-, A, c, h3, h4⟩
        · exact absurd hz h
        · rw [hg] at h3 h4
          rw [hLI] at h4
          exact ⟨A, c, h3, h4, hb⟩
    have F2 : ∀ Z, SpsAt Z Ap np pl → LnsAt Z Al nl ls → Calls Try.prog 34 #[.agg #[.slice Ap np cp, .slice Al nl cl, .int .i64 wrg]] Z fun e Z' => ∃ A c, e = .returned (.tuple #[.slice A g c, .int .i64 0]) ∧ IntsAt Z' A g LI ∧ Below Z.heap.size Z Z' := fun Z h1 h2 =>
      (refStrange_c Ap Al np cp nl cl wrg pl ls Z hp40 hl40 h1 h2).mono fun e Z' ⟨h, hb⟩ => by
        rw [hzF] at h
        rw [← hse] at h
        obtain ⟨A, c, h3, h4⟩ := h
        rw [hg] at h3 h4
        rw [hLI] at h4
        exact ⟨A, c, h3, h4, hb⟩
    have F3 : ∀ (B1 B2 : Option Addr) (d1 d2 : Nat) Z, SpsAt Z B1 np pl → LnsAt Z B2 nl ls → Calls Try.prog 35 #[.agg #[.slice B1 np d1, .slice B2 nl d2, .int .i64 wrg]] Z fun e Z' => ∃ A c B d, e = .returned (.tuple #[.agg #[.slice A nl c, .slice B nl d], .int .i64 0]) ∧ IntsAt Z' A nl WS ∧ IntsAt Z' B nl SS' ∧ Below Z.heap.size Z Z' := fun B1 B2 d1 d2 Z h1 h2 =>
      (Plan_c B1 B2 np d1 nl d2 wrg pl ls Z hp40 hl40 h1 h2).mono fun e Z' ⟨hb, h⟩ => by
        rcases h with ⟨h, -⟩ | ⟨-, s1, A, c, B, d, h3, h4, h5, h6⟩
        · exact absurd hz h
        · obtain rfl : s0 = s1 := by rw [hs0] at h3; exact Option.some.inj h3
          rw [hWS] at h5
          rw [hSS] at h6
          exact ⟨A, c, B, d, h4, h5, h6, hb⟩
    have F4 : ∀ (A B : Option Addr) (c d : Nat) Z, IntsAt Z A g LI → IntsAt Z B g LI → Calls Try.prog 36 #[.slice A g c, .slice B g d] Z fun e Z' => e = .returned (.bool true) ∧ Below Z.heap.size Z Z' := fun A B c d Z h1 h2 => by
      have := SameInts_c A B g g c d LI LI Z hg40 hg40 h1 h2
      rwa [same_yes] at this
    have F6 : ∀ (A B : Option Addr) (c d : Nat) Z, SpsAt Z Ap np pl → LnsAt Z Al nl ls → IntsAt Z A nl WS → IntsAt Z B nl SS' → Calls Try.prog 19 #[.agg #[.slice Ap np cp, .slice Al nl cl, .int .i64 wrg], .agg #[.slice A nl c, .slice B nl d]] Z fun e Z' => e = .returned (.bool true) ∧ Below Z.heap.size Z Z' := fun A B c d Z h1 h2 h3 h4 => by
      have := IsTruth_c Ap Al A B np cp nl cl nl c nl d wrg pl ls WS SS' Z hctx.ok hl40 hl40 h1 h2 h3 h4
      rw [← hWS, ← hSS] at this
      rwa [htr] at this
    replace F1 := Lib.hid F1
    replace F2 := Lib.hid F2
    replace F3 := Lib.hid F3
    replace F4 := Lib.hid F4
    replace F6 := Lib.hid F6
    clear hz hzF hck hctx hw0 hs0 htr hse hg hLI hWS hSS
    go_enter Try.func7, Try.ntmps7
    go_wp2_with fail
    go_at_call 29
    refine (Far_c Ap Al np cp nl cl wrg pl ls _ hp40 hl40 (HPI.out.later (by (repeat first | with_reducible assumption | with_reducible exact Below.refl _ _ | (with_reducible refine Below.alloc ?_ ?side _; case side => (first | omega | (with_reducible exact Below.size (by assumption)) | (simp; done) | (simp; omega))) | (with_reducible refine Below.setCell ?_ ?side _; case side => (first | omega | (with_reducible exact Below.size (by assumption)) | (simp; done) | (simp; omega))) | with_reducible refine Below.drew ?_ | with_reducible refine below_drewN ?_ _ | (with_reducible refine below_step (by assumption) ?side ?_; case side => (first | omega | (with_reducible exact Below.size (by assumption)) | (simp; done) | (simp; omega)))))) (HLI.out.later (by (repeat first | with_reducible assumption | with_reducible exact Below.refl _ _ | (with_reducible refine Below.alloc ?_ ?side _; case side => (first | omega | (with_reducible exact Below.size (by assumption)) | (simp; done) | (simp; omega))) | (with_reducible refine Below.setCell ?_ ?side _; case side => (first | omega | (with_reducible exact Below.size (by assumption)) | (simp; done) | (simp; omega))) | with_reducible refine Below.drew ?_ | with_reducible refine below_drewN ?_ _ | (with_reducible refine below_step (by assumption) ?side ?_; case side => (first | omega | (with_reducible exact Below.size (by assumption)) | (simp; done) | (simp; omega))))))).mono ?_
    rw [HR.out]
    rintro e w1 ⟨rfl, hb1⟩
    have z1 := hb1.size
    simp only [World.size_alloc] at z1
    have d1 := fun i => (hb1.cell (p := ⟨w.heap.size, i, none⟩) (by first | omega | (simp; done) | (simp; omega))).trans ((al1_0 rfl).2.1 i)
    have n1 : w.heap.size < w1.heap.size := by omega
    have B1 : Below w.heap.size w w1 := by (repeat first | with_reducible assumption | with_reducible exact Below.refl _ _ | (with_reducible refine Below.alloc ?_ ?side _; case side => (first | omega | (with_reducible exact Below.size (by assumption)) | (simp; done) | (simp; omega))) | (with_reducible refine Below.setCell ?_ ?side _; case side => (first | omega | (with_reducible exact Below.size (by assumption)) | (simp; done) | (simp; omega))) | with_reducible refine Below.drew ?_ | with_reducible refine below_drewN ?_ _ | (with_reducible refine below_step (by assumption) ?side ?_; case side => (first | omega | (with_reducible exact Below.size (by assumption)) | (simp; done) | (simp; omega))))
    clear hb1
    go_wp2_with fail
    go_at_call 14
    refine (Copy_c Ap Al np cp nl cl wrg pl ls _ hp40 hl40 (HPI.out.later (by (repeat first | with_reducible assumption | with_reducible exact Below.refl _ _ | (with_reducible refine Below.alloc ?_ ?side _; case side => (first | omega | (with_reducible exact Below.size (by assumption)) | (simp; done) | (simp; omega))) | (with_reducible refine Below.setCell ?_ ?side _; case side => (first | omega | (with_reducible exact Below.size (by assumption)) | (simp; done) | (simp; omega))) | with_reducible refine Below.drew ?_ | with_reducible refine below_drewN ?_ _ | (with_reducible refine below_step (by assumption) ?side ?_; case side => (first | omega | (with_reducible exact Below.size (by assumption)) | (simp; done) | (simp; omega)))))) (HLI.out.later (by (repeat first | with_reducible assumption | with_reducible exact Below.refl _ _ | (with_reducible refine Below.alloc ?_ ?side _; case side => (first | omega | (with_reducible exact Below.size (by assumption)) | (simp; done) | (simp; omega))) | (with_reducible refine Below.setCell ?_ ?side _; case side => (first | omega | (with_reducible exact Below.size (by assumption)) | (simp; done) | (simp; omega))) | with_reducible refine Below.drew ?_ | with_reducible refine below_drewN ?_ _ | (with_reducible refine below_step (by assumption) ?side ?_; case side => (first | omega | (with_reducible exact Below.size (by assumption)) | (simp; done) | (simp; omega))))))).mono ?_
    rintro e w2 ⟨A1, c1, A2, c2, rfl, hO, hb2⟩
    have HQ := Lib.hid (sps_iff.2 (sl_of_own encS_len hO.hp lpI.out))
    have HM := Lib.hid (lns_iff.2 (sl_of_own encL_len hO.hl llI.out))
    have z2 := hb2.size
    have d2 := fun i => (hb2.cell (p := ⟨w.heap.size, i, none⟩) n1).trans (d1 i)
    have n2 : w.heap.size < w2.heap.size := by omega
    have B2 : Below w.heap.size w w2 := by (repeat first | with_reducible assumption | with_reducible exact Below.refl _ _ | (with_reducible refine Below.alloc ?_ ?side _; case side => (first | omega | (with_reducible exact Below.size (by assumption)) | (simp; done) | (simp; omega))) | (with_reducible refine Below.setCell ?_ ?side _; case side => (first | omega | (with_reducible exact Below.size (by assumption)) | (simp; done) | (simp; omega))) | with_reducible refine Below.drew ?_ | with_reducible refine below_drewN ?_ _ | (with_reducible refine below_step (by assumption) ?side ?_; case side => (first | omega | (with_reducible exact Below.size (by assumption)) | (simp; done) | (simp; omega))))
    clear hb2 hO d1
    go_wp2_with fail
    obtain ⟨X, hX⟩ : ∃ X, w2.alloc (.cells #[.slice A1 np c1, .slice A2 nl c2, .int .i64 wrg] 25) = X := ⟨_, rfl⟩
    rw [hX]
    have k2 : ∀ j, X.cell? ⟨w2.heap.size, j, none⟩ = #[Value.slice A1 np c1, .slice A2 nl c2, .int .i64 wrg][j]? := fun j => by rw [← hX]; exact World.cell?_alloc_new _ _ _ j
    have L2 : Below w2.heap.size w2 X := by rw [← hX]; (repeat first | with_reducible assumption | with_reducible exact Below.refl _ _ | (with_reducible refine Below.alloc ?_ ?side _; case side => (first | omega | (with_reducible exact Below.size (by assumption)) | (simp; done) | (simp; omega))) | (with_reducible refine Below.setCell ?_ ?side _; case side => (first | omega | (with_reducible exact Below.size (by assumption)) | (simp; done) | (simp; omega))) | with_reducible refine Below.drew ?_ | with_reducible refine below_drewN ?_ _ | (with_reducible refine below_step (by assumption) ?side ?_; case side => (first | omega | (with_reducible exact Below.size (by assumption)) | (simp; done) | (simp; omega))))
    have o2 : w2.heap.size < X.heap.size := by rw [← hX]; simp
    have e2 := fun i => (L2.cell (p := ⟨w.heap.size, i, none⟩) n2).trans (d2 i)
    have B3 : Below w.heap.size w X := B2.trans (L2.mono B2.size)
    have n3 : w.heap.size < X.heap.size := by omega
    have zw := B3.size
    have zk := L2.size
    have CP : Hid (∀ Z, Below X.heap.size X Z → SpsAt Z Ap np pl ∧ LnsAt Z Al nl ls ∧ SpsAt Z A1 np pl ∧ LnsAt Z A2 nl ls) := fun Z hZ =>
      ⟨HPI.out.later (B3.trans (hZ.mono zw)), HLI.out.later (B3.trans (hZ.mono zw)), HQ.out.later (L2.trans (hZ.mono zk)), HM.out.later (L2.trans (hZ.mono zk))⟩
    clear hX d2
    have T2 : Below X.heap.size X X := Below.refl _ _
    go_at_call 21
    refine (F1.out A1 A2 c1 c2 _ (CP.out _ T2).2.2.1 (CP.out _ T2).2.2.2).mono ?_
    rintro e w5 ⟨G1, g1, rfl, hi5, hb5⟩
    replace hi5 := Lib.hid hi5
    have T5 : Below X.heap.size X w5 := T2.trans (hb5.mono T2.size)
    have z5 := hb5.size
    have e5' := fun i => (hb5.cell (p := ⟨w.heap.size, i, none⟩) (by first | omega | (simp; done) | (simp; omega))).trans (e2 i)
    have q5' := fun i => (hb5.cell (p := ⟨w2.heap.size, i, none⟩) (by first | omega | (simp; done) | (simp; omega))).trans (k2 i)
    clear e2 k2
    have k5' := q5'
    clear q5'
    go_wp2_with fail
    refine (F2.out _ (CP.out _ T5).1 (CP.out _ T5).2.1).mono ?_
    rintro e w6 ⟨G2, g2, rfl, hi6, hb6⟩
    replace hi6 := Lib.hid hi6
    have T6 : Below X.heap.size X w6 := T5.trans (hb6.mono T5.size)
    have z6 := hb6.size
    have e6' := fun i => (hb6.cell (p := ⟨w.heap.size, i, none⟩) (by first | omega | (simp; done) | (simp; omega))).trans (e5' i)
    have q6' := fun i => (hb6.cell (p := ⟨w2.heap.size, i, none⟩) (by first | omega | (simp; done) | (simp; omega))).trans (k5' i)
    clear e5' k5'
    have k6' := q6'
    clear q6'
    go_wp2_with fail
    refine (F3.out A1 A2 c1 c2 _ (CP.out _ T6).2.2.1 (CP.out _ T6).2.2.2).mono ?_
    rintro e w7 ⟨G3, g3, G4, g4, rfl, hi7, hj7, hb7⟩
    replace hi7 := Lib.hid hi7
    replace hj7 := Lib.hid hj7
    have T7 : Below X.heap.size X w7 := T6.trans (hb7.mono T6.size)
    have z7 := hb7.size
    have e7' := fun i => (hb7.cell (p := ⟨w.heap.size, i, none⟩) (by first | omega | (simp; done) | (simp; omega))).trans (e6' i)
    have q7' := fun i => (hb7.cell (p := ⟨w2.heap.size, i, none⟩) (by first | omega | (simp; done) | (simp; omega))).trans (k6' i)
    clear e6' k6'
    have k7' := q7'
    clear q7'
    have M5 : Below w5.heap.size w5 w7 := hb6.trans (hb7.mono z6)
    have M6 : Below w6.heap.size w6 w7 := hb7
    clear hb5 hb6 hb7
    go_wp2_with fail
    obtain ⟨Y, hY⟩ : ∃ Y, w7.alloc (.cells #[.slice G3 nl g3, .slice G4 nl g4] 41) = Y := ⟨_, rfl⟩
    rw [hY]
    have y8 : ∀ j, Y.cell? ⟨w7.heap.size, j, none⟩ = #[Value.slice G3 nl g3, .slice G4 nl g4][j]? := fun j => by rw [← hY]; exact World.cell?_alloc_new _ _ _ j
    have hb8 : Below w7.heap.size w7 Y := by rw [← hY]; (repeat first | with_reducible assumption | with_reducible exact Below.refl _ _ | (with_reducible refine Below.alloc ?_ ?side _; case side => (first | omega | (with_reducible exact Below.size (by assumption)) | (simp; done) | (simp; omega))) | (with_reducible refine Below.setCell ?_ ?side _; case side => (first | omega | (with_reducible exact Below.size (by assumption)) | (simp; done) | (simp; omega))) | with_reducible refine Below.drew ?_ | with_reducible refine below_drewN ?_ _ | (with_reducible refine below_step (by assumption) ?side ?_; case side => (first | omega | (with_reducible exact Below.size (by assumption)) | (simp; done) | (simp; omega))))
    have o8 : w7.heap.size < Y.heap.size := by rw [← hY]; simp
    have z8 := hb8.size
    have T8 : Below X.heap.size X Y := T7.trans (hb8.mono T7.size)
    have e8 := fun i => (hb8.cell (p := ⟨w.heap.size, i, none⟩) (by first | omega | (simp; done) | (simp; omega))).trans (e7' i)
    have k8 := fun i => (hb8.cell (p := ⟨w2.heap.size, i, none⟩) (by first | omega | (simp; done) | (simp; omega))).trans (k7' i)
    have I1 := Lib.hid (hi5.out.later (M5.trans (hb8.mono M5.size)))
    have I2 := Lib.hid (hi6.out.later (M6.trans (hb8.mono M6.size)))
    have I3 := Lib.hid (hi7.out.later hb8)
    have I4 := Lib.hid (hj7.out.later hb8)
    clear hY e7' k7' hb8 M5 M6 hi5 hi6 hi7 hj7
    refine (F4.out G1 G2 g1 g2 _ I1.out I2.out).mono ?_
    rintro e w9 ⟨rfl, hb9⟩
    have z9 := hb9.size
    have T9 : Below X.heap.size X w9 := T8.trans (hb9.mono T8.size)
    have N9 : Below Y.heap.size Y w9 := hb9
    have e9 := fun i => (hb9.cell (p := ⟨w.heap.size, i, none⟩) (by first | omega | (simp; done) | (simp; omega))).trans (e8 i)
    have k9 := fun i => (hb9.cell (p := ⟨w2.heap.size, i, none⟩) (by first | omega | (simp; done) | (simp; omega))).trans (k8 i)
    have y9 := fun i => (hb9.cell (p := ⟨w7.heap.size, i, none⟩) (by first | omega | (simp; done) | (simp; omega))).trans (y8 i)
    clear e8 k8 y8 hb9
    go_wp2_with fail
    refine (HFarI.out G3 G4 g3 g4 _).mono ?_
    rintro e w10 ⟨rfl, hb10⟩
    have z10 := hb10.size
    have T10 : Below X.heap.size X w10 := T9.trans (hb10.mono T9.size)
    have N10 : Below Y.heap.size Y w10 := N9.trans (hb10.mono N9.size)
    have e10 := fun i => (hb10.cell (p := ⟨w.heap.size, i, none⟩) (by first | omega | (simp; done) | (simp; omega))).trans (e9 i)
    have k10 := fun i => (hb10.cell (p := ⟨w2.heap.size, i, none⟩) (by first | omega | (simp; done) | (simp; omega))).trans (k9 i)
    have y10 := fun i => (hb10.cell (p := ⟨w7.heap.size, i, none⟩) (by first | omega | (simp; done) | (simp; omega))).trans (y9 i)
    clear e9 k9 y9 hb10 N9
    go_wp2_with fail
    refine (same_c A1 A2 Ap Al np c1 nl c2 cp cl wrg pl ls _ hp40 hl40 (CP.out _ T10).2.2.1 (CP.out _ T10).2.2.2 (CP.out _ T10).1 (CP.out _ T10).2.1).mono ?_
    rintro e w11 ⟨rfl, hb11⟩
    have z11 := hb11.size
    have T11 : Below X.heap.size X w11 := T10.trans (hb11.mono T10.size)
    have N11 : Below Y.heap.size Y w11 := N10.trans (hb11.mono N10.size)
    have e11 := fun i => (hb11.cell (p := ⟨w.heap.size, i, none⟩) (by first | omega | (simp; done) | (simp; omega))).trans (e10 i)
    have y11 := fun i => (hb11.cell (p := ⟨w7.heap.size, i, none⟩) (by first | omega | (simp; done) | (simp; omega))).trans (y10 i)
    clear e10 k10 y10 hb11 N10
    go_wp2_with fail
    refine (F6.out G3 G4 g3 g4 _ (CP.out _ T11).1 (CP.out _ T11).2.1 (I3.out.later N11) (I4.out.later N11)).mono ?_
    rintro e w12 ⟨rfl, hb12⟩
    have z12 := hb12.size
    have T12 : Below X.heap.size X w12 := T11.trans (hb12.mono T11.size)
    clear e11 y11
    go_wp2_with fail
    refine (works_c _).mono ?_
    rintro e w13 ⟨rfl, hb13⟩
    go_wp2_with fail
    go_ret
    exact ⟨rfl, B3.trans ((T12.trans (hb13.mono T12.size)).mono zw)⟩
  · have hzB : (z == 0) = false := by simpa using h0
    have F1 : ∀ (B1 B2 : Option Addr) (d1 d2 : Nat) Z, SpsAt Z B1 np pl → LnsAt Z B2 nl ls → Calls Try.prog 21 #[.agg #[.slice B1 np d1, .slice B2 nl d2, .int .i64 wrg]] Z fun e Z' => e = .returned (.tuple #[.slice none 0 0, .int .i64 z]) ∧ Below Z.heap.size Z Z' := fun B1 B2 d1 d2 Z h1 h2 =>
      (Strange_c B1 B2 np d1 nl d2 wrg pl ls Z hp40 hl40 h1 h2).mono fun e Z' ⟨hb, h⟩ => by
        rcases h with ⟨-, h⟩ | ⟨h, -⟩
        · rw [hz] at h; exact ⟨h, hb⟩
        · exact absurd (hz.symm.trans h) h0
    have F2 : ∀ Z, SpsAt Z Ap np pl → LnsAt Z Al nl ls → Calls Try.prog 34 #[.agg #[.slice Ap np cp, .slice Al nl cl, .int .i64 wrg]] Z fun e Z' => e = .returned (.tuple #[.slice none 0 0, .int .i64 z]) ∧ Below Z.heap.size Z Z' := fun Z h1 h2 =>
      (refStrange_c Ap Al np cp nl cl wrg pl ls Z hp40 hl40 h1 h2).mono fun e Z' ⟨h, hb⟩ => by
        rw [hzF, hzB] at h
        exact ⟨h, hb⟩
    have F3 : ∀ (B1 B2 : Option Addr) (d1 d2 : Nat) Z, SpsAt Z B1 np pl → LnsAt Z B2 nl ls → Calls Try.prog 35 #[.agg #[.slice B1 np d1, .slice B2 nl d2, .int .i64 wrg]] Z fun e Z' => e = .returned (.tuple #[.agg #[.slice none 0 0, .slice none 0 0], .int .i64 z]) ∧ Below Z.heap.size Z Z' := fun B1 B2 d1 d2 Z h1 h2 =>
      (Plan_c B1 B2 np d1 nl d2 wrg pl ls Z hp40 hl40 h1 h2).mono fun e Z' ⟨hb, h⟩ => by
        rcases h with ⟨-, h⟩ | ⟨h, -⟩
        · rw [hz] at h; exact ⟨h, hb⟩
        · exact absurd (hz.symm.trans h) h0
    have F4 : ∀ Z, Calls Try.prog 36 #[.slice none 0 0, .slice none 0 0] Z fun e Z' => e = .returned (.bool true) ∧ Below Z.heap.size Z Z' := fun Z => by
      have := SameInts_c none none 0 0 0 0 [] [] Z (by omega) (by omega) (ints_none Z) (ints_none Z)
      rwa [same_yes] at this
    have F5 : ∀ Z, Calls Try.prog 18 #[.agg #[.slice none 0 0, .slice none 0 0]] Z fun e Z' => e = .returned (.bool false) ∧ Below Z.heap.size Z Z' := fun Z => farPlan_c none none 0 0 0 0 Z
    replace F1 := Lib.hid F1
    replace F2 := Lib.hid F2
    replace F3 := Lib.hid F3
    replace F4 := Lib.hid F4
    replace F5 := Lib.hid F5
    have u1 : (z != z) = false := by simp
    have u2 : (z != 0) = true := by simpa using h0
    clear hz hzF h0
    go_enter Try.func7, Try.ntmps7
    go_wp2_with fail
    go_at_call 29
    refine (Far_c Ap Al np cp nl cl wrg pl ls _ hp40 hl40 (HPI.out.later (by (repeat first | with_reducible assumption | with_reducible exact Below.refl _ _ | (with_reducible refine Below.alloc ?_ ?side _; case side => (first | omega | (with_reducible exact Below.size (by assumption)) | (simp; done) | (simp; omega))) | (with_reducible refine Below.setCell ?_ ?side _; case side => (first | omega | (with_reducible exact Below.size (by assumption)) | (simp; done) | (simp; omega))) | with_reducible refine Below.drew ?_ | with_reducible refine below_drewN ?_ _ | (with_reducible refine below_step (by assumption) ?side ?_; case side => (first | omega | (with_reducible exact Below.size (by assumption)) | (simp; done) | (simp; omega)))))) (HLI.out.later (by (repeat first | with_reducible assumption | with_reducible exact Below.refl _ _ | (with_reducible refine Below.alloc ?_ ?side _; case side => (first | omega | (with_reducible exact Below.size (by assumption)) | (simp; done) | (simp; omega))) | (with_reducible refine Below.setCell ?_ ?side _; case side => (first | omega | (with_reducible exact Below.size (by assumption)) | (simp; done) | (simp; omega))) | with_reducible refine Below.drew ?_ | with_reducible refine below_drewN ?_ _ | (with_reducible refine below_step (by assumption) ?side ?_; case side => (first | omega | (with_reducible exact Below.size (by assumption)) | (simp; done) | (simp; omega))))))).mono ?_
    rw [HR.out]
    rintro e w1 ⟨rfl, hb1⟩
    have z1 := hb1.size
    simp only [World.size_alloc] at z1
    have d1 := fun i => (hb1.cell (p := ⟨w.heap.size, i, none⟩) (by first | omega | (simp; done) | (simp; omega))).trans ((al1_0 rfl).2.1 i)
    have n1 : w.heap.size < w1.heap.size := by omega
    have B1 : Below w.heap.size w w1 := by (repeat first | with_reducible assumption | with_reducible exact Below.refl _ _ | (with_reducible refine Below.alloc ?_ ?side _; case side => (first | omega | (with_reducible exact Below.size (by assumption)) | (simp; done) | (simp; omega))) | (with_reducible refine Below.setCell ?_ ?side _; case side => (first | omega | (with_reducible exact Below.size (by assumption)) | (simp; done) | (simp; omega))) | with_reducible refine Below.drew ?_ | with_reducible refine below_drewN ?_ _ | (with_reducible refine below_step (by assumption) ?side ?_; case side => (first | omega | (with_reducible exact Below.size (by assumption)) | (simp; done) | (simp; omega))))
    clear hb1
    go_wp2_with fail
    go_at_call 14
    refine (Copy_c Ap Al np cp nl cl wrg pl ls _ hp40 hl40 (HPI.out.later (by (repeat first | with_reducible assumption | with_reducible exact Below.refl _ _ | (with_reducible refine Below.alloc ?_ ?side _; case side => (first | omega | (with_reducible exact Below.size (by assumption)) | (simp; done) | (simp; omega))) | (with_reducible refine Below.setCell ?_ ?side _; case side => (first | omega | (with_reducible exact Below.size (by assumption)) | (simp; done) | (simp; omega))) | with_reducible refine Below.drew ?_ | with_reducible refine below_drewN ?_ _ | (with_reducible refine below_step (by assumption) ?side ?_; case side => (first | omega | (with_reducible exact Below.size (by assumption)) | (simp; done) | (simp; omega)))))) (HLI.out.later (by (repeat first | with_reducible assumption | with_reducible exact Below.refl _ _ | (with_reducible refine Below.alloc ?_ ?side _; case side => (first | omega | (with_reducible exact Below.size (by assumption)) | (simp; done) | (simp; omega))) | (with_reducible refine Below.setCell ?_ ?side _; case side => (first | omega | (with_reducible exact Below.size (by assumption)) | (simp; done) | (simp; omega))) | with_reducible refine Below.drew ?_ | with_reducible refine below_drewN ?_ _ | (with_reducible refine below_step (by assumption) ?side ?_; case side => (first | omega | (with_reducible exact Below.size (by assumption)) | (simp; done) | (simp; omega))))))).mono ?_
    rintro e w2 ⟨A1, c1, A2, c2, rfl, hO, hb2⟩
    have HQ := Lib.hid (sps_iff.2 (sl_of_own encS_len hO.hp lpI.out))
    have HM := Lib.hid (lns_iff.2 (sl_of_own encL_len hO.hl llI.out))
    have z2 := hb2.size
    have d2 := fun i => (hb2.cell (p := ⟨w.heap.size, i, none⟩) n1).trans (d1 i)
    have n2 : w.heap.size < w2.heap.size := by omega
    have B2 : Below w.heap.size w w2 := by (repeat first | with_reducible assumption | with_reducible exact Below.refl _ _ | (with_reducible refine Below.alloc ?_ ?side _; case side => (first | omega | (with_reducible exact Below.size (by assumption)) | (simp; done) | (simp; omega))) | (with_reducible refine Below.setCell ?_ ?side _; case side => (first | omega | (with_reducible exact Below.size (by assumption)) | (simp; done) | (simp; omega))) | with_reducible refine Below.drew ?_ | with_reducible refine below_drewN ?_ _ | (with_reducible refine below_step (by assumption) ?side ?_; case side => (first | omega | (with_reducible exact Below.size (by assumption)) | (simp; done) | (simp; omega))))
    clear hb2 hO d1
    go_wp2_with fail
    obtain ⟨X, hX⟩ : ∃ X, w2.alloc (.cells #[.slice A1 np c1, .slice A2 nl c2, .int .i64 wrg] 25) = X := ⟨_, rfl⟩
    rw [hX]
    have k2 : ∀ j, X.cell? ⟨w2.heap.size, j, none⟩ = #[Value.slice A1 np c1, .slice A2 nl c2, .int .i64 wrg][j]? := fun j => by rw [← hX]; exact World.cell?_alloc_new _ _ _ j
    have L2 : Below w2.heap.size w2 X := by rw [← hX]; (repeat first | with_reducible assumption | with_reducible exact Below.refl _ _ | (with_reducible refine Below.alloc ?_ ?side _; case side => (first | omega | (with_reducible exact Below.size (by assumption)) | (simp; done) | (simp; omega))) | (with_reducible refine Below.setCell ?_ ?side _; case side => (first | omega | (with_reducible exact Below.size (by assumption)) | (simp; done) | (simp; omega))) | with_reducible refine Below.drew ?_ | with_reducible refine below_drewN ?_ _ | (with_reducible refine below_step (by assumption) ?side ?_; case side => (first | omega | (with_reducible exact Below.size (by assumption)) | (simp; done) | (simp; omega))))
    have o2 : w2.heap.size < X.heap.size := by rw [← hX]; simp
    have e2 := fun i => (L2.cell (p := ⟨w.heap.size, i, none⟩) n2).trans (d2 i)
    have B3 : Below w.heap.size w X := B2.trans (L2.mono B2.size)
    have n3 : w.heap.size < X.heap.size := by omega
    have zw := B3.size
    have zk := L2.size
    have CP : Hid (∀ Z, Below X.heap.size X Z → SpsAt Z Ap np pl ∧ LnsAt Z Al nl ls ∧ SpsAt Z A1 np pl ∧ LnsAt Z A2 nl ls) := fun Z hZ =>
      ⟨HPI.out.later (B3.trans (hZ.mono zw)), HLI.out.later (B3.trans (hZ.mono zw)), HQ.out.later (L2.trans (hZ.mono zk)), HM.out.later (L2.trans (hZ.mono zk))⟩
    clear hX d2
    have T2 : Below X.heap.size X X := Below.refl _ _
    go_at_call 21
    refine (F1.out A1 A2 c1 c2 _ (CP.out _ T2).2.2.1 (CP.out _ T2).2.2.2).mono ?_
    rintro e w5 ⟨rfl, hb5⟩
    have T5 : Below X.heap.size X w5 := T2.trans (hb5.mono T2.size)
    have z5 := hb5.size
    have e5' := fun i => (hb5.cell (p := ⟨w.heap.size, i, none⟩) (by first | omega | (simp; done) | (simp; omega))).trans (e2 i)
    have q5' := fun i => (hb5.cell (p := ⟨w2.heap.size, i, none⟩) (by first | omega | (simp; done) | (simp; omega))).trans (k2 i)
    clear e2 k2
    have k5' := q5'
    clear q5'
    clear hb5
    go_wp2_with fail
    refine (F2.out _ (CP.out _ T5).1 (CP.out _ T5).2.1).mono ?_
    rintro e w6 ⟨rfl, hb6⟩
    have T6 : Below X.heap.size X w6 := T5.trans (hb6.mono T5.size)
    have z6 := hb6.size
    have e6' := fun i => (hb6.cell (p := ⟨w.heap.size, i, none⟩) (by first | omega | (simp; done) | (simp; omega))).trans (e5' i)
    have q6' := fun i => (hb6.cell (p := ⟨w2.heap.size, i, none⟩) (by first | omega | (simp; done) | (simp; omega))).trans (k5' i)
    clear e5' k5'
    have k6' := q6'
    clear q6'
    clear hb6
    go_wp2_with fail
    refine (F3.out A1 A2 c1 c2 _ (CP.out _ T6).2.2.1 (CP.out _ T6).2.2.2).mono ?_
    rintro e w7 ⟨rfl, hb7⟩
    have T7 : Below X.heap.size X w7 := T6.trans (hb7.mono T6.size)
    have z7 := hb7.size
    have e7' := fun i => (hb7.cell (p := ⟨w.heap.size, i, none⟩) (by first | omega | (simp; done) | (simp; omega))).trans (e6' i)
    have q7' := fun i => (hb7.cell (p := ⟨w2.heap.size, i, none⟩) (by first | omega | (simp; done) | (simp; omega))).trans (k6' i)
    clear e6' k6'
    have k7' := q7'
    clear q7'
    clear hb7
    go_wp2_with fail
    obtain ⟨Y, hY⟩ : ∃ Y, w7.alloc (.cells #[.slice none 0 0, .slice none 0 0] 41) = Y := ⟨_, rfl⟩
    rw [hY]
    have y8 : ∀ j, Y.cell? ⟨w7.heap.size, j, none⟩ = #[Value.slice none 0 0, .slice none 0 0][j]? := fun j => by rw [← hY]; exact World.cell?_alloc_new _ _ _ j
    have hb8 : Below w7.heap.size w7 Y := by rw [← hY]; (repeat first | with_reducible assumption | with_reducible exact Below.refl _ _ | (with_reducible refine Below.alloc ?_ ?side _; case side => (first | omega | (with_reducible exact Below.size (by assumption)) | (simp; done) | (simp; omega))) | (with_reducible refine Below.setCell ?_ ?side _; case side => (first | omega | (with_reducible exact Below.size (by assumption)) | (simp; done) | (simp; omega))) | with_reducible refine Below.drew ?_ | with_reducible refine below_drewN ?_ _ | (with_reducible refine below_step (by assumption) ?side ?_; case side => (first | omega | (with_reducible exact Below.size (by assumption)) | (simp; done) | (simp; omega))))
    have o8 : w7.heap.size < Y.heap.size := by rw [← hY]; simp
    have z8 := hb8.size
    have T8 : Below X.heap.size X Y := T7.trans (hb8.mono T7.size)
    have e8 := fun i => (hb8.cell (p := ⟨w.heap.size, i, none⟩) (by first | omega | (simp; done) | (simp; omega))).trans (e7' i)
    have k8 := fun i => (hb8.cell (p := ⟨w2.heap.size, i, none⟩) (by first | omega | (simp; done) | (simp; omega))).trans (k7' i)
    clear hY e7' k7' hb8
    refine (F4.out _).mono ?_
    rintro e w9 ⟨rfl, hb9⟩
    have z9 := hb9.size
    have T9 : Below X.heap.size X w9 := T8.trans (hb9.mono T8.size)
    have e9 := fun i => (hb9.cell (p := ⟨w.heap.size, i, none⟩) (by first | omega | (simp; done) | (simp; omega))).trans (e8 i)
    have k9 := fun i => (hb9.cell (p := ⟨w2.heap.size, i, none⟩) (by first | omega | (simp; done) | (simp; omega))).trans (k8 i)
    have y9 := fun i => (hb9.cell (p := ⟨w7.heap.size, i, none⟩) (by first | omega | (simp; done) | (simp; omega))).trans (y8 i)
    clear e8 k8 y8 hb9
    go_wp2_with fail
    refine (F5.out _).mono ?_
    rintro e w10 ⟨rfl, hb10⟩
    have z10 := hb10.size
    have T10 : Below X.heap.size X w10 := T9.trans (hb10.mono T9.size)
    have e10 := fun i => (hb10.cell (p := ⟨w.heap.size, i, none⟩) (by first | omega | (simp; done) | (simp; omega))).trans (e9 i)
    have k10 := fun i => (hb10.cell (p := ⟨w2.heap.size, i, none⟩) (by first | omega | (simp; done) | (simp; omega))).trans (k9 i)
    have y10 := fun i => (hb10.cell (p := ⟨w7.heap.size, i, none⟩) (by first | omega | (simp; done) | (simp; omega))).trans (y9 i)
    clear e9 k9 y9 hb10
    go_wp2_with fail
    refine (same_c A1 A2 Ap Al np c1 nl c2 cp cl wrg pl ls _ hp40 hl40 (CP.out _ T10).2.2.1 (CP.out _ T10).2.2.2 (CP.out _ T10).1 (CP.out _ T10).2.1).mono ?_
    rintro e w11 ⟨rfl, hb11⟩
    have z11 := hb11.size
    have T11 : Below X.heap.size X w11 := T10.trans (hb11.mono T10.size)
    have y11 := fun i => (hb11.cell (p := ⟨w7.heap.size, i, none⟩) (by first | omega | (simp; done) | (simp; omega))).trans (y10 i)
    clear e10 k10 y10 hb11
    go_wp2_with fail
    refine (works_c _).mono ?_
    rintro e w13 ⟨rfl, hb13⟩
    go_wp2_with fail
    go_ret
    exact ⟨rfl, B3.trans ((T11.trans (hb13.mono T11.size)).mono zw)⟩

set_option maxRecDepth 100000 in
theorem strange_lifted (os : Os) (started : os.Started) (H : Type) (enc : TypeId × Value → H) :
    ReturnsInHanded {} Try.checked os 7 .any (Rows.scrapStrangeSpec.pre6 enc Try.prog Try.f7 Rows.scrapStrangeRow.domain false) (Rows.scrapStrangeSpec.post enc Try.prog Try.f7 false true false false) := by
  refine returnsInHanded_of_change (C := Try.checked) jn_own started (by kernel_rfl) Try.func7
    (ChangeSpec.witness6 (enc := enc) (C := Try.checked) false ⟨#[], #[.agg #[.slice none 0 0, .slice none 0 0, .int .i64 0]], []⟩ 8 (by kernel_rfl) (by kernel_rfl) (by kernel_rfl) (by kernel_rfl)) ?_
  intro W base args ds gs before hval0 hW hcnd _
  have hval : ∀ (j : Nat) t v, Try.f7.params[j]? = some t → args[j]? = some v → Value.okWide Try.prog W .any base t v := hval0
  have hW' := hW
  obtain ⟨p, q, hA0, hV, rfl, hfz, hnd⟩ := hW
  have hA : DataW.TrodAll enc Try.prog W 0 (fun _ => true) true Try.f7.params.toList args.toList ds p := hA0
  rw [Try.params7] at hA hval
  obtain ⟨v0, d0, rfl, rfl, h0⟩ := trodAll_one hA
  obtain ⟨rfl, rfl⟩ := trodVars_none hV
  obtain ⟨Ap, Al, np, cp, nl, cl, wr, pl, ls, rfl, hnp, hnl, HP, HL, -⟩ := open_book (hval 0 25 v0 rfl rfl) h0
  clear hA0 hval0
  refine (StrangeLaw_c Ap Al np cp nl cl wr pl ls W hnp hnl HP HL).mono fun e W' ⟨he, hb⟩ => ?_
  subst he
  exact ⟨_, rfl, law_post jn_kids jn_full (by rw [Try.params7]; decide) (by kernel_rfl) Try.underlying4 rfl rfl rfl rfl hW' hb⟩

theorem strange_over : Rows.scrapStrangeRow.holds Try.pinned (OpenSpec.ofChange Rows.scrapStrangeSpec) :=
  OpenClaim.holds_of_wide 7 Try.f7 rfl rfl rfl rfl rfl rfl rfl ⟨rfl, rfl, rfl, rfl, rfl⟩ rfl rfl rfl rfl rfl (by kernel_rfl) Try.func7 (by kernel_rfl)
    (of_decide_eq_true (by kernel_rfl)) (by unfold Func.isWrapper; first | (rw [if_pos (by decide +kernel)]; kernel_rfl) | (rw [if_neg (by decide +kernel)]; exact ⟨rfl, rfl⟩))
    (fun os started H enc _ => strange_lifted os started H enc)

/-- THE STATEMENT -/
theorem strange_holds : Rows.ScrapStrangeSaid := strange_over
#print axioms strange_holds

end Go.Proofs.Ytoehifincdflhaa
