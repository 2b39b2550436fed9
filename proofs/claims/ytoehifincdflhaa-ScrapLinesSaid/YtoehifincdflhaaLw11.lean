/- ScrapLines (layer 11), walked. -/
import Derived.Test.YtoehifincdflhaaRm11
import Derived.Test.YtoehifincdflhaaWk11
import Derived.Test.YtoehifincdflhaaFa11
import Derived.Test.YtoehifincdflhaaSa11
namespace Go.Proofs.Ytoehifincdflhaa
open Go.RowKit
open Go.Sort (grow)
set_option linter.unusedVariables false

theorem ans_val (z : Int) (s : Sp) : ∃ a b e : Int, ansS z s = .tuple #[.agg #[.int .i64 a, .int .i64 b], .int .i64 e] := ⟨_, _, _, rfl⟩
set_option maxRecDepth 100000 in
set_option maxHeartbeats 6400000 in
theorem Lines_c (Ap Al : Option Addr) (np cp nl cl : Nat) (wrg li pc : Int) (pl : List Sp) (ls : List Ln) (w : World) (hp : np ≤ 9223372036854775807) (hl : nl ≤ 9223372036854775807) (HP : SpsAt w Ap np pl) (HL : LnsAt w Al nl ls) :
    Calls Try.prog 6 #[.agg #[.slice Ap np cp, .slice Al nl cl, .int .i64 wrg], .int .i64 li, .int .i64 pc] w
      fun e w' => e = .returned (.bool true) ∧ Below w.heap.size w w' := by
  have HPI := Lib.hid HP
  have HLI := Lib.hid HL
  have lpI := Lib.hid HP.1
  have llI := Lib.hid HL.1
  clear HP HL
  by_cases hbig : 40 < np ∨ 40 < nl
  · skip
    go_enter Try.func6, Try.ntmps6
    go_wp2_with fail
    go_at_call 29
    refine (FarBig_c Ap Al np cp nl cl wrg _ hbig hp hl).mono ?_
    rintro e w1 ⟨rfl, hb1⟩
    have z1 := hb1.size
    simp only [World.size_alloc] at z1
    go_wp2_with (go_at_call 13; refine (works_c _).mono ?_; (rintro e w8 ⟨rfl, hb8⟩))
    go_ret
    exact ⟨rfl, by (repeat first | with_reducible assumption | with_reducible exact Below.refl _ _ | (with_reducible refine Below.alloc ?_ ?side _; case side => (first | omega | (with_reducible exact Below.size (by assumption)) | (simp; done) | (simp; omega))) | (with_reducible refine Below.setCell ?_ ?side _; case side => (first | omega | (with_reducible exact Below.size (by assumption)) | (simp; done) | (simp; omega))) | with_reducible refine Below.drew ?_ | with_reducible refine below_drewN ?_ _ | (with_reducible refine below_step (by assumption) ?side ?_; case side => (first | omega | (with_reducible exact Below.size (by assumption)) | (simp; done) | (simp; omega))))⟩
  have hp40 : np ≤ 40 := by omega
  have hl40 : nl ≤ 40 := by omega
  clear hbig hp hl
  by_cases hr : farB np nl pl ls wrg = true
  · skip
    go_enter Try.func6, Try.ntmps6
    go_wp2_with fail
    go_at_call 29
    refine (Far_c Ap Al np cp nl cl wrg pl ls _ hp40 hl40 (HPI.out.later (by (repeat first | with_reducible assumption | with_reducible exact Below.refl _ _ | (with_reducible refine Below.alloc ?_ ?side _; case side => (first | omega | (with_reducible exact Below.size (by assumption)) | (simp; done) | (simp; omega))) | (with_reducible refine Below.setCell ?_ ?side _; case side => (first | omega | (with_reducible exact Below.size (by assumption)) | (simp; done) | (simp; omega))) | with_reducible refine Below.drew ?_ | with_reducible refine below_drewN ?_ _ | (with_reducible refine below_step (by assumption) ?side ?_; case side => (first | omega | (with_reducible exact Below.size (by assumption)) | (simp; done) | (simp; omega)))))) (HLI.out.later (by (repeat first | with_reducible assumption | with_reducible exact Below.refl _ _ | (with_reducible refine Below.alloc ?_ ?side _; case side => (first | omega | (with_reducible exact Below.size (by assumption)) | (simp; done) | (simp; omega))) | (with_reducible refine Below.setCell ?_ ?side _; case side => (first | omega | (with_reducible exact Below.size (by assumption)) | (simp; done) | (simp; omega))) | with_reducible refine Below.drew ?_ | with_reducible refine below_drewN ?_ _ | (with_reducible refine below_step (by assumption) ?side ?_; case side => (first | omega | (with_reducible exact Below.size (by assumption)) | (simp; done) | (simp; omega))))))).mono ?_
    rw [hr]
    rintro e w1 ⟨rfl, hb1⟩
    have z1 := hb1.size
    simp only [World.size_alloc] at z1
    go_wp2_with (go_at_call 13; refine (works_c _).mono ?_; (rintro e w8 ⟨rfl, hb8⟩))
    go_ret
    exact ⟨rfl, by (repeat first | with_reducible assumption | with_reducible exact Below.refl _ _ | (with_reducible refine Below.alloc ?_ ?side _; case side => (first | omega | (with_reducible exact Below.size (by assumption)) | (simp; done) | (simp; omega))) | (with_reducible refine Below.setCell ?_ ?side _; case side => (first | omega | (with_reducible exact Below.size (by assumption)) | (simp; done) | (simp; omega))) | with_reducible refine Below.drew ?_ | with_reducible refine below_drewN ?_ _ | (with_reducible refine below_step (by assumption) ?side ?_; case side => (first | omega | (with_reducible exact Below.size (by assumption)) | (simp; done) | (simp; omega))))⟩
  replace hr : farB np nl pl ls wrg = false := by simpa using hr
  obtain ⟨a1, a2, a3, ha⟩ := ans_val (askZ np nl pl ls wrg (isNo li nl)) (endsB np nl pl ls wrg (2 * li.toNat))
  obtain ⟨b1, b2, b3, hb⟩ := ans_val (askZ np nl pl ls wrg (isNo pc np)) (endsB np nl pl ls wrg (2 * nl + pc.toNat))
  obtain ⟨g1, g2, g3, hg⟩ := ans_val (askZ np nl pl ls wrg true) (endsB np nl pl ls wrg (2 * nl + np))
  have ha' := (line_eq (wrg := wrg) lpI.out llI.out li).trans ha
  have hb' := (stock_eq (wrg := wrg) lpI.out llI.out pc).trans hb
  have hg' := (lost_eq (wrg := wrg) lpI.out llI.out).trans hg
  have HA := Lib.hid (And.intro ha ha')
  have HB := Lib.hid (And.intro hb hb')
  have HG := Lib.hid (And.intro hg hg')
  have HR := Lib.hid hr
  clear ha ha' hb hb' hg hg' hr
  go_enter Try.func6, Try.ntmps6
  go_wp2_with fail
  go_at_call 29
  refine (Far_c Ap Al np cp nl cl wrg pl ls _ hp40 hl40 (HPI.out.later (by (repeat first | with_reducible assumption | with_reducible exact Below.refl _ _ | (with_reducible refine Below.alloc ?_ ?side _; case side => (first | omega | (with_reducible exact Below.size (by assumption)) | (simp; done) | (simp; omega))) | (with_reducible refine Below.setCell ?_ ?side _; case side => (first | omega | (with_reducible exact Below.size (by assumption)) | (simp; done) | (simp; omega))) | with_reducible refine Below.drew ?_ | with_reducible refine below_drewN ?_ _ | (with_reducible refine below_step (by assumption) ?side ?_; case side => (first | omega | (with_reducible exact Below.size (by assumption)) | (simp; done) | (simp; omega)))))) (HLI.out.later (by (repeat first | with_reducible assumption | with_reducible exact Below.refl _ _ | (with_reducible refine Below.alloc ?_ ?side _; case side => (first | omega | (with_reducible exact Below.size (by assumption)) | (simp; done) | (simp; omega))) | (with_reducible refine Below.setCell ?_ ?side _; case side => (first | omega | (with_reducible exact Below.size (by assumption)) | (simp; done) | (simp; omega))) | with_reducible refine Below.drew ?_ | with_reducible refine below_drewN ?_ _ | (with_reducible refine below_step (by assumption) ?side ?_; case side => (first | omega | (with_reducible exact Below.size (by assumption)) | (simp; done) | (simp; omega))))))).mono ?_
  rw [HR.out]
  rintro e w1 ⟨rfl, hb1⟩
  have z1 := hb1.size
  simp only [World.size_alloc] at z1
  have d1 := fun i => (hb1.cell (p := ⟨w.heap.size, i, none⟩) (by first | omega | (simp; done) | (simp; omega))).trans ((al1_0 rfl).2.1 i)
  have n1 : w.heap.size < w1.heap.size := by omega
  have B1 : Below w.heap.size w w1 := by (repeat first | with_reducible assumption | with_reducible exact Below.refl _ _ | (with_reducible refine Below.alloc ?_ ?side _; case side => (first | omega | (with_reducible exact Below.size (by assumption)) | (simp; done) | (simp; omega))) | (with_reducible refine Below.setCell ?_ ?side _; case side => (first | omega | (with_reducible exact Below.size (by assumption)) | (simp; done) | (simp; omega))) | with_reducible refine Below.drew ?_ | with_reducible refine below_drewN ?_ _ | (with_reducible refine below_step (by assumption) ?side ?_; case side => (first | omega | (with_reducible exact Below.size (by assumption)) | (simp; done) | (simp; omega))))
  clear hb1
  go_wp2_with fail
  go_at_call 14
  refine (Copy_c Ap Al np cp nl cl wrg pl ls _ hp40 hl40 (HPI.out.later (by (repeat first | with_reducible assumption | with_reducible exact Below.refl _ _ | (with_reducible refine Below.alloc ?_ ?side _; case side => (first | omega | (with_reducible exact Below.size (by assumption)) | (simp; done) | (simp; omega))) | (with_reducible refine Below.setCell ?_ ?side _; case side => (first | omega | (with_reducible exact Below.size (by assumption)) | (simp; done) | (simp; omega))) | with_reducible refine Below.drew ?_ | with_reducible refine below_drewN ?_ _ | (with_reducible refine below_step (by assumption) ?side ?_; case side => (first | omega | (with_reducible exact Below.size (by assumption)) | (simp; done) | (simp; omega)))))) (HLI.out.later (by (repeat first | with_reducible assumption | with_reducible exact Below.refl _ _ | (with_reducible refine Below.alloc ?_ ?side _; case side => (first | omega | (with_reducible exact Below.size (by assumption)) | (simp; done) | (simp; omega))) | (with_reducible refine Below.setCell ?_ ?side _; case side => (first | omega | (with_reducible exact Below.size (by assumption)) | (simp; done) | (simp; omega))) | with_reducible refine Below.drew ?_ | with_reducible refine below_drewN ?_ _ | (with_reducible refine below_step (by assumption) ?side ?_; case side => (first | omega | (with_reducible exact Below.size (by assumption)) | (simp; done) | (simp; omega))))))).mono ?_
  rintro e w2 ⟨A1, c1, A2, c2, rfl, hO, hb2⟩
  have HQ := Lib.hid (sps_iff.2 (sl_of_own encS_len hO.hp lpI.out))
  have HM := Lib.hid (lns_iff.2 (sl_of_own encL_len hO.hl llI.out))
  have z2 := hb2.size
  have d2 := fun i => (hb2.cell (p := ⟨w.heap.size, i, none⟩) n1).trans (d1 i)
  have n2 : w.heap.size < w2.heap.size := by omega
  have B2 : Below w.heap.size w w2 := by (repeat first | with_reducible assumption | with_reducible exact Below.refl _ _ | (with_reducible refine Below.alloc ?_ ?side _; case side => (first | omega | (with_reducible exact Below.size (by assumption)) | (simp; done) | (simp; omega))) | (with_reducible refine Below.setCell ?_ ?side _; case side => (first | omega | (with_reducible exact Below.size (by assumption)) | (simp; done) | (simp; omega))) | with_reducible refine Below.drew ?_ | with_reducible refine below_drewN ?_ _ | (with_reducible refine below_step (by assumption) ?side ?_; case side => (first | omega | (with_reducible exact Below.size (by assumption)) | (simp; done) | (simp; omega))))
  clear hb2 hO d1
  go_wp2_with fail
  go_at_call 17
  refine (Line_c A1 A2 np c1 nl c2 wrg li pl ls _ hp40 hl40 (HQ.out.later (by (repeat first | with_reducible assumption | with_reducible exact Below.refl _ _ | (with_reducible refine Below.alloc ?_ ?side _; case side => (first | omega | (with_reducible exact Below.size (by assumption)) | (simp; done) | (simp; omega))) | (with_reducible refine Below.setCell ?_ ?side _; case side => (first | omega | (with_reducible exact Below.size (by assumption)) | (simp; done) | (simp; omega))) | with_reducible refine Below.drew ?_ | with_reducible refine below_drewN ?_ _ | (with_reducible refine below_step (by assumption) ?side ?_; case side => (first | omega | (with_reducible exact Below.size (by assumption)) | (simp; done) | (simp; omega)))))) (HM.out.later (by (repeat first | with_reducible assumption | with_reducible exact Below.refl _ _ | (with_reducible refine Below.alloc ?_ ?side _; case side => (first | omega | (with_reducible exact Below.size (by assumption)) | (simp; done) | (simp; omega))) | (with_reducible refine Below.setCell ?_ ?side _; case side => (first | omega | (with_reducible exact Below.size (by assumption)) | (simp; done) | (simp; omega))) | with_reducible refine Below.drew ?_ | with_reducible refine below_drewN ?_ _ | (with_reducible refine below_step (by assumption) ?side ?_; case side => (first | omega | (with_reducible exact Below.size (by assumption)) | (simp; done) | (simp; omega))))))).mono ?_
  rw [HA.out.1]
  rintro e w3 ⟨rfl, hb3⟩
  have z3 := hb3.size
  simp only [World.size_alloc] at z3
  have d3 := fun i => (hb3.cell (p := ⟨w.heap.size, i, none⟩) (by first | omega | (simp; done) | (simp; omega))).trans ((World.cell?_alloc_lt _ _ ⟨w.heap.size, i, none⟩ n2).trans (d2 i))
  have e3 := fun i => (hb3.cell (p := ⟨w2.heap.size, i, none⟩) (by simp)).trans ((al1_0 rfl).2.1 i)
  have n3 : w.heap.size < w3.heap.size := by omega
  have m3 : w2.heap.size < w3.heap.size := by omega
  have K3 : Below w2.heap.size w2 w3 := below_step hb3 (by simp) (Below.alloc (Below.refl _ _) (Nat.le_refl _) _)
  have B3 : Below w.heap.size w w3 := B2.trans (K3.mono B2.size)
  clear hb3 d2
  go_wp2_with fail
  refine (refLine_c Ap Al np cp nl cl wrg li pl ls _ hp40 hl40 (HPI.out.later (by (repeat first | with_reducible assumption | with_reducible exact Below.refl _ _ | (with_reducible refine Below.alloc ?_ ?side _; case side => (first | omega | (with_reducible exact Below.size (by assumption)) | (simp; done) | (simp; omega))) | (with_reducible refine Below.setCell ?_ ?side _; case side => (first | omega | (with_reducible exact Below.size (by assumption)) | (simp; done) | (simp; omega))) | with_reducible refine Below.drew ?_ | with_reducible refine below_drewN ?_ _ | (with_reducible refine below_step (by assumption) ?side ?_; case side => (first | omega | (with_reducible exact Below.size (by assumption)) | (simp; done) | (simp; omega)))))) (HLI.out.later (by (repeat first | with_reducible assumption | with_reducible exact Below.refl _ _ | (with_reducible refine Below.alloc ?_ ?side _; case side => (first | omega | (with_reducible exact Below.size (by assumption)) | (simp; done) | (simp; omega))) | (with_reducible refine Below.setCell ?_ ?side _; case side => (first | omega | (with_reducible exact Below.size (by assumption)) | (simp; done) | (simp; omega))) | with_reducible refine Below.drew ?_ | with_reducible refine below_drewN ?_ _ | (with_reducible refine below_step (by assumption) ?side ?_; case side => (first | omega | (with_reducible exact Below.size (by assumption)) | (simp; done) | (simp; omega))))))).mono ?_
  rw [HA.out.2]
  rintro e w4 ⟨rfl, hb4⟩
  have z4 := hb4.size
  simp only [World.size_alloc] at z4
  have d4 := fun i => (hb4.cell (p := ⟨w.heap.size, i, none⟩) (by first | omega | (simp; done) | (simp; omega))).trans ((World.cell?_alloc_lt _ _ ⟨w.heap.size, i, none⟩ n3).trans (d3 i))
  have e4 := fun i => (hb4.cell (p := ⟨w2.heap.size, i, none⟩) (by first | omega | (simp; done) | (simp; omega))).trans ((World.cell?_alloc_lt _ _ ⟨w2.heap.size, i, none⟩ m3).trans (e3 i))
  have n4 : w.heap.size < w4.heap.size := by omega
  have m4 : w2.heap.size < w4.heap.size := by omega
  have L4 : Below w3.heap.size w3 w4 := below_step hb4 (by simp) (Below.alloc (Below.refl _ _) (Nat.le_refl _) _)
  have K4 : Below w2.heap.size w2 w4 := K3.trans (L4.mono K3.size)
  have B4 : Below w.heap.size w w4 := B3.trans (L4.mono B3.size)
  have c4 := Lib.hid (fun i => (hb4.cell (p := ⟨w3.heap.size, i, none⟩) (by simp)).trans ((al1_0 rfl).2.1 i))
  clear hb4 d3 e3
  go_wp2_with fail
  refine (Stock_c A1 A2 np c1 nl c2 wrg pc pl ls _ hp40 hl40 (HQ.out.later (by (repeat first | with_reducible assumption | with_reducible exact Below.refl _ _ | (with_reducible refine Below.alloc ?_ ?side _; case side => (first | omega | (with_reducible exact Below.size (by assumption)) | (simp; done) | (simp; omega))) | (with_reducible refine Below.setCell ?_ ?side _; case side => (first | omega | (with_reducible exact Below.size (by assumption)) | (simp; done) | (simp; omega))) | with_reducible refine Below.drew ?_ | with_reducible refine below_drewN ?_ _ | (with_reducible refine below_step (by assumption) ?side ?_; case side => (first | omega | (with_reducible exact Below.size (by assumption)) | (simp; done) | (simp; omega)))))) (HM.out.later (by (repeat first | with_reducible assumption | with_reducible exact Below.refl _ _ | (with_reducible refine Below.alloc ?_ ?side _; case side => (first | omega | (with_reducible exact Below.size (by assumption)) | (simp; done) | (simp; omega))) | (with_reducible refine Below.setCell ?_ ?side _; case side => (first | omega | (with_reducible exact Below.size (by assumption)) | (simp; done) | (simp; omega))) | with_reducible refine Below.drew ?_ | with_reducible refine below_drewN ?_ _ | (with_reducible refine below_step (by assumption) ?side ?_; case side => (first | omega | (with_reducible exact Below.size (by assumption)) | (simp; done) | (simp; omega))))))).mono ?_
  rw [HB.out.1]
  rintro e w5 ⟨rfl, hb5⟩
  have z5 := hb5.size
  simp only [World.size_alloc] at z5
  have d5 := fun i => (hb5.cell (p := ⟨w.heap.size, i, none⟩) (by first | omega | (simp; done) | (simp; omega))).trans ((World.cell?_alloc_lt _ _ ⟨w.heap.size, i, none⟩ n4).trans (d4 i))
  have e5 := fun i => (hb5.cell (p := ⟨w2.heap.size, i, none⟩) (by first | omega | (simp; done) | (simp; omega))).trans ((World.cell?_alloc_lt _ _ ⟨w2.heap.size, i, none⟩ m4).trans (e4 i))
  have n5 : w.heap.size < w5.heap.size := by omega
  have m5 : w2.heap.size < w5.heap.size := by omega
  have L5 : Below w4.heap.size w4 w5 := below_step hb5 (by simp) (Below.alloc (Below.refl _ _) (Nat.le_refl _) _)
  have K5 : Below w2.heap.size w2 w5 := K4.trans (L5.mono K4.size)
  have B5 : Below w.heap.size w w5 := B4.trans (L5.mono B4.size)
  have c5 := Lib.hid (fun i => (hb5.cell (p := ⟨w4.heap.size, i, none⟩) (by simp)).trans ((al1_0 rfl).2.1 i))
  clear hb5 d4 e4
  go_wp2_with fail
  refine (refStock_c Ap Al np cp nl cl wrg pc pl ls _ hp40 hl40 (HPI.out.later (by (repeat first | with_reducible assumption | with_reducible exact Below.refl _ _ | (with_reducible refine Below.alloc ?_ ?side _; case side => (first | omega | (with_reducible exact Below.size (by assumption)) | (simp; done) | (simp; omega))) | (with_reducible refine Below.setCell ?_ ?side _; case side => (first | omega | (with_reducible exact Below.size (by assumption)) | (simp; done) | (simp; omega))) | with_reducible refine Below.drew ?_ | with_reducible refine below_drewN ?_ _ | (with_reducible refine below_step (by assumption) ?side ?_; case side => (first | omega | (with_reducible exact Below.size (by assumption)) | (simp; done) | (simp; omega)))))) (HLI.out.later (by (repeat first | with_reducible assumption | with_reducible exact Below.refl _ _ | (with_reducible refine Below.alloc ?_ ?side _; case side => (first | omega | (with_reducible exact Below.size (by assumption)) | (simp; done) | (simp; omega))) | (with_reducible refine Below.setCell ?_ ?side _; case side => (first | omega | (with_reducible exact Below.size (by assumption)) | (simp; done) | (simp; omega))) | with_reducible refine Below.drew ?_ | with_reducible refine below_drewN ?_ _ | (with_reducible refine below_step (by assumption) ?side ?_; case side => (first | omega | (with_reducible exact Below.size (by assumption)) | (simp; done) | (simp; omega))))))).mono ?_
  rw [HB.out.2]
  rintro e w6 ⟨rfl, hb6⟩
  have z6 := hb6.size
  simp only [World.size_alloc] at z6
  have d6 := fun i => (hb6.cell (p := ⟨w.heap.size, i, none⟩) (by first | omega | (simp; done) | (simp; omega))).trans ((World.cell?_alloc_lt _ _ ⟨w.heap.size, i, none⟩ n5).trans (d5 i))
  have e6 := fun i => (hb6.cell (p := ⟨w2.heap.size, i, none⟩) (by first | omega | (simp; done) | (simp; omega))).trans ((World.cell?_alloc_lt _ _ ⟨w2.heap.size, i, none⟩ m5).trans (e5 i))
  have n6 : w.heap.size < w6.heap.size := by omega
  have m6 : w2.heap.size < w6.heap.size := by omega
  have L6 : Below w5.heap.size w5 w6 := below_step hb6 (by simp) (Below.alloc (Below.refl _ _) (Nat.le_refl _) _)
  have K6 : Below w2.heap.size w2 w6 := K5.trans (L6.mono K5.size)
  have B6 : Below w.heap.size w w6 := B5.trans (L6.mono B5.size)
  have c6 := Lib.hid (fun i => (hb6.cell (p := ⟨w5.heap.size, i, none⟩) (by simp)).trans ((al1_0 rfl).2.1 i))
  clear hb6 d5 e5
  go_wp2_with fail
  refine (Lost_c A1 A2 np c1 nl c2 wrg pl ls _ hp40 hl40 (HQ.out.later (by (repeat first | with_reducible assumption | with_reducible exact Below.refl _ _ | (with_reducible refine Below.alloc ?_ ?side _; case side => (first | omega | (with_reducible exact Below.size (by assumption)) | (simp; done) | (simp; omega))) | (with_reducible refine Below.setCell ?_ ?side _; case side => (first | omega | (with_reducible exact Below.size (by assumption)) | (simp; done) | (simp; omega))) | with_reducible refine Below.drew ?_ | with_reducible refine below_drewN ?_ _ | (with_reducible refine below_step (by assumption) ?side ?_; case side => (first | omega | (with_reducible exact Below.size (by assumption)) | (simp; done) | (simp; omega)))))) (HM.out.later (by (repeat first | with_reducible assumption | with_reducible exact Below.refl _ _ | (with_reducible refine Below.alloc ?_ ?side _; case side => (first | omega | (with_reducible exact Below.size (by assumption)) | (simp; done) | (simp; omega))) | (with_reducible refine Below.setCell ?_ ?side _; case side => (first | omega | (with_reducible exact Below.size (by assumption)) | (simp; done) | (simp; omega))) | with_reducible refine Below.drew ?_ | with_reducible refine below_drewN ?_ _ | (with_reducible refine below_step (by assumption) ?side ?_; case side => (first | omega | (with_reducible exact Below.size (by assumption)) | (simp; done) | (simp; omega))))))).mono ?_
  rw [HG.out.1]
  rintro e w7 ⟨rfl, hb7⟩
  have z7 := hb7.size
  simp only [World.size_alloc] at z7
  have d7 := fun i => (hb7.cell (p := ⟨w.heap.size, i, none⟩) (by first | omega | (simp; done) | (simp; omega))).trans ((World.cell?_alloc_lt _ _ ⟨w.heap.size, i, none⟩ n6).trans (d6 i))
  have e7 := fun i => (hb7.cell (p := ⟨w2.heap.size, i, none⟩) (by first | omega | (simp; done) | (simp; omega))).trans ((World.cell?_alloc_lt _ _ ⟨w2.heap.size, i, none⟩ m6).trans (e6 i))
  have n7 : w.heap.size < w7.heap.size := by omega
  have m7 : w2.heap.size < w7.heap.size := by omega
  have L7 : Below w6.heap.size w6 w7 := below_step hb7 (by simp) (Below.alloc (Below.refl _ _) (Nat.le_refl _) _)
  have K7 : Below w2.heap.size w2 w7 := K6.trans (L7.mono K6.size)
  have B7 : Below w.heap.size w w7 := B6.trans (L7.mono B6.size)
  have c7 := Lib.hid (fun i => (hb7.cell (p := ⟨w6.heap.size, i, none⟩) (by simp)).trans ((al1_0 rfl).2.1 i))
  clear hb7 d6 e6
  go_wp2_with fail
  refine (refLost_c Ap Al np cp nl cl wrg pl ls _ hp40 hl40 (HPI.out.later (by (repeat first | with_reducible assumption | with_reducible exact Below.refl _ _ | (with_reducible refine Below.alloc ?_ ?side _; case side => (first | omega | (with_reducible exact Below.size (by assumption)) | (simp; done) | (simp; omega))) | (with_reducible refine Below.setCell ?_ ?side _; case side => (first | omega | (with_reducible exact Below.size (by assumption)) | (simp; done) | (simp; omega))) | with_reducible refine Below.drew ?_ | with_reducible refine below_drewN ?_ _ | (with_reducible refine below_step (by assumption) ?side ?_; case side => (first | omega | (with_reducible exact Below.size (by assumption)) | (simp; done) | (simp; omega)))))) (HLI.out.later (by (repeat first | with_reducible assumption | with_reducible exact Below.refl _ _ | (with_reducible refine Below.alloc ?_ ?side _; case side => (first | omega | (with_reducible exact Below.size (by assumption)) | (simp; done) | (simp; omega))) | (with_reducible refine Below.setCell ?_ ?side _; case side => (first | omega | (with_reducible exact Below.size (by assumption)) | (simp; done) | (simp; omega))) | with_reducible refine Below.drew ?_ | with_reducible refine below_drewN ?_ _ | (with_reducible refine below_step (by assumption) ?side ?_; case side => (first | omega | (with_reducible exact Below.size (by assumption)) | (simp; done) | (simp; omega))))))).mono ?_
  rw [HG.out.2]
  rintro e w8 ⟨rfl, hb8⟩
  have z8 := hb8.size
  simp only [World.size_alloc] at z8
  have d8 := fun i => (hb8.cell (p := ⟨w.heap.size, i, none⟩) (by first | omega | (simp; done) | (simp; omega))).trans ((World.cell?_alloc_lt _ _ ⟨w.heap.size, i, none⟩ n7).trans (d7 i))
  have e8 := fun i => (hb8.cell (p := ⟨w2.heap.size, i, none⟩) (by first | omega | (simp; done) | (simp; omega))).trans ((World.cell?_alloc_lt _ _ ⟨w2.heap.size, i, none⟩ m7).trans (e7 i))
  have L8 : Below w7.heap.size w7 w8 := below_step hb8 (by simp) (Below.alloc (Below.refl _ _) (Nat.le_refl _) _)
  have K8 : Below w2.heap.size w2 w8 := K7.trans (L8.mono K7.size)
  have B8 : Below w.heap.size w w8 := B7.trans (L8.mono B7.size)
  have v7 := fun i => (hb8.cell (p := ⟨w7.heap.size, i, none⟩) (by simp)).trans ((al1_0 rfl).2.1 i)
  have M7 := L8
  have v6 := fun i => (M7.cell (p := ⟨w6.heap.size, i, none⟩) (by first | omega | (simp; done) | (simp; omega))).trans (c7.out i)
  have M6 : Below w6.heap.size w6 w8 := L7.trans (M7.mono L7.size)
  have v5 := fun i => (M6.cell (p := ⟨w5.heap.size, i, none⟩) (by first | omega | (simp; done) | (simp; omega))).trans (c6.out i)
  have M5 : Below w5.heap.size w5 w8 := L6.trans (M6.mono L6.size)
  have v4 := fun i => (M5.cell (p := ⟨w4.heap.size, i, none⟩) (by first | omega | (simp; done) | (simp; omega))).trans (c5.out i)
  have M4 : Below w4.heap.size w4 w8 := L5.trans (M5.mono L5.size)
  have v3 := fun i => (M4.cell (p := ⟨w3.heap.size, i, none⟩) (by first | omega | (simp; done) | (simp; omega))).trans (c4.out i)
  have n8 : w.heap.size < w8.heap.size := by omega
  have m8 : w2.heap.size < w8.heap.size := by omega
  have o3 : w3.heap.size < w8.heap.size := by omega
  have o4 : w4.heap.size < w8.heap.size := by omega
  have o5 : w5.heap.size < w8.heap.size := by omega
  have o6 : w6.heap.size < w8.heap.size := by omega
  have o7 : w7.heap.size < w8.heap.size := by omega
  clear hb8 L4 L5 L6 L7 L8 M4 M5 M6 M7 c4 c5 c6 c7 d7 e7 K3 K4 K5 K6 K7 B3 B4 B5 B6 B7
  go_wp2_with (first
    | (go_at_call 33; refine (same_c A1 A2 Ap Al np c1 nl c2 cp cl wrg pl ls _ hp40 hl40 (HQ.out.later (by (repeat first | with_reducible assumption | with_reducible exact Below.refl _ _ | (with_reducible refine Below.alloc ?_ ?side _; case side => (first | omega | (with_reducible exact Below.size (by assumption)) | (simp; done) | (simp; omega))) | (with_reducible refine Below.setCell ?_ ?side _; case side => (first | omega | (with_reducible exact Below.size (by assumption)) | (simp; done) | (simp; omega))) | with_reducible refine Below.drew ?_ | with_reducible refine below_drewN ?_ _ | (with_reducible refine below_step (by assumption) ?side ?_; case side => (first | omega | (with_reducible exact Below.size (by assumption)) | (simp; done) | (simp; omega)))))) (HM.out.later (by (repeat first | with_reducible assumption | with_reducible exact Below.refl _ _ | (with_reducible refine Below.alloc ?_ ?side _; case side => (first | omega | (with_reducible exact Below.size (by assumption)) | (simp; done) | (simp; omega))) | (with_reducible refine Below.setCell ?_ ?side _; case side => (first | omega | (with_reducible exact Below.size (by assumption)) | (simp; done) | (simp; omega))) | with_reducible refine Below.drew ?_ | with_reducible refine below_drewN ?_ _ | (with_reducible refine below_step (by assumption) ?side ?_; case side => (first | omega | (with_reducible exact Below.size (by assumption)) | (simp; done) | (simp; omega)))))) (HPI.out.later (by (repeat first | with_reducible assumption | with_reducible exact Below.refl _ _ | (with_reducible refine Below.alloc ?_ ?side _; case side => (first | omega | (with_reducible exact Below.size (by assumption)) | (simp; done) | (simp; omega))) | (with_reducible refine Below.setCell ?_ ?side _; case side => (first | omega | (with_reducible exact Below.size (by assumption)) | (simp; done) | (simp; omega))) | with_reducible refine Below.drew ?_ | with_reducible refine below_drewN ?_ _ | (with_reducible refine below_step (by assumption) ?side ?_; case side => (first | omega | (with_reducible exact Below.size (by assumption)) | (simp; done) | (simp; omega)))))) (HLI.out.later (by (repeat first | with_reducible assumption | with_reducible exact Below.refl _ _ | (with_reducible refine Below.alloc ?_ ?side _; case side => (first | omega | (with_reducible exact Below.size (by assumption)) | (simp; done) | (simp; omega))) | (with_reducible refine Below.setCell ?_ ?side _; case side => (first | omega | (with_reducible exact Below.size (by assumption)) | (simp; done) | (simp; omega))) | with_reducible refine Below.drew ?_ | with_reducible refine below_drewN ?_ _ | (with_reducible refine below_step (by assumption) ?side ?_; case side => (first | omega | (with_reducible exact Below.size (by assumption)) | (simp; done) | (simp; omega))))))).mono ?_; rintro e w9 ⟨rfl, hb9⟩; have z9 := hb9.size; simp only [World.size_alloc] at z9; have B9 : Below w.heap.size w w9 := (by (repeat first | with_reducible assumption | with_reducible exact Below.refl _ _ | (with_reducible refine Below.alloc ?_ ?side _; case side => (first | omega | (with_reducible exact Below.size (by assumption)) | (simp; done) | (simp; omega))) | (with_reducible refine Below.setCell ?_ ?side _; case side => (first | omega | (with_reducible exact Below.size (by assumption)) | (simp; done) | (simp; omega))) | with_reducible refine Below.drew ?_ | with_reducible refine below_drewN ?_ _ | (with_reducible refine below_step (by assumption) ?side ?_; case side => (first | omega | (with_reducible exact Below.size (by assumption)) | (simp; done) | (simp; omega))))); clear hb9)
    | (go_at_call 13; refine (works_c _).mono ?_; (rintro e w10 ⟨rfl, hb10⟩)))
  go_ret
  exact ⟨rfl, by (repeat first | with_reducible assumption | with_reducible exact Below.refl _ _ | (with_reducible refine Below.alloc ?_ ?side _; case side => (first | omega | (with_reducible exact Below.size (by assumption)) | (simp; done) | (simp; omega))) | (with_reducible refine Below.setCell ?_ ?side _; case side => (first | omega | (with_reducible exact Below.size (by assumption)) | (simp; done) | (simp; omega))) | with_reducible refine Below.drew ?_ | with_reducible refine below_drewN ?_ _ | (with_reducible refine below_step (by assumption) ?side ?_; case side => (first | omega | (with_reducible exact Below.size (by assumption)) | (simp; done) | (simp; omega))))⟩

end Go.Proofs.Ytoehifincdflhaa
