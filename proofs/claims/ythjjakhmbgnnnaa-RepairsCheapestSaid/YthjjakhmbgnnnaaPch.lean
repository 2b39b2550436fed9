/- RepairsCheapest (layer 7): the walk. -/
import Derived.Test.YthjjakhmbgnnnaaRt7
import Derived.Test.YthjjakhmbgnnnaaRk7
import Derived.Test.YthjjakhmbgnnnaaCp7
namespace Go.Proofs.Ythjjakhmbgnnnaa
open Go.RowKit
open Go.Sort (grow)
set_option linter.unusedVariables false

set_option maxRecDepth 100000 in
set_option maxHeartbeats 6400000 in
theorem CheapestLaw_c (A : Option Addr) (n c : Nat) (q : Cb) (ls : List Sp) (x0 x1 x2 : Int) (w : World) (hq : CbOk q) (HL : SpsAt w A n ls) (hn : n ≤ 9223372036854775807) :
    Calls Try.prog 6 #[.agg #[.slice A n c, .int .i64 q.need, .int .i64 q.gap, .int .i64 q.doubt, .int .i64 q.joins, .int .i64 q.least], .agg #[.int .i64 x0, .int .i64 x1, .int .i64 x2]] w
      fun e w' => e = .returned (.bool true) ∧ Below w.heap.size w w' := by
  have hwk := Lib.hid works_c
  have HLI := Lib.hid HL
  have HQ := Lib.hid hq
  have hfr : ∀ Z, Below w.heap.size w Z → Calls Try.prog 22 #[.agg #[.slice A n c, .int .i64 q.need, .int .i64 q.gap, .int .i64 q.doubt, .int .i64 q.joins, .int .i64 q.least]] Z fun e Z' => e = .returned (.bool (farC n ls q)) ∧ Below Z.heap.size Z Z' := fun Z hZ => Far_c A n c q ls Z (HLI.out.later hZ)
  clear HL hq
  cases hfa : farC n ls q
  · have hn40 : n ≤ 40 := by
      simp only [farC, Bool.or_eq_false_iff, decide_eq_false_iff_not] at hfa
      have := hfa.1
      omega
    rw [hfa] at hfr
    replace hfr := Lib.hid hfr
    clear hfa hn
    go_enter Try.func6, Try.ntmps6
    go_wp2_with fail
    obtain ⟨X, hX⟩ : ∃ X, (w.alloc (.cells #[.slice A n c, .int .i64 q.need, .int .i64 q.gap, .int .i64 q.doubt, .int .i64 q.joins, .int .i64 q.least] 24)).alloc (.cells #[.int .i64 x0, .int .i64 x1, .int .i64 x2] 28) = X := ⟨_, rfl⟩
    rw [hX]
    have BX : Below w.heap.size w X := (al2 hX).1
    have zX : X.heap.size = w.heap.size + 2 := (al2 hX).2
    have P0 := Lib.hid (al2_0 hX).2.1
    have P1 := Lib.hid (al2_1 hX).2.1
    have zw : w.heap.size ≤ X.heap.size := by omega
    have n0 : w.heap.size < X.heap.size := by omega
    have n1 : w.heap.size + 1 < X.heap.size := by omega
    clear hX
    refine (hfr.out X BX).mono ?_
    rintro e w1 ⟨rfl, hb1⟩
    have b1 := hb1
    have z1 := b1.size
    clear hb1
    have c1_0 := fun j => (b1.cell (p := ⟨w.heap.size, j, none⟩) n0).trans (P0.out j)
    have m1 : w.heap.size < w1.heap.size := by omega
    go_wp2_with fail
    refine (Copy_c A n c q ls w1 hn40 (HLI.out.later (BX.trans (b1.mono zw)))).mono ?_
    rintro e w2 ⟨A1, k1, rfl, hO, hb2⟩
    have HO := Lib.hid hO
    have b2 := Lib.hid hb2
    have z2 := hb2.size
    clear hO hb2 c1_0
    go_upto_region 4 with (fail)
    go_name_world Y hY
    have bY := (al1 hY).1
    have N2 := (al1_0 hY).1
    have C2 := Lib.hid (al1_0 hY).2.1
    have BXY : Below X.heap.size X Y := b1.trans ((b2.out.trans (bY.mono z2)).mono z1)
    have C0 := Lib.hid (fun j => (BXY.cell (p := ⟨w.heap.size, j, none⟩) n0).trans (P0.out j))
    have C1 := Lib.hid (fun j => (BXY.cell (p := ⟨w.heap.size + 1, j, none⟩) n1).trans (P1.out j))
    have N0 : w.heap.size < Y.heap.size := Nat.lt_of_lt_of_le n0 BXY.size
    have N1 : w.heap.size + 1 < Y.heap.size := Nat.lt_of_lt_of_le n1 BXY.size
    have BW : Below w.heap.size w Y := BX.trans (BXY.mono zw)
    have zc := BW.size
    have SPO : SpsAt Y A1 n ls := (sps_iff.2 (sl_of_own encS_len HO.out HLI.out.1)).later bY
    have SPC : SpsAt Y A n ls := HLI.out.later BW
    have b0 : Below Y.heap.size Y Y := Below.refl _ _
    have hco : ∀ V, Below Y.heap.size Y V → Calls Try.prog 18 #[.agg #[.slice A1 n k1, .int .i64 q.need, .int .i64 q.gap, .int .i64 q.doubt, .int .i64 q.joins, .int .i64 q.least], .int .i64 x0, .int .i64 x1] V fun e V' => e = .returned (.tuple #[.int .i64 (chR n ls q x0 x1).1, .int .i64 (chR n ls q x0 x1).2]) ∧ Below V.heap.size V V' := fun V hV => cheapest_c A1 n k1 q x0 x1 ls V hn40 HQ.out (SPO.later hV)
    have hcc : ∀ V, Below Y.heap.size Y V → Calls Try.prog 23 #[.agg #[.slice A n c, .int .i64 q.need, .int .i64 q.gap, .int .i64 q.doubt, .int .i64 q.joins, .int .i64 q.least], .int .i64 x0, .int .i64 x1] V fun e V' => e = .returned (.tuple #[.int .i64 (chR n ls q x0 x1).1, .int .i64 (chR n ls q x0 x1).2]) ∧ Below V.heap.size V V' := fun V hV => refCheapest_c A n c q x0 x1 ls V hn40 (SPC.later hV)
    have hso : ∀ V, Below Y.heap.size Y V → Calls Try.prog 19 #[.agg #[.slice A1 n k1, .int .i64 q.need, .int .i64 q.gap, .int .i64 q.doubt, .int .i64 q.joins, .int .i64 q.least], .int .i64 x2] V fun e V' => e = .returned (.tuple #[.int .i64 (stR n ls q x2).1, .int .i64 (stR n ls q x2).2]) ∧ Below V.heap.size V V' := fun V hV => strong_c A1 n k1 q x2 ls V hn40 HQ.out (SPO.later hV)
    have hsc : ∀ V, Below Y.heap.size Y V → Calls Try.prog 24 #[.agg #[.slice A n c, .int .i64 q.need, .int .i64 q.gap, .int .i64 q.doubt, .int .i64 q.joins, .int .i64 q.least], .int .i64 x2] V fun e V' => e = .returned (.tuple #[.int .i64 (stR n ls q x2).1, .int .i64 (stR n ls q x2).2]) ∧ Below V.heap.size V V' := fun V hV => refStrong_c A n c q x2 ls V hn40 (SPC.later hV)
    have hsm : ∀ V, Below Y.heap.size Y V → Calls Try.prog 25 #[.agg #[.slice A1 n k1, .int .i64 q.need, .int .i64 q.gap, .int .i64 q.doubt, .int .i64 q.joins, .int .i64 q.least], .agg #[.slice A n c, .int .i64 q.need, .int .i64 q.gap, .int .i64 q.doubt, .int .i64 q.joins, .int .i64 q.least]] V fun e V' => e = .returned (.bool true) ∧ Below V.heap.size V V' := fun V hV => same_c A1 A n k1 c q ls V hn40 (SPO.later hV) (SPC.later hV)
    obtain ⟨⟨m, e⟩, hE⟩ : ∃ E, chR n ls q x0 x1 = E := ⟨_, rfl⟩
    obtain ⟨⟨p, g⟩, hG⟩ : ∃ E, stR n ls q x2 = E := ⟨_, rfl⟩
    rw [hE] at hco hcc
    rw [hG] at hso hsc
    simp only at hco hcc hso hsc
    replace hco := Lib.hid hco
    replace hcc := Lib.hid hcc
    replace hso := Lib.hid hso
    replace hsc := Lib.hid hsc
    replace hsm := Lib.hid hsm
    have e1 : (m == m) = true := by simp
    have e2 : (e == e) = true := by simp
    have e3 : (p == p) = true := by simp
    have e4 : (g == g) = true := by simp
    clear hY bY BXY SPO SPC hE hG b1 b2 HO BX z1
    have c0_0 := fun j => (b0.cell (p := ⟨w.heap.size, j, none⟩) N0).trans (C0.out j)
    have c0_1 := fun j => (b0.cell (p := ⟨w.heap.size + 1, j, none⟩) N1).trans (C1.out j)
    have c0_2 := fun j => (b0.cell (p := ⟨w2.heap.size, j, none⟩) N2).trans (C2.out j)
    have z0 := b0.size
    go_wp2_with fail
    refine (hco.out _ b0).mono ?_
    rintro e w3 ⟨rfl, hb3⟩
    have b3 : Below Y.heap.size Y w3 := b0.trans (hb3.mono z0)
    clear hb3 c0_0 c0_1 c0_2 b0
    have c3_0 := fun j => (b3.cell (p := ⟨w.heap.size, j, none⟩) N0).trans (C0.out j)
    have c3_1 := fun j => (b3.cell (p := ⟨w.heap.size + 1, j, none⟩) N1).trans (C1.out j)
    have c3_2 := fun j => (b3.cell (p := ⟨w2.heap.size, j, none⟩) N2).trans (C2.out j)
    have z3 := b3.size
    go_wp2_with fail
    refine (hcc.out _ b3).mono ?_
    rintro e w4 ⟨rfl, hb4⟩
    have b4 : Below Y.heap.size Y w4 := b3.trans (hb4.mono z3)
    clear hb4 c3_0 c3_1 c3_2 b3
    have c4_0 := fun j => (b4.cell (p := ⟨w.heap.size, j, none⟩) N0).trans (C0.out j)
    have c4_1 := fun j => (b4.cell (p := ⟨w.heap.size + 1, j, none⟩) N1).trans (C1.out j)
    have c4_2 := fun j => (b4.cell (p := ⟨w2.heap.size, j, none⟩) N2).trans (C2.out j)
    have z4 := b4.size
    go_wp2_with fail
    refine (hso.out _ b4).mono ?_
    rintro e w5 ⟨rfl, hb5⟩
    have b5 : Below Y.heap.size Y w5 := b4.trans (hb5.mono z4)
    clear hb5 c4_0 c4_1 c4_2 b4
    have c5_0 := fun j => (b5.cell (p := ⟨w.heap.size, j, none⟩) N0).trans (C0.out j)
    have c5_1 := fun j => (b5.cell (p := ⟨w.heap.size + 1, j, none⟩) N1).trans (C1.out j)
    have c5_2 := fun j => (b5.cell (p := ⟨w2.heap.size, j, none⟩) N2).trans (C2.out j)
    have z5 := b5.size
    go_wp2_with fail
    refine (hsc.out _ b5).mono ?_
    rintro e w6 ⟨rfl, hb6⟩
    have b6 : Below Y.heap.size Y w6 := b5.trans (hb6.mono z5)
    clear hb6 c5_0 c5_1 c5_2 b5
    have c6_0 := fun j => (b6.cell (p := ⟨w.heap.size, j, none⟩) N0).trans (C0.out j)
    have c6_1 := fun j => (b6.cell (p := ⟨w.heap.size + 1, j, none⟩) N1).trans (C1.out j)
    have c6_2 := fun j => (b6.cell (p := ⟨w2.heap.size, j, none⟩) N2).trans (C2.out j)
    have z6 := b6.size
    go_wp2_with fail
    refine (hsm.out _ b6).mono ?_
    rintro e w7 ⟨rfl, hb7⟩
    have b7 : Below Y.heap.size Y w7 := b6.trans (hb7.mono z6)
    clear hb7 c6_0 c6_1 c6_2 b6
    have c7_0 := fun j => (b7.cell (p := ⟨w.heap.size, j, none⟩) N0).trans (C0.out j)
    have c7_1 := fun j => (b7.cell (p := ⟨w.heap.size + 1, j, none⟩) N1).trans (C1.out j)
    have c7_2 := fun j => (b7.cell (p := ⟨w2.heap.size, j, none⟩) N2).trans (C2.out j)
    have z7 := b7.size
    go_wp2_with fail
    refine (hwk.out _).mono ?_
    rintro e w99 ⟨rfl, hb99⟩
    go_wp2
    go_ret
    exact ⟨rfl, BW.trans (Below.mono (b7.trans (hb99.mono z7)) zc)⟩
  · rw [hfa] at hfr
    replace hfr := Lib.hid hfr
    clear hfa hn
    go_enter Try.func6, Try.ntmps6
    go_wp2_with fail
    obtain ⟨X, hX⟩ : ∃ X, (w.alloc (.cells #[.slice A n c, .int .i64 q.need, .int .i64 q.gap, .int .i64 q.doubt, .int .i64 q.joins, .int .i64 q.least] 24)).alloc (.cells #[.int .i64 x0, .int .i64 x1, .int .i64 x2] 28) = X := ⟨_, rfl⟩
    rw [hX]
    have BX : Below w.heap.size w X := (al2 hX).1
    have zX : X.heap.size = w.heap.size + 2 := (al2 hX).2
    have P0 := Lib.hid (al2_0 hX).2.1
    have P1 := Lib.hid (al2_1 hX).2.1
    have zw : w.heap.size ≤ X.heap.size := by omega
    have n0 : w.heap.size < X.heap.size := by omega
    have n1 : w.heap.size + 1 < X.heap.size := by omega
    clear hX
    refine (hfr.out X BX).mono ?_
    rintro e w1 ⟨rfl, hb1⟩
    have b1 := hb1
    have z1 := b1.size
    clear hb1
    go_wp2_with fail
    refine (hwk.out _).mono ?_
    rintro e w99 ⟨rfl, hb99⟩
    go_wp2
    go_ret
    exact ⟨rfl, BX.trans (Below.mono (b1.trans (hb99.mono z1)) zw)⟩

end Go.Proofs.Ythjjakhmbgnnnaa
