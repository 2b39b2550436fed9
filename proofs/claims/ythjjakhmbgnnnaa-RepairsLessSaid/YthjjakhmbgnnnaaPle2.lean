/- RepairsLess (layer 7): the early ways. -/
import Derived.Test.YthjjakhmbgnnnaaPle
namespace Go.Proofs.Ythjjakhmbgnnnaa
open Go.RowKit
open Go.Sort (grow)
set_option linter.unusedVariables false

attribute [local go_sem] run_min7 run_max7
set_option maxRecDepth 100000 in
set_option maxHeartbeats 6400000 in
theorem Less_c (A : Option Addr) (n c : Nat) (q : Cb) (ls : List Sp) (y0 y1 y2 y3 y4 y5 y6 y7 x0 x1 x2 : Int) (w : World) (hq : CbOk q) (HL : SpsAt w A n ls) (hn : n ≤ 9223372036854775807) :
    Calls Try.prog 3 #[.agg #[.slice A n c, .int .i64 q.need, .int .i64 q.gap, .int .i64 q.doubt, .int .i64 q.joins, .int .i64 q.least], .agg #[.int .i64 y0, .int .i64 y1, .int .i64 y2, .int .i64 y3, .int .i64 y4, .int .i64 y5, .int .i64 y6, .int .i64 y7], .agg #[.int .i64 x0, .int .i64 x1, .int .i64 x2]] w
      fun e w' => e = .returned (.bool true) ∧ Below w.heap.size w w' := by
  have hrd : ∀ Z, Below w.heap.size w Z → Calls Try.prog 12 #[.agg #[.slice A n c, .int .i64 q.need, .int .i64 q.gap, .int .i64 q.doubt, .int .i64 q.joins, .int .i64 q.least]] Z fun e Z' => e = .returned (.bool (rdyC n ls q)) ∧ Below Z.heap.size Z Z' := fun Z hZ => ready_c A n c q ls Z (HL.later hZ)
  have hak : ∀ Z, Calls Try.prog 13 #[.agg #[.int .i64 x0, .int .i64 x1, .int .i64 x2]] Z fun e Z' => e = .returned (.bool (askC x0 x1 x2)) ∧ Below Z.heap.size Z Z' := fun Z => isAsk_c x0 x1 x2 Z
  have hwk := Lib.hid works_c
  cases er : rdyC n ls q
  · rw [er] at hrd
    replace hrd := Lib.hid hrd
    clear hak er HL hq hn
    go_enter Try.func3, Try.ntmps3
    go_wp2_with fail
    obtain ⟨X, hX⟩ : ∃ X, ((w.alloc (.cells #[.slice A n c, .int .i64 q.need, .int .i64 q.gap, .int .i64 q.doubt, .int .i64 q.joins, .int .i64 q.least] 24)).alloc (.cells #[.int .i64 y0, .int .i64 y1, .int .i64 y2, .int .i64 y3, .int .i64 y4, .int .i64 y5, .int .i64 y6, .int .i64 y7] 26)).alloc (.cells #[.int .i64 x0, .int .i64 x1, .int .i64 x2] 28) = X := ⟨_, rfl⟩
    rw [hX]
    have BX : Below w.heap.size w X := (al3 hX).1
    have zX : X.heap.size = w.heap.size + 3 := (al3 hX).2
    have P0 := Lib.hid (al3_0 hX).2.1
    have P1 := Lib.hid (al3_1 hX).2.1
    have P2 := Lib.hid (al3_2 hX).2.1
    have zw : w.heap.size ≤ X.heap.size := by omega
    have n0 : w.heap.size < X.heap.size := by omega
    have n1 : w.heap.size + 1 < X.heap.size := by omega
    have n2 : w.heap.size + 1 + 1 < X.heap.size := by omega
    clear hX
    refine (hrd.out X BX).mono ?_
    rintro e w1 ⟨rfl, hb1⟩
    have b1 := hb1
    clear hb1
    have c1_0 := fun j => (b1.cell (p := ⟨w.heap.size, j, none⟩) n0).trans (P0.out j)
    have c1_1 := fun j => (b1.cell (p := ⟨w.heap.size + 1, j, none⟩) n1).trans (P1.out j)
    have c1_2 := fun j => (b1.cell (p := ⟨w.heap.size + 1 + 1, j, none⟩) n2).trans (P2.out j)
    have z1 := b1.size
    go_wp2_with fail
    refine (hwk.out _).mono ?_
    rintro e w99 ⟨rfl, hb99⟩
    go_wp2
    go_ret
    exact ⟨rfl, BX.trans (Below.mono (b1.trans (hb99.mono z1)) zw)⟩
  rw [er] at hrd
  replace hrd := Lib.hid hrd
  cases ea : askC x0 x1 x2
  · rw [ea] at hak
    replace hak := Lib.hid hak
    clear er ea HL hq hn
    go_enter Try.func3, Try.ntmps3
    go_wp2_with fail
    obtain ⟨X, hX⟩ : ∃ X, ((w.alloc (.cells #[.slice A n c, .int .i64 q.need, .int .i64 q.gap, .int .i64 q.doubt, .int .i64 q.joins, .int .i64 q.least] 24)).alloc (.cells #[.int .i64 y0, .int .i64 y1, .int .i64 y2, .int .i64 y3, .int .i64 y4, .int .i64 y5, .int .i64 y6, .int .i64 y7] 26)).alloc (.cells #[.int .i64 x0, .int .i64 x1, .int .i64 x2] 28) = X := ⟨_, rfl⟩
    rw [hX]
    have BX : Below w.heap.size w X := (al3 hX).1
    have zX : X.heap.size = w.heap.size + 3 := (al3 hX).2
    have P0 := Lib.hid (al3_0 hX).2.1
    have P1 := Lib.hid (al3_1 hX).2.1
    have P2 := Lib.hid (al3_2 hX).2.1
    have zw : w.heap.size ≤ X.heap.size := by omega
    have n0 : w.heap.size < X.heap.size := by omega
    have n1 : w.heap.size + 1 < X.heap.size := by omega
    have n2 : w.heap.size + 1 + 1 < X.heap.size := by omega
    clear hX
    refine (hrd.out X BX).mono ?_
    rintro e w1 ⟨rfl, hb1⟩
    have b1 := hb1
    clear hb1
    have c1_0 := fun j => (b1.cell (p := ⟨w.heap.size, j, none⟩) n0).trans (P0.out j)
    have c1_1 := fun j => (b1.cell (p := ⟨w.heap.size + 1, j, none⟩) n1).trans (P1.out j)
    have c1_2 := fun j => (b1.cell (p := ⟨w.heap.size + 1 + 1, j, none⟩) n2).trans (P2.out j)
    have z1 := b1.size
    go_wp2_with fail
    refine (hak.out _).mono ?_
    rintro e w2 ⟨rfl, hb2⟩
    have b2 : Below X.heap.size X w2 := b1.trans (hb2.mono z1)
    clear hb2 c1_0 c1_1 c1_2 b1
    have c2_0 := fun j => (b2.cell (p := ⟨w.heap.size, j, none⟩) n0).trans (P0.out j)
    have c2_1 := fun j => (b2.cell (p := ⟨w.heap.size + 1, j, none⟩) n1).trans (P1.out j)
    have c2_2 := fun j => (b2.cell (p := ⟨w.heap.size + 1 + 1, j, none⟩) n2).trans (P2.out j)
    have z2 := b2.size
    go_wp2_with fail
    refine (hwk.out _).mono ?_
    rintro e w99 ⟨rfl, hb99⟩
    go_wp2
    go_ret
    exact ⟨rfl, BX.trans (Below.mono (b2.trans (hb99.mono z2)) zw)⟩
  rw [ea] at hak
  replace hak := Lib.hid hak
  by_cases hmn : mn7 y0 y1 y2 y3 y4 y6 y7 < 0
  · clear er ea HL hq hn
    go_enter Try.func3, Try.ntmps3
    go_wp2_with fail
    obtain ⟨X, hX⟩ : ∃ X, ((w.alloc (.cells #[.slice A n c, .int .i64 q.need, .int .i64 q.gap, .int .i64 q.doubt, .int .i64 q.joins, .int .i64 q.least] 24)).alloc (.cells #[.int .i64 y0, .int .i64 y1, .int .i64 y2, .int .i64 y3, .int .i64 y4, .int .i64 y5, .int .i64 y6, .int .i64 y7] 26)).alloc (.cells #[.int .i64 x0, .int .i64 x1, .int .i64 x2] 28) = X := ⟨_, rfl⟩
    rw [hX]
    have BX : Below w.heap.size w X := (al3 hX).1
    have zX : X.heap.size = w.heap.size + 3 := (al3 hX).2
    have P0 := Lib.hid (al3_0 hX).2.1
    have P1 := Lib.hid (al3_1 hX).2.1
    have P2 := Lib.hid (al3_2 hX).2.1
    have zw : w.heap.size ≤ X.heap.size := by omega
    have n0 : w.heap.size < X.heap.size := by omega
    have n1 : w.heap.size + 1 < X.heap.size := by omega
    have n2 : w.heap.size + 1 + 1 < X.heap.size := by omega
    clear hX
    refine (hrd.out X BX).mono ?_
    rintro e w1 ⟨rfl, hb1⟩
    have b1 := hb1
    clear hb1
    have c1_0 := fun j => (b1.cell (p := ⟨w.heap.size, j, none⟩) n0).trans (P0.out j)
    have c1_1 := fun j => (b1.cell (p := ⟨w.heap.size + 1, j, none⟩) n1).trans (P1.out j)
    have c1_2 := fun j => (b1.cell (p := ⟨w.heap.size + 1 + 1, j, none⟩) n2).trans (P2.out j)
    have z1 := b1.size
    go_wp2_with fail
    refine (hak.out _).mono ?_
    rintro e w2 ⟨rfl, hb2⟩
    have b2 : Below X.heap.size X w2 := b1.trans (hb2.mono z1)
    clear hb2 c1_0 c1_1 c1_2 b1
    have c2_0 := fun j => (b2.cell (p := ⟨w.heap.size, j, none⟩) n0).trans (P0.out j)
    have c2_1 := fun j => (b2.cell (p := ⟨w.heap.size + 1, j, none⟩) n1).trans (P1.out j)
    have c2_2 := fun j => (b2.cell (p := ⟨w.heap.size + 1 + 1, j, none⟩) n2).trans (P2.out j)
    have z2 := b2.size
    go_wp2_with fail
    refine (hwk.out _).mono ?_
    rintro e w99 ⟨rfl, hb99⟩
    go_wp2
    go_ret
    exact ⟨rfl, BX.trans (Below.mono (b2.trans (hb99.mono z2)) zw)⟩
  by_cases hmx : 9999 < mx7 y0 y1 y2 y3 y4 y6 y7
  · clear er ea HL hq hn
    go_enter Try.func3, Try.ntmps3
    go_wp2_with fail
    obtain ⟨X, hX⟩ : ∃ X, ((w.alloc (.cells #[.slice A n c, .int .i64 q.need, .int .i64 q.gap, .int .i64 q.doubt, .int .i64 q.joins, .int .i64 q.least] 24)).alloc (.cells #[.int .i64 y0, .int .i64 y1, .int .i64 y2, .int .i64 y3, .int .i64 y4, .int .i64 y5, .int .i64 y6, .int .i64 y7] 26)).alloc (.cells #[.int .i64 x0, .int .i64 x1, .int .i64 x2] 28) = X := ⟨_, rfl⟩
    rw [hX]
    have BX : Below w.heap.size w X := (al3 hX).1
    have zX : X.heap.size = w.heap.size + 3 := (al3 hX).2
    have P0 := Lib.hid (al3_0 hX).2.1
    have P1 := Lib.hid (al3_1 hX).2.1
    have P2 := Lib.hid (al3_2 hX).2.1
    have zw : w.heap.size ≤ X.heap.size := by omega
    have n0 : w.heap.size < X.heap.size := by omega
    have n1 : w.heap.size + 1 < X.heap.size := by omega
    have n2 : w.heap.size + 1 + 1 < X.heap.size := by omega
    clear hX
    refine (hrd.out X BX).mono ?_
    rintro e w1 ⟨rfl, hb1⟩
    have b1 := hb1
    clear hb1
    have c1_0 := fun j => (b1.cell (p := ⟨w.heap.size, j, none⟩) n0).trans (P0.out j)
    have c1_1 := fun j => (b1.cell (p := ⟨w.heap.size + 1, j, none⟩) n1).trans (P1.out j)
    have c1_2 := fun j => (b1.cell (p := ⟨w.heap.size + 1 + 1, j, none⟩) n2).trans (P2.out j)
    have z1 := b1.size
    go_wp2_with fail
    refine (hak.out _).mono ?_
    rintro e w2 ⟨rfl, hb2⟩
    have b2 : Below X.heap.size X w2 := b1.trans (hb2.mono z1)
    clear hb2 c1_0 c1_1 c1_2 b1
    have c2_0 := fun j => (b2.cell (p := ⟨w.heap.size, j, none⟩) n0).trans (P0.out j)
    have c2_1 := fun j => (b2.cell (p := ⟨w.heap.size + 1, j, none⟩) n1).trans (P1.out j)
    have c2_2 := fun j => (b2.cell (p := ⟨w.heap.size + 1 + 1, j, none⟩) n2).trans (P2.out j)
    have z2 := b2.size
    go_wp2_with fail
    refine (hwk.out _).mono ?_
    rintro e w99 ⟨rfl, hb99⟩
    go_wp2
    go_ret
    exact ⟨rfl, BX.trans (Below.mono (b2.trans (hb99.mono z2)) zw)⟩
  exact LessMain_c A n c q ls y0 y1 y2 y3 y4 y5 y6 y7 x0 x1 x2 w hq HL er ea hmn hmx hrd hak

end Go.Proofs.Ythjjakhmbgnnnaa
