/- RepairsPrices (layer 7): the walk. -/
import Derived.Test.YthjjakhmbgnnnaaPc7
import Derived.Test.YthjjakhmbgnnnaaFa7
namespace Go.Proofs.Ythjjakhmbgnnnaa
open Go.RowKit
open Go.Sort (grow)
set_option linter.unusedVariables false

set_option maxRecDepth 100000 in
set_option maxHeartbeats 6400000 in
theorem Prices_c (A : Option Addr) (n c : Nat) (q : Cb) (ls : List Sp) (x0 x1 x2 y0 y1 y2 : Int) (w : World) (hq : CbOk q) (HL : SpsAt w A n ls) (hn : n ≤ 9223372036854775807) :
    Calls Try.prog 4 #[.agg #[.slice A n c, .int .i64 q.need, .int .i64 q.gap, .int .i64 q.doubt, .int .i64 q.joins, .int .i64 q.least], .agg #[.int .i64 x0, .int .i64 x1, .int .i64 x2], .agg #[.int .i64 y0, .int .i64 y1, .int .i64 y2]] w
      fun e w' => e = .returned (.bool true) ∧ Below w.heap.size w w' := by
  have hrd : ∀ Z, Below w.heap.size w Z → Calls Try.prog 12 #[.agg #[.slice A n c, .int .i64 q.need, .int .i64 q.gap, .int .i64 q.doubt, .int .i64 q.joins, .int .i64 q.least]] Z fun e Z' => e = .returned (.bool (rdyC n ls q)) ∧ Below Z.heap.size Z Z' := fun Z hZ => ready_c A n c q ls Z (HL.later hZ)
  have hak : ∀ Z, Calls Try.prog 13 #[.agg #[.int .i64 x0, .int .i64 x1, .int .i64 x2]] Z fun e Z' => e = .returned (.bool (askC x0 x1 x2)) ∧ Below Z.heap.size Z Z' := fun Z => isAsk_c x0 x1 x2 Z
  have hwk := Lib.hid works_c
  cases er : rdyC n ls q
  · rw [er] at hrd
    replace hrd := Lib.hid hrd
    clear hak er HL hq hn
    go_enter Try.func4, Try.ntmps4
    go_wp2_with fail
    obtain ⟨X, hX⟩ : ∃ X, ((w.alloc (.cells #[.slice A n c, .int .i64 q.need, .int .i64 q.gap, .int .i64 q.doubt, .int .i64 q.joins, .int .i64 q.least] 24)).alloc (.cells #[.int .i64 x0, .int .i64 x1, .int .i64 x2] 28)).alloc (.cells #[.int .i64 y0, .int .i64 y1, .int .i64 y2] 28) = X := ⟨_, rfl⟩
    rw [hX]
    have BX : Below w.heap.size w X := (al3 hX).1
    have zX : X.heap.size = w.heap.size + 3 := (al3 hX).2
    have p0 := (al3_0 hX).2.1
    have p1 := (al3_1 hX).2.1
    have p2 := (al3_2 hX).2.1
    have P0 := Lib.hid p0
    have P1 := Lib.hid p1
    have P2 := Lib.hid p2
    have zw : w.heap.size ≤ X.heap.size := by omega
    have n0 : w.heap.size < X.heap.size := by omega
    have n1 : w.heap.size + 1 < X.heap.size := by omega
    have n2 : w.heap.size + 1 + 1 < X.heap.size := by omega
    clear hX p0 p1 p2
    refine (hrd.out X BX).mono ?_
    rintro e w1 ⟨rfl, hb1⟩
    have b1 := hb1
    clear hb1
    have c1_0 := fun j => (b1.cell (p := ⟨w.heap.size, j, none⟩) n0).trans (P0.out j)
    have c1_1 := fun j => (b1.cell (p := ⟨w.heap.size + 1, j, none⟩) n1).trans (P1.out j)
    have c1_2 := fun j => (b1.cell (p := ⟨w.heap.size + 1 + 1, j, none⟩) n2).trans (P2.out j)
    have z1 := b1.size
    go_wp2_with fail
    refine (hwk.out _).mono ?_
    rintro e w9 ⟨rfl, hb9⟩
    go_wp2
    go_ret
    exact ⟨rfl, BX.trans (Below.mono (b1.trans (hb9.mono z1)) zw)⟩
  rw [er] at hrd
  replace hrd := Lib.hid hrd
  cases ea : askC x0 x1 x2
  · rw [ea] at hak
    replace hak := Lib.hid hak
    clear er ea HL hq hn
    go_enter Try.func4, Try.ntmps4
    go_wp2_with fail
    obtain ⟨X, hX⟩ : ∃ X, ((w.alloc (.cells #[.slice A n c, .int .i64 q.need, .int .i64 q.gap, .int .i64 q.doubt, .int .i64 q.joins, .int .i64 q.least] 24)).alloc (.cells #[.int .i64 x0, .int .i64 x1, .int .i64 x2] 28)).alloc (.cells #[.int .i64 y0, .int .i64 y1, .int .i64 y2] 28) = X := ⟨_, rfl⟩
    rw [hX]
    have BX : Below w.heap.size w X := (al3 hX).1
    have zX : X.heap.size = w.heap.size + 3 := (al3 hX).2
    have p0 := (al3_0 hX).2.1
    have p1 := (al3_1 hX).2.1
    have p2 := (al3_2 hX).2.1
    have P0 := Lib.hid p0
    have P1 := Lib.hid p1
    have P2 := Lib.hid p2
    have zw : w.heap.size ≤ X.heap.size := by omega
    have n0 : w.heap.size < X.heap.size := by omega
    have n1 : w.heap.size + 1 < X.heap.size := by omega
    have n2 : w.heap.size + 1 + 1 < X.heap.size := by omega
    clear hX p0 p1 p2
    refine (hrd.out X BX).mono ?_
    rintro e w1 ⟨rfl, hb1⟩
    have b1 := hb1
    clear hb1
    have c1_0 := fun j => (b1.cell (p := ⟨w.heap.size, j, none⟩) n0).trans (P0.out j)
    have c1_1 := fun j => (b1.cell (p := ⟨w.heap.size + 1, j, none⟩) n1).trans (P1.out j)
    have c1_2 := fun j => (b1.cell (p := ⟨w.heap.size + 1 + 1, j, none⟩) n2).trans (P2.out j)
    have z1 := b1.size
    go_wp2_with fail
    refine (hak.out _).mono ?_
    rintro e w2 ⟨rfl, hb2⟩
    have b2 : Below X.heap.size X w2 := b1.trans (hb2.mono z1)
    clear hb2 c1_0 c1_1 c1_2 b1
    have c2_0 := fun j => (b2.cell (p := ⟨w.heap.size, j, none⟩) n0).trans (P0.out j)
    have c2_1 := fun j => (b2.cell (p := ⟨w.heap.size + 1, j, none⟩) n1).trans (P1.out j)
    have c2_2 := fun j => (b2.cell (p := ⟨w.heap.size + 1 + 1, j, none⟩) n2).trans (P2.out j)
    have z2 := b2.size
    go_wp2_with fail
    refine (hwk.out _).mono ?_
    rintro e w9 ⟨rfl, hb9⟩
    go_wp2
    go_ret
    exact ⟨rfl, BX.trans (Below.mono (b2.trans (hb9.mono z2)) zw)⟩
  rw [ea] at hak
  replace hak := Lib.hid hak
  have hp0 : ∀ Z, Calls Try.prog 21 #[.int .i64 y0] Z fun e Z' => e = .returned (.bool (wi y0 0 999)) ∧ Z = Z' := fun Z => IsPrice_c _ _
  have hp1 : ∀ Z, Calls Try.prog 21 #[.int .i64 y1] Z fun e Z' => e = .returned (.bool (wi y1 0 999)) ∧ Z = Z' := fun Z => IsPrice_c _ _
  obtain ⟨v0, hv0⟩ : ∃ v, wi y0 0 999 = v := ⟨_, rfl⟩
  obtain ⟨v1, hv1⟩ : ∃ v, wi y1 0 999 = v := ⟨_, rfl⟩
  rw [hv0] at hp0
  rw [hv1] at hp1
  replace hp0 := Lib.hid hp0
  replace hp1 := Lib.hid hp1
  by_cases hbad : v0 = false ∨ v1 = false ∨ y2 < 1 ∨ 30 < y2
  · clear er ea HL hq hn hv0 hv1
    have hsp : v0 = false ∨ (v0 = true ∧ v1 = false) ∨ (v0 = true ∧ v1 = true ∧ decide (y2 < 1) = true) ∨ (v0 = true ∧ v1 = true ∧ decide (y2 < 1) = false ∧ decide (30 < y2) = true) := by
      cases v0
      · exact .inl rfl
      · cases v1
        · exact .inr (.inl ⟨rfl, rfl⟩)
        · by_cases h : y2 < 1
          · exact .inr (.inr (.inl ⟨rfl, rfl, by simpa using h⟩))
          · exact .inr (.inr (.inr ⟨rfl, rfl, by simpa using h, by simp at hbad ⊢; omega⟩))
    clear hbad
    rcases hsp with rfl | ⟨rfl, rfl⟩ | ⟨rfl, rfl, e3⟩ | ⟨rfl, rfl, e3, e4⟩
    all_goals
      skip
      go_enter Try.func4, Try.ntmps4
      go_wp2_with fail
      obtain ⟨X, hX⟩ : ∃ X, ((w.alloc (.cells #[.slice A n c, .int .i64 q.need, .int .i64 q.gap, .int .i64 q.doubt, .int .i64 q.joins, .int .i64 q.least] 24)).alloc (.cells #[.int .i64 x0, .int .i64 x1, .int .i64 x2] 28)).alloc (.cells #[.int .i64 y0, .int .i64 y1, .int .i64 y2] 28) = X := ⟨_, rfl⟩
      rw [hX]
      have BX : Below w.heap.size w X := (al3 hX).1
      have zX : X.heap.size = w.heap.size + 3 := (al3 hX).2
      have p0 := (al3_0 hX).2.1
      have p1 := (al3_1 hX).2.1
      have p2 := (al3_2 hX).2.1
      have P0 := Lib.hid p0
      have P1 := Lib.hid p1
      have P2 := Lib.hid p2
      have zw : w.heap.size ≤ X.heap.size := by omega
      have n0 : w.heap.size < X.heap.size := by omega
      have n1 : w.heap.size + 1 < X.heap.size := by omega
      have n2 : w.heap.size + 1 + 1 < X.heap.size := by omega
      clear hX p0 p1 p2
      refine (hrd.out X BX).mono ?_
      rintro e w1 ⟨rfl, hb1⟩
      have b1 := hb1
      clear hb1
      have c1_0 := fun j => (b1.cell (p := ⟨w.heap.size, j, none⟩) n0).trans (P0.out j)
      have c1_1 := fun j => (b1.cell (p := ⟨w.heap.size + 1, j, none⟩) n1).trans (P1.out j)
      have c1_2 := fun j => (b1.cell (p := ⟨w.heap.size + 1 + 1, j, none⟩) n2).trans (P2.out j)
      have z1 := b1.size
      go_wp2_with fail
      refine (hak.out _).mono ?_
      rintro e w2 ⟨rfl, hb2⟩
      have b2 : Below X.heap.size X w2 := b1.trans (hb2.mono z1)
      clear hb2 c1_0 c1_1 c1_2 b1
      have c2_0 := fun j => (b2.cell (p := ⟨w.heap.size, j, none⟩) n0).trans (P0.out j)
      have c2_1 := fun j => (b2.cell (p := ⟨w.heap.size + 1, j, none⟩) n1).trans (P1.out j)
      have c2_2 := fun j => (b2.cell (p := ⟨w.heap.size + 1 + 1, j, none⟩) n2).trans (P2.out j)
      have z2 := b2.size
      go_wp2_with (go_at_call 21; first | (with_reducible refine (hp0.out _).mono ?_; rintro e w' ⟨rfl, rfl⟩) | (with_reducible refine (hp1.out _).mono ?_; rintro e w' ⟨rfl, rfl⟩))
      refine (hwk.out _).mono ?_
      rintro e w9 ⟨rfl, hb9⟩
      go_wp2
      go_ret
      exact ⟨rfl, BX.trans (Below.mono (b2.trans (hb9.mono z2)) zw)⟩
  obtain rfl : v0 = true := by cases v0 <;> simp_all
  obtain rfl : v1 = true := by cases v1 <;> simp_all
  have e3 : decide (y2 < 1) = false := by simp at hbad ⊢; omega
  have e4 : decide (30 < y2) = false := by simp at hbad ⊢; omega
  have hk : 1 ≤ y2 ∧ y2 ≤ 30 := by simp at hbad; omega
  obtain ⟨hn8, hck⟩ := rdyC_len er
  obtain ⟨ha0, ha1, -⟩ := askC_iff.1 ea
  have hy0 := wi_true.1 hv0
  have hy1 := wi_true.1 hv1
  have hfw : ∀ Z, Below w.heap.size w Z → Calls Try.prog 17 #[.agg #[.slice A n c, .int .i64 q.need, .int .i64 q.gap, .int .i64 q.doubt, .int .i64 q.joins, .int .i64 q.least]] Z fun e Z' => e = .returned (.tuple #[.int .i64 ((plC n ls q).length : Nat), .int .i64 (erS n ls q)]) ∧ Below Z.heap.size Z Z' := fun Z hZ =>
    fewest_c A n c q ls Z (by omega) hq (HL.later hZ)
  have hch : ∀ (a b : Int), 0 ≤ a ∧ a ≤ 999 → 0 ≤ b ∧ b ≤ 999 → ∀ Z, Below w.heap.size w Z → Calls Try.prog 18 #[.agg #[.slice A n c, .int .i64 q.need, .int .i64 q.gap, .int .i64 q.doubt, .int .i64 q.joins, .int .i64 q.least], .int .i64 a, .int .i64 b] Z
      fun e Z' => e = .returned (.tuple #[.int .i64 (bif erS n ls q == 0 then (chV q ls n a b, (0 : Int)) else (0, 3)).1, .int .i64 (bif erS n ls q == 0 then (chV q ls n a b, (0 : Int)) else (0, 3)).2]) ∧ Below Z.heap.size Z Z' := fun a b h1 h2 Z hZ => by
    have := cheapest_c A n c q a b ls Z (by omega) hq (HL.later hZ)
    rwa [ch_err hck h1 h2] at this
  have hkn := fun z Z => isKnown_c z Z
  have h10 := hch 1 0 (by omega) (by omega)
  have hxx := hch x0 x1 ha0 ha1
  rcases er_cases hck with ⟨ez, hne⟩ | ⟨ez, hne⟩
  · have hxy : x0 + y0 ≤ 999 ∧ x1 + y1 ≤ 999 → ∀ Z, Below w.heap.size w Z → Calls Try.prog 18 #[.agg #[.slice A n c, .int .i64 q.need, .int .i64 q.gap, .int .i64 q.doubt, .int .i64 q.joins, .int .i64 q.least], .int .i64 (x0 + y0), .int .i64 (x1 + y1)] Z
        fun e Z' => e = .returned (.tuple #[.int .i64 (chV q ls n (x0 + y0) (x1 + y1)), .int .i64 0]) ∧ Below Z.heap.size Z Z' := fun h => by
      have := hch (x0 + y0) (x1 + y1) (by omega) (by omega)
      rw [ez] at this
      exact this
    have hkx : y2 * x0 ≤ 999 ∧ y2 * x1 ≤ 999 → ∀ Z, Below w.heap.size w Z → Calls Try.prog 18 #[.agg #[.slice A n c, .int .i64 q.need, .int .i64 q.gap, .int .i64 q.doubt, .int .i64 q.joins, .int .i64 q.least], .int .i64 (y2 * x0), .int .i64 (y2 * x1)] Z
        fun e Z' => e = .returned (.tuple #[.int .i64 (y2 * chV q ls n x0 x1), .int .i64 0]) ∧ Below Z.heap.size Z Z' := fun h => by
      have := hch (y2 * x0) (y2 * x1) ⟨Int.mul_nonneg (by omega) ha0.1, h.1⟩ ⟨Int.mul_nonneg (by omega) ha1.1, h.2⟩
      rw [ez, ch_scale (by omega) ha0.1 ha1.1 hne] at this
      exact this
    have hmo : chV q ls n x0 x1 ≤ chV q ls n (x0 + y0) (x1 + y1) := ch_more ha0.1 ha1.1 (by omega) (by omega) hne
    have hbd := ch_bd ha0 ha1 (by omega) hne
    rw [ez, ← ch_one hck hne] at hfw
    rw [ez] at h10 hxx
    simp only [show ((0 : Int) == 0) = true from rfl, cond_true] at h10 hxx
    have hk0 := hkn 0
    rw [show isKn 0 = true by decide] at hk0
    have q0 : 0 ≤ y2 * x0 ∧ y2 * x0 ≤ 30 * 999 := ⟨Int.mul_nonneg (by omega) ha0.1, Int.mul_le_mul hk.2 ha0.2 ha0.1 (by omega)⟩
    have q1 : 0 ≤ y2 * x1 ∧ y2 * x1 ≤ 30 * 999 := ⟨Int.mul_nonneg (by omega) ha1.1, Int.mul_le_mul hk.2 ha1.2 ha1.1 (by omega)⟩
    have q2 : 0 ≤ y2 * chV q ls n x0 x1 ∧ y2 * chV q ls n x0 x1 ≤ 30 * 100000 := ⟨Int.mul_nonneg (by omega) hbd.1, Int.mul_le_mul hk.2 hbd.2 hbd.1 (by omega)⟩
    obtain ⟨L, hL⟩ : ∃ L, chV q ls n 1 0 = L := ⟨_, rfl⟩
    obtain ⟨V, hV⟩ : ∃ V, chV q ls n x0 x1 = V := ⟨_, rfl⟩
    obtain ⟨M, hM⟩ : ∃ M, chV q ls n (x0 + y0) (x1 + y1) = M := ⟨_, rfl⟩
    rw [hL] at hfw h10
    rw [hV] at hxx hkx hmo hbd q2
    rw [hM] at hxy hmo
    obtain ⟨k0, hk0e⟩ : ∃ k, y2 * x0 = k := ⟨_, rfl⟩
    obtain ⟨k1, hk1e⟩ : ∃ k, y2 * x1 = k := ⟨_, rfl⟩
    obtain ⟨k2, hk2e⟩ : ∃ k, y2 * V = k := ⟨_, rfl⟩
    rw [hk0e] at hkx q0
    rw [hk1e] at hkx q1
    rw [hk2e] at hkx q2
    have hw0 : IntKind.i64.wrap (y2 * x0) = k0 := by rw [hk0e, IntKind.wrap_i64]; omega
    have hw1 : IntKind.i64.wrap (y2 * x1) = k1 := by rw [hk1e, IntKind.wrap_i64]; omega
    have hw2 : IntKind.i64.wrap (y2 * V) = k2 := by rw [hk2e, IntKind.wrap_i64]; omega
    have hs0 : IntKind.i64.wrap (x0 + y0) = x0 + y0 := by rw [IntKind.wrap_i64]; omega
    have hs1 : IntKind.i64.wrap (x1 + y1) = x1 + y1 := by rw [IntKind.wrap_i64]; omega
    have f1 : decide (V < 0) = false := by simp; omega
    have f2 : decide (100000 < V) = false := by simp; omega
    have f3 : decide (M < V) = false := by simp; omega
    replace hfw := Lib.hid hfw
    replace h10 := Lib.hid h10
    replace hxx := Lib.hid hxx
    replace hk0 := Lib.hid hk0
    clear hk0e hk1e hk2e hL hV hM hmo hbd q0 q1 q2 er ea HL hq hn hv0 hv1 hbad hch hkn hy0 hy1 ha0 ha1 hck ez hne hk
    rcases (by omega : (x0 + y0 ≤ 999 ∧ x1 + y1 ≤ 999) ∨ ¬ x0 + y0 ≤ 999 ∨ (x0 + y0 ≤ 999 ∧ ¬ x1 + y1 ≤ 999)) with g1 | g1 | ⟨g1, g2⟩
    · have hkm := Lib.hid (hxy g1)
      obtain ⟨g1a, g1b⟩ := g1
      clear hxy
      rcases (by omega : (k0 ≤ 999 ∧ k1 ≤ 999) ∨ 999 < k0 ∨ (k0 ≤ 999 ∧ 999 < k1)) with g3 | g3 | ⟨g3, g4⟩
      · have hkk := Lib.hid (hkx g3)
        obtain ⟨g3a, g3b⟩ := g3
        clear hkx
        skip
        go_enter Try.func4, Try.ntmps4
        go_wp2_with fail
        obtain ⟨X, hX⟩ : ∃ X, ((w.alloc (.cells #[.slice A n c, .int .i64 q.need, .int .i64 q.gap, .int .i64 q.doubt, .int .i64 q.joins, .int .i64 q.least] 24)).alloc (.cells #[.int .i64 x0, .int .i64 x1, .int .i64 x2] 28)).alloc (.cells #[.int .i64 y0, .int .i64 y1, .int .i64 y2] 28) = X := ⟨_, rfl⟩
        rw [hX]
        have BX : Below w.heap.size w X := (al3 hX).1
        have zX : X.heap.size = w.heap.size + 3 := (al3 hX).2
        have p0 := (al3_0 hX).2.1
        have p1 := (al3_1 hX).2.1
        have p2 := (al3_2 hX).2.1
        have P0 := Lib.hid p0
        have P1 := Lib.hid p1
        have P2 := Lib.hid p2
        have zw : w.heap.size ≤ X.heap.size := by omega
        have n0 : w.heap.size < X.heap.size := by omega
        have n1 : w.heap.size + 1 < X.heap.size := by omega
        have n2 : w.heap.size + 1 + 1 < X.heap.size := by omega
        clear hX p0 p1 p2
        refine (hrd.out X BX).mono ?_
        rintro e w1 ⟨rfl, hb1⟩
        have b1 := hb1
        clear hb1
        have c1_0 := fun j => (b1.cell (p := ⟨w.heap.size, j, none⟩) n0).trans (P0.out j)
        have c1_1 := fun j => (b1.cell (p := ⟨w.heap.size + 1, j, none⟩) n1).trans (P1.out j)
        have c1_2 := fun j => (b1.cell (p := ⟨w.heap.size + 1 + 1, j, none⟩) n2).trans (P2.out j)
        have z1 := b1.size
        go_wp2_with fail
        refine (hak.out _).mono ?_
        rintro e w2 ⟨rfl, hb2⟩
        have b2 : Below X.heap.size X w2 := b1.trans (hb2.mono z1)
        clear hb2 c1_0 c1_1 c1_2 b1
        have c2_0 := fun j => (b2.cell (p := ⟨w.heap.size, j, none⟩) n0).trans (P0.out j)
        have c2_1 := fun j => (b2.cell (p := ⟨w.heap.size + 1, j, none⟩) n1).trans (P1.out j)
        have c2_2 := fun j => (b2.cell (p := ⟨w.heap.size + 1 + 1, j, none⟩) n2).trans (P2.out j)
        have z2 := b2.size
        go_wp2_with (go_at_call 21; first | (with_reducible refine (hp0.out _).mono ?_; rintro e w' ⟨rfl, rfl⟩) | (with_reducible refine (hp1.out _).mono ?_; rintro e w' ⟨rfl, rfl⟩))
        refine (hfw.out _ (BX.trans (b2.mono zw))).mono ?_
        rintro e w3 ⟨rfl, hb3⟩
        have b3 : Below X.heap.size X w3 := b2.trans (hb3.mono z2)
        clear hb3 c2_0 c2_1 c2_2 b2
        have c3_0 := fun j => (b3.cell (p := ⟨w.heap.size, j, none⟩) n0).trans (P0.out j)
        have c3_1 := fun j => (b3.cell (p := ⟨w.heap.size + 1, j, none⟩) n1).trans (P1.out j)
        have c3_2 := fun j => (b3.cell (p := ⟨w.heap.size + 1 + 1, j, none⟩) n2).trans (P2.out j)
        have z3 := b3.size
        go_wp2_with fail
        refine (h10.out _ (BX.trans (b3.mono zw))).mono ?_
        rintro e w4 ⟨rfl, hb4⟩
        have b4 : Below X.heap.size X w4 := b3.trans (hb4.mono z3)
        clear hb4 c3_0 c3_1 c3_2 b3
        have c4_0 := fun j => (b4.cell (p := ⟨w.heap.size, j, none⟩) n0).trans (P0.out j)
        have c4_1 := fun j => (b4.cell (p := ⟨w.heap.size + 1, j, none⟩) n1).trans (P1.out j)
        have c4_2 := fun j => (b4.cell (p := ⟨w.heap.size + 1 + 1, j, none⟩) n2).trans (P2.out j)
        have z4 := b4.size
        go_wp2_with fail
        refine (hxx.out _ (BX.trans (b4.mono zw))).mono ?_
        rintro e w5 ⟨rfl, hb5⟩
        have b5 : Below X.heap.size X w5 := b4.trans (hb5.mono z4)
        clear hb5 c4_0 c4_1 c4_2 b4
        have c5_0 := fun j => (b5.cell (p := ⟨w.heap.size, j, none⟩) n0).trans (P0.out j)
        have c5_1 := fun j => (b5.cell (p := ⟨w.heap.size + 1, j, none⟩) n1).trans (P1.out j)
        have c5_2 := fun j => (b5.cell (p := ⟨w.heap.size + 1 + 1, j, none⟩) n2).trans (P2.out j)
        have z5 := b5.size
        go_wp2_with (go_at_call 20; refine (hk0.out _).mono ?_; rintro e w' ⟨rfl, rfl⟩)
        refine (hkm.out _ (BX.trans (b5.mono zw))).mono ?_
        rintro e w6 ⟨rfl, hb6⟩
        have b6 : Below X.heap.size X w6 := b5.trans (hb6.mono z5)
        clear hb6 c5_0 c5_1 c5_2 b5
        have c6_0 := fun j => (b6.cell (p := ⟨w.heap.size, j, none⟩) n0).trans (P0.out j)
        have c6_1 := fun j => (b6.cell (p := ⟨w.heap.size + 1, j, none⟩) n1).trans (P1.out j)
        have c6_2 := fun j => (b6.cell (p := ⟨w.heap.size + 1 + 1, j, none⟩) n2).trans (P2.out j)
        have z6 := b6.size
        go_wp2_with fail
        refine (hkk.out _ (BX.trans (b6.mono zw))).mono ?_
        rintro e w7 ⟨rfl, hb7⟩
        have b7 : Below X.heap.size X w7 := b6.trans (hb7.mono z6)
        clear hb7 c6_0 c6_1 c6_2 b6
        have c7_0 := fun j => (b7.cell (p := ⟨w.heap.size, j, none⟩) n0).trans (P0.out j)
        have c7_1 := fun j => (b7.cell (p := ⟨w.heap.size + 1, j, none⟩) n1).trans (P1.out j)
        have c7_2 := fun j => (b7.cell (p := ⟨w.heap.size + 1 + 1, j, none⟩) n2).trans (P2.out j)
        have z7 := b7.size
        go_wp2_with fail
        refine (hwk.out _).mono ?_
        rintro e w9 ⟨rfl, hb9⟩
        go_wp2
        go_ret
        exact ⟨rfl, BX.trans (Below.mono (b7.trans (hb9.mono z7)) zw)⟩
      all_goals
        clear hkx
        skip
        go_enter Try.func4, Try.ntmps4
        go_wp2_with fail
        obtain ⟨X, hX⟩ : ∃ X, ((w.alloc (.cells #[.slice A n c, .int .i64 q.need, .int .i64 q.gap, .int .i64 q.doubt, .int .i64 q.joins, .int .i64 q.least] 24)).alloc (.cells #[.int .i64 x0, .int .i64 x1, .int .i64 x2] 28)).alloc (.cells #[.int .i64 y0, .int .i64 y1, .int .i64 y2] 28) = X := ⟨_, rfl⟩
        rw [hX]
        have BX : Below w.heap.size w X := (al3 hX).1
        have zX : X.heap.size = w.heap.size + 3 := (al3 hX).2
        have p0 := (al3_0 hX).2.1
        have p1 := (al3_1 hX).2.1
        have p2 := (al3_2 hX).2.1
        have P0 := Lib.hid p0
        have P1 := Lib.hid p1
        have P2 := Lib.hid p2
        have zw : w.heap.size ≤ X.heap.size := by omega
        have n0 : w.heap.size < X.heap.size := by omega
        have n1 : w.heap.size + 1 < X.heap.size := by omega
        have n2 : w.heap.size + 1 + 1 < X.heap.size := by omega
        clear hX p0 p1 p2
        refine (hrd.out X BX).mono ?_
        rintro e w1 ⟨rfl, hb1⟩
        have b1 := hb1
        clear hb1
        have c1_0 := fun j => (b1.cell (p := ⟨w.heap.size, j, none⟩) n0).trans (P0.out j)
        have c1_1 := fun j => (b1.cell (p := ⟨w.heap.size + 1, j, none⟩) n1).trans (P1.out j)
        have c1_2 := fun j => (b1.cell (p := ⟨w.heap.size + 1 + 1, j, none⟩) n2).trans (P2.out j)
        have z1 := b1.size
        go_wp2_with fail
        refine (hak.out _).mono ?_
        rintro e w2 ⟨rfl, hb2⟩
        have b2 : Below X.heap.size X w2 := b1.trans (hb2.mono z1)
        clear hb2 c1_0 c1_1 c1_2 b1
        have c2_0 := fun j => (b2.cell (p := ⟨w.heap.size, j, none⟩) n0).trans (P0.out j)
        have c2_1 := fun j => (b2.cell (p := ⟨w.heap.size + 1, j, none⟩) n1).trans (P1.out j)
        have c2_2 := fun j => (b2.cell (p := ⟨w.heap.size + 1 + 1, j, none⟩) n2).trans (P2.out j)
        have z2 := b2.size
        go_wp2_with (go_at_call 21; first | (with_reducible refine (hp0.out _).mono ?_; rintro e w' ⟨rfl, rfl⟩) | (with_reducible refine (hp1.out _).mono ?_; rintro e w' ⟨rfl, rfl⟩))
        refine (hfw.out _ (BX.trans (b2.mono zw))).mono ?_
        rintro e w3 ⟨rfl, hb3⟩
        have b3 : Below X.heap.size X w3 := b2.trans (hb3.mono z2)
        clear hb3 c2_0 c2_1 c2_2 b2
        have c3_0 := fun j => (b3.cell (p := ⟨w.heap.size, j, none⟩) n0).trans (P0.out j)
        have c3_1 := fun j => (b3.cell (p := ⟨w.heap.size + 1, j, none⟩) n1).trans (P1.out j)
        have c3_2 := fun j => (b3.cell (p := ⟨w.heap.size + 1 + 1, j, none⟩) n2).trans (P2.out j)
        have z3 := b3.size
        go_wp2_with fail
        refine (h10.out _ (BX.trans (b3.mono zw))).mono ?_
        rintro e w4 ⟨rfl, hb4⟩
        have b4 : Below X.heap.size X w4 := b3.trans (hb4.mono z3)
        clear hb4 c3_0 c3_1 c3_2 b3
        have c4_0 := fun j => (b4.cell (p := ⟨w.heap.size, j, none⟩) n0).trans (P0.out j)
        have c4_1 := fun j => (b4.cell (p := ⟨w.heap.size + 1, j, none⟩) n1).trans (P1.out j)
        have c4_2 := fun j => (b4.cell (p := ⟨w.heap.size + 1 + 1, j, none⟩) n2).trans (P2.out j)
        have z4 := b4.size
        go_wp2_with fail
        refine (hxx.out _ (BX.trans (b4.mono zw))).mono ?_
        rintro e w5 ⟨rfl, hb5⟩
        have b5 : Below X.heap.size X w5 := b4.trans (hb5.mono z4)
        clear hb5 c4_0 c4_1 c4_2 b4
        have c5_0 := fun j => (b5.cell (p := ⟨w.heap.size, j, none⟩) n0).trans (P0.out j)
        have c5_1 := fun j => (b5.cell (p := ⟨w.heap.size + 1, j, none⟩) n1).trans (P1.out j)
        have c5_2 := fun j => (b5.cell (p := ⟨w.heap.size + 1 + 1, j, none⟩) n2).trans (P2.out j)
        have z5 := b5.size
        go_wp2_with (go_at_call 20; refine (hk0.out _).mono ?_; rintro e w' ⟨rfl, rfl⟩)
        refine (hkm.out _ (BX.trans (b5.mono zw))).mono ?_
        rintro e w6 ⟨rfl, hb6⟩
        have b6 : Below X.heap.size X w6 := b5.trans (hb6.mono z5)
        clear hb6 c5_0 c5_1 c5_2 b5
        have c6_0 := fun j => (b6.cell (p := ⟨w.heap.size, j, none⟩) n0).trans (P0.out j)
        have c6_1 := fun j => (b6.cell (p := ⟨w.heap.size + 1, j, none⟩) n1).trans (P1.out j)
        have c6_2 := fun j => (b6.cell (p := ⟨w.heap.size + 1 + 1, j, none⟩) n2).trans (P2.out j)
        have z6 := b6.size
        go_wp2_with fail
        refine (hwk.out _).mono ?_
        rintro e w9 ⟨rfl, hb9⟩
        go_wp2
        go_ret
        exact ⟨rfl, BX.trans (Below.mono (b6.trans (hb9.mono z6)) zw)⟩
    all_goals
      clear hxy
      rcases (by omega : (k0 ≤ 999 ∧ k1 ≤ 999) ∨ 999 < k0 ∨ (k0 ≤ 999 ∧ 999 < k1)) with g3 | g3 | ⟨g3, g4⟩
      · have hkk := Lib.hid (hkx g3)
        obtain ⟨g3a, g3b⟩ := g3
        clear hkx
        skip
        go_enter Try.func4, Try.ntmps4
        go_wp2_with fail
        obtain ⟨X, hX⟩ : ∃ X, ((w.alloc (.cells #[.slice A n c, .int .i64 q.need, .int .i64 q.gap, .int .i64 q.doubt, .int .i64 q.joins, .int .i64 q.least] 24)).alloc (.cells #[.int .i64 x0, .int .i64 x1, .int .i64 x2] 28)).alloc (.cells #[.int .i64 y0, .int .i64 y1, .int .i64 y2] 28) = X := ⟨_, rfl⟩
        rw [hX]
        have BX : Below w.heap.size w X := (al3 hX).1
        have zX : X.heap.size = w.heap.size + 3 := (al3 hX).2
        have p0 := (al3_0 hX).2.1
        have p1 := (al3_1 hX).2.1
        have p2 := (al3_2 hX).2.1
        have P0 := Lib.hid p0
        have P1 := Lib.hid p1
        have P2 := Lib.hid p2
        have zw : w.heap.size ≤ X.heap.size := by omega
        have n0 : w.heap.size < X.heap.size := by omega
        have n1 : w.heap.size + 1 < X.heap.size := by omega
        have n2 : w.heap.size + 1 + 1 < X.heap.size := by omega
        clear hX p0 p1 p2
        refine (hrd.out X BX).mono ?_
        rintro e w1 ⟨rfl, hb1⟩
        have b1 := hb1
        clear hb1
        have c1_0 := fun j => (b1.cell (p := ⟨w.heap.size, j, none⟩) n0).trans (P0.out j)
        have c1_1 := fun j => (b1.cell (p := ⟨w.heap.size + 1, j, none⟩) n1).trans (P1.out j)
        have c1_2 := fun j => (b1.cell (p := ⟨w.heap.size + 1 + 1, j, none⟩) n2).trans (P2.out j)
        have z1 := b1.size
        go_wp2_with fail
        refine (hak.out _).mono ?_
        rintro e w2 ⟨rfl, hb2⟩
        have b2 : Below X.heap.size X w2 := b1.trans (hb2.mono z1)
        clear hb2 c1_0 c1_1 c1_2 b1
        have c2_0 := fun j => (b2.cell (p := ⟨w.heap.size, j, none⟩) n0).trans (P0.out j)
        have c2_1 := fun j => (b2.cell (p := ⟨w.heap.size + 1, j, none⟩) n1).trans (P1.out j)
        have c2_2 := fun j => (b2.cell (p := ⟨w.heap.size + 1 + 1, j, none⟩) n2).trans (P2.out j)
        have z2 := b2.size
        go_wp2_with (go_at_call 21; first | (with_reducible refine (hp0.out _).mono ?_; rintro e w' ⟨rfl, rfl⟩) | (with_reducible refine (hp1.out _).mono ?_; rintro e w' ⟨rfl, rfl⟩))
        refine (hfw.out _ (BX.trans (b2.mono zw))).mono ?_
        rintro e w3 ⟨rfl, hb3⟩
        have b3 : Below X.heap.size X w3 := b2.trans (hb3.mono z2)
        clear hb3 c2_0 c2_1 c2_2 b2
        have c3_0 := fun j => (b3.cell (p := ⟨w.heap.size, j, none⟩) n0).trans (P0.out j)
        have c3_1 := fun j => (b3.cell (p := ⟨w.heap.size + 1, j, none⟩) n1).trans (P1.out j)
        have c3_2 := fun j => (b3.cell (p := ⟨w.heap.size + 1 + 1, j, none⟩) n2).trans (P2.out j)
        have z3 := b3.size
        go_wp2_with fail
        refine (h10.out _ (BX.trans (b3.mono zw))).mono ?_
        rintro e w4 ⟨rfl, hb4⟩
        have b4 : Below X.heap.size X w4 := b3.trans (hb4.mono z3)
        clear hb4 c3_0 c3_1 c3_2 b3
        have c4_0 := fun j => (b4.cell (p := ⟨w.heap.size, j, none⟩) n0).trans (P0.out j)
        have c4_1 := fun j => (b4.cell (p := ⟨w.heap.size + 1, j, none⟩) n1).trans (P1.out j)
        have c4_2 := fun j => (b4.cell (p := ⟨w.heap.size + 1 + 1, j, none⟩) n2).trans (P2.out j)
        have z4 := b4.size
        go_wp2_with fail
        refine (hxx.out _ (BX.trans (b4.mono zw))).mono ?_
        rintro e w5 ⟨rfl, hb5⟩
        have b5 : Below X.heap.size X w5 := b4.trans (hb5.mono z4)
        clear hb5 c4_0 c4_1 c4_2 b4
        have c5_0 := fun j => (b5.cell (p := ⟨w.heap.size, j, none⟩) n0).trans (P0.out j)
        have c5_1 := fun j => (b5.cell (p := ⟨w.heap.size + 1, j, none⟩) n1).trans (P1.out j)
        have c5_2 := fun j => (b5.cell (p := ⟨w.heap.size + 1 + 1, j, none⟩) n2).trans (P2.out j)
        have z5 := b5.size
        go_wp2_with (go_at_call 20; refine (hk0.out _).mono ?_; rintro e w' ⟨rfl, rfl⟩)
        refine (hkk.out _ (BX.trans (b5.mono zw))).mono ?_
        rintro e w6 ⟨rfl, hb6⟩
        have b6 : Below X.heap.size X w6 := b5.trans (hb6.mono z5)
        clear hb6 c5_0 c5_1 c5_2 b5
        have c6_0 := fun j => (b6.cell (p := ⟨w.heap.size, j, none⟩) n0).trans (P0.out j)
        have c6_1 := fun j => (b6.cell (p := ⟨w.heap.size + 1, j, none⟩) n1).trans (P1.out j)
        have c6_2 := fun j => (b6.cell (p := ⟨w.heap.size + 1 + 1, j, none⟩) n2).trans (P2.out j)
        have z6 := b6.size
        go_wp2_with fail
        refine (hwk.out _).mono ?_
        rintro e w9 ⟨rfl, hb9⟩
        go_wp2
        go_ret
        exact ⟨rfl, BX.trans (Below.mono (b6.trans (hb9.mono z6)) zw)⟩
      all_goals
        clear hkx
        skip
        go_enter Try.func4, Try.ntmps4
        go_wp2_with fail
        obtain ⟨X, hX⟩ : ∃ X, ((w.alloc (.cells #[.slice A n c, .int .i64 q.need, .int .i64 q.gap, .int .i64 q.doubt, .int .i64 q.joins, .int .i64 q.least] 24)).alloc (.cells #[.int .i64 x0, .int .i64 x1, .int .i64 x2] 28)).alloc (.cells #[.int .i64 y0, .int .i64 y1, .int .i64 y2] 28) = X := ⟨_, rfl⟩
        rw [hX]
        have BX : Below w.heap.size w X := (al3 hX).1
        have zX : X.heap.size = w.heap.size + 3 := (al3 hX).2
        have p0 := (al3_0 hX).2.1
        have p1 := (al3_1 hX).2.1
        have p2 := (al3_2 hX).2.1
        have P0 := Lib.hid p0
        have P1 := Lib.hid p1
        have P2 := Lib.hid p2
        have zw : w.heap.size ≤ X.heap.size := by omega
        have n0 : w.heap.size < X.heap.size := by omega
        have n1 : w.heap.size + 1 < X.heap.size := by omega
        have n2 : w.heap.size + 1 + 1 < X.heap.size := by omega
        clear hX p0 p1 p2
        refine (hrd.out X BX).mono ?_
        rintro e w1 ⟨rfl, hb1⟩
        have b1 := hb1
        clear hb1
        have c1_0 := fun j => (b1.cell (p := ⟨w.heap.size, j, none⟩) n0).trans (P0.out j)
        have c1_1 := fun j => (b1.cell (p := ⟨w.heap.size + 1, j, none⟩) n1).trans (P1.out j)
        have c1_2 := fun j => (b1.cell (p := ⟨w.heap.size + 1 + 1, j, none⟩) n2).trans (P2.out j)
        have z1 := b1.size
        go_wp2_with fail
        refine (hak.out _).mono ?_
        rintro e w2 ⟨rfl, hb2⟩
        have b2 : Below X.heap.size X w2 := b1.trans (hb2.mono z1)
        clear hb2 c1_0 c1_1 c1_2 b1
        have c2_0 := fun j => (b2.cell (p := ⟨w.heap.size, j, none⟩) n0).trans (P0.out j)
        have c2_1 := fun j => (b2.cell (p := ⟨w.heap.size + 1, j, none⟩) n1).trans (P1.out j)
        have c2_2 := fun j => (b2.cell (p := ⟨w.heap.size + 1 + 1, j, none⟩) n2).trans (P2.out j)
        have z2 := b2.size
        go_wp2_with (go_at_call 21; first | (with_reducible refine (hp0.out _).mono ?_; rintro e w' ⟨rfl, rfl⟩) | (with_reducible refine (hp1.out _).mono ?_; rintro e w' ⟨rfl, rfl⟩))
        refine (hfw.out _ (BX.trans (b2.mono zw))).mono ?_
        rintro e w3 ⟨rfl, hb3⟩
        have b3 : Below X.heap.size X w3 := b2.trans (hb3.mono z2)
        clear hb3 c2_0 c2_1 c2_2 b2
        have c3_0 := fun j => (b3.cell (p := ⟨w.heap.size, j, none⟩) n0).trans (P0.out j)
        have c3_1 := fun j => (b3.cell (p := ⟨w.heap.size + 1, j, none⟩) n1).trans (P1.out j)
        have c3_2 := fun j => (b3.cell (p := ⟨w.heap.size + 1 + 1, j, none⟩) n2).trans (P2.out j)
        have z3 := b3.size
        go_wp2_with fail
        refine (h10.out _ (BX.trans (b3.mono zw))).mono ?_
        rintro e w4 ⟨rfl, hb4⟩
        have b4 : Below X.heap.size X w4 := b3.trans (hb4.mono z3)
        clear hb4 c3_0 c3_1 c3_2 b3
        have c4_0 := fun j => (b4.cell (p := ⟨w.heap.size, j, none⟩) n0).trans (P0.out j)
        have c4_1 := fun j => (b4.cell (p := ⟨w.heap.size + 1, j, none⟩) n1).trans (P1.out j)
        have c4_2 := fun j => (b4.cell (p := ⟨w.heap.size + 1 + 1, j, none⟩) n2).trans (P2.out j)
        have z4 := b4.size
        go_wp2_with fail
        refine (hxx.out _ (BX.trans (b4.mono zw))).mono ?_
        rintro e w5 ⟨rfl, hb5⟩
        have b5 : Below X.heap.size X w5 := b4.trans (hb5.mono z4)
        clear hb5 c4_0 c4_1 c4_2 b4
        have c5_0 := fun j => (b5.cell (p := ⟨w.heap.size, j, none⟩) n0).trans (P0.out j)
        have c5_1 := fun j => (b5.cell (p := ⟨w.heap.size + 1, j, none⟩) n1).trans (P1.out j)
        have c5_2 := fun j => (b5.cell (p := ⟨w.heap.size + 1 + 1, j, none⟩) n2).trans (P2.out j)
        have z5 := b5.size
        go_wp2_with (go_at_call 20; refine (hk0.out _).mono ?_; rintro e w' ⟨rfl, rfl⟩)
        refine (hwk.out _).mono ?_
        rintro e w9 ⟨rfl, hb9⟩
        go_wp2
        go_ret
        exact ⟨rfl, BX.trans (Below.mono (b5.trans (hb9.mono z5)) zw)⟩
  · rw [ez] at hfw h10 hxx
    have hk3 := hkn 3
    have i3 : isKn 3 = true := by decide
    rw [i3] at hk3
    obtain ⟨L, hL⟩ : ∃ L, (plC n ls q).length = L := ⟨_, rfl⟩
    rw [hL] at hfw
    simp only [show ((3 : Int) == 0) = false from rfl, cond_false] at h10 hxx
    replace hfw := Lib.hid hfw
    replace h10 := Lib.hid h10
    replace hxx := Lib.hid hxx
    replace hk3 := Lib.hid hk3
    clear er ea HL hq hn hv0 hv1 hbad hch hkn hy0 hy1 ha0 ha1 hck ez hne i3 hL hk
    go_enter Try.func4, Try.ntmps4
    go_wp2_with fail
    obtain ⟨X, hX⟩ : ∃ X, ((w.alloc (.cells #[.slice A n c, .int .i64 q.need, .int .i64 q.gap, .int .i64 q.doubt, .int .i64 q.joins, .int .i64 q.least] 24)).alloc (.cells #[.int .i64 x0, .int .i64 x1, .int .i64 x2] 28)).alloc (.cells #[.int .i64 y0, .int .i64 y1, .int .i64 y2] 28) = X := ⟨_, rfl⟩
    rw [hX]
    have BX : Below w.heap.size w X := (al3 hX).1
    have zX : X.heap.size = w.heap.size + 3 := (al3 hX).2
    have p0 := (al3_0 hX).2.1
    have p1 := (al3_1 hX).2.1
    have p2 := (al3_2 hX).2.1
    have P0 := Lib.hid p0
    have P1 := Lib.hid p1
    have P2 := Lib.hid p2
    have zw : w.heap.size ≤ X.heap.size := by omega
    have n0 : w.heap.size < X.heap.size := by omega
    have n1 : w.heap.size + 1 < X.heap.size := by omega
    have n2 : w.heap.size + 1 + 1 < X.heap.size := by omega
    clear hX p0 p1 p2
    refine (hrd.out X BX).mono ?_
    rintro e w1 ⟨rfl, hb1⟩
    have b1 := hb1
    clear hb1
    have c1_0 := fun j => (b1.cell (p := ⟨w.heap.size, j, none⟩) n0).trans (P0.out j)
    have c1_1 := fun j => (b1.cell (p := ⟨w.heap.size + 1, j, none⟩) n1).trans (P1.out j)
    have c1_2 := fun j => (b1.cell (p := ⟨w.heap.size + 1 + 1, j, none⟩) n2).trans (P2.out j)
    have z1 := b1.size
    go_wp2_with fail
    refine (hak.out _).mono ?_
    rintro e w2 ⟨rfl, hb2⟩
    have b2 : Below X.heap.size X w2 := b1.trans (hb2.mono z1)
    clear hb2 c1_0 c1_1 c1_2 b1
    have c2_0 := fun j => (b2.cell (p := ⟨w.heap.size, j, none⟩) n0).trans (P0.out j)
    have c2_1 := fun j => (b2.cell (p := ⟨w.heap.size + 1, j, none⟩) n1).trans (P1.out j)
    have c2_2 := fun j => (b2.cell (p := ⟨w.heap.size + 1 + 1, j, none⟩) n2).trans (P2.out j)
    have z2 := b2.size
    go_wp2_with (go_at_call 21; first | (with_reducible refine (hp0.out _).mono ?_; rintro e w' ⟨rfl, rfl⟩) | (with_reducible refine (hp1.out _).mono ?_; rintro e w' ⟨rfl, rfl⟩))
    refine (hfw.out _ (BX.trans (b2.mono zw))).mono ?_
    rintro e w3 ⟨rfl, hb3⟩
    have b3 : Below X.heap.size X w3 := b2.trans (hb3.mono z2)
    clear hb3 c2_0 c2_1 c2_2 b2
    have c3_0 := fun j => (b3.cell (p := ⟨w.heap.size, j, none⟩) n0).trans (P0.out j)
    have c3_1 := fun j => (b3.cell (p := ⟨w.heap.size + 1, j, none⟩) n1).trans (P1.out j)
    have c3_2 := fun j => (b3.cell (p := ⟨w.heap.size + 1 + 1, j, none⟩) n2).trans (P2.out j)
    have z3 := b3.size
    go_wp2_with fail
    refine (h10.out _ (BX.trans (b3.mono zw))).mono ?_
    rintro e w4 ⟨rfl, hb4⟩
    have b4 : Below X.heap.size X w4 := b3.trans (hb4.mono z3)
    clear hb4 c3_0 c3_1 c3_2 b3
    have c4_0 := fun j => (b4.cell (p := ⟨w.heap.size, j, none⟩) n0).trans (P0.out j)
    have c4_1 := fun j => (b4.cell (p := ⟨w.heap.size + 1, j, none⟩) n1).trans (P1.out j)
    have c4_2 := fun j => (b4.cell (p := ⟨w.heap.size + 1 + 1, j, none⟩) n2).trans (P2.out j)
    have z4 := b4.size
    go_wp2_with fail
    refine (hxx.out _ (BX.trans (b4.mono zw))).mono ?_
    rintro e w5 ⟨rfl, hb5⟩
    have b5 : Below X.heap.size X w5 := b4.trans (hb5.mono z4)
    clear hb5 c4_0 c4_1 c4_2 b4
    have c5_0 := fun j => (b5.cell (p := ⟨w.heap.size, j, none⟩) n0).trans (P0.out j)
    have c5_1 := fun j => (b5.cell (p := ⟨w.heap.size + 1, j, none⟩) n1).trans (P1.out j)
    have c5_2 := fun j => (b5.cell (p := ⟨w.heap.size + 1 + 1, j, none⟩) n2).trans (P2.out j)
    have z5 := b5.size
    go_wp2_with (go_at_call 20; refine (hk3.out _).mono ?_; rintro e w' ⟨rfl, rfl⟩)
    refine (hwk.out _).mono ?_
    rintro e w9 ⟨rfl, hb9⟩
    go_wp2
    go_ret
    exact ⟨rfl, BX.trans (Below.mono (b5.trans (hb9.mono z5)) zw)⟩

end Go.Proofs.Ythjjakhmbgnnnaa
