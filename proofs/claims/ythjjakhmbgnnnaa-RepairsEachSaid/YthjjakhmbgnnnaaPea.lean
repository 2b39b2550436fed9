/- RepairsEach (layer 7): the walk. -/
import Derived.Test.YthjjakhmbgnnnaaEl7
import Derived.Test.YthjjakhmbgnnnaaRg7
import Derived.Test.YthjjakhmbgnnnaaFa7
namespace Go.Proofs.Ythjjakhmbgnnnaa
open Go.RowKit
open Go.Sort (grow)
set_option linter.unusedVariables false

set_option maxRecDepth 100000 in
set_option maxHeartbeats 6400000 in
theorem EachLaw_c (A B : Option Addr) (n c m d : Nat) (q : Cb) (ls : List Sp) (l : List Int) (x0 x1 x2 : Int) (w : World) (hq : CbOk q) (HL : SpsAt w A n ls) (hn : n ≤ 9223372036854775807) (HX : IntsAt w B m l) (hm : m ≤ 9223372036854775807) :
    Calls Try.prog 10 #[.agg #[.slice A n c, .int .i64 q.need, .int .i64 q.gap, .int .i64 q.doubt, .int .i64 q.joins, .int .i64 q.least], .slice B m d, .agg #[.int .i64 x0, .int .i64 x1, .int .i64 x2]] w
      fun e w' => e = .returned (.bool true) ∧ Below w.heap.size w w' := by
  have hrd : ∀ Z, Below w.heap.size w Z → Calls Try.prog 12 #[.agg #[.slice A n c, .int .i64 q.need, .int .i64 q.gap, .int .i64 q.doubt, .int .i64 q.joins, .int .i64 q.least]] Z fun e Z' => e = .returned (.bool (rdyC n ls q)) ∧ Below Z.heap.size Z Z' := fun Z hZ => ready_c A n c q ls Z (HL.later hZ)
  have hwk := Lib.hid works_c
  cases er : rdyC n ls q
  · rw [er] at hrd
    replace hrd := Lib.hid hrd
    clear er HL hq HX
    go_enter Try.func10, Try.ntmps10
    go_wp2_with fail
    obtain ⟨X, hX⟩ : ∃ X, (w.alloc (.cells #[.slice A n c, .int .i64 q.need, .int .i64 q.gap, .int .i64 q.doubt, .int .i64 q.joins, .int .i64 q.least] 24)).alloc (.cells #[.int .i64 x0, .int .i64 x1, .int .i64 x2] 28) = X := ⟨_, rfl⟩
    rw [hX]
    have BX : Below w.heap.size w X := (al2 hX).1
    have zX : X.heap.size = w.heap.size + 2 := (al2 hX).2
    have P0 := Lib.hid (al2_0 hX).2.1
    have P1 := Lib.hid (al2_1 hX).2.1
    have zw : w.heap.size ≤ X.heap.size := by omega
    have n0 : w.heap.size < X.heap.size := by omega
    have n1 : w.heap.size + 1 < X.heap.size := by omega
    clear hX
    refine (hrd.out X BX).mono ?_
    rintro e w1 ⟨rfl, hb1⟩
    have b1 := hb1
    clear hb1
    have c1_0 := fun j => (b1.cell (p := ⟨w.heap.size, j, none⟩) n0).trans (P0.out j)
    have c1_1 := fun j => (b1.cell (p := ⟨w.heap.size + 1, j, none⟩) n1).trans (P1.out j)
    have z1 := b1.size
    go_wp2_with fail
    refine (hwk.out _).mono ?_
    rintro e w99 ⟨rfl, hb99⟩
    go_wp2
    go_ret
    exact ⟨rfl, BX.trans (Below.mono (b1.trans (hb99.mono z1)) zw)⟩
  obtain ⟨hn8, hck⟩ := rdyC_len er
  rw [er] at hrd
  replace hrd := Lib.hid hrd
  have HLI := Lib.hid HL
  have HXI := Lib.hid HX
  have HCK := Lib.hid hck
  have HQ := Lib.hid hq
  clear er HL hq HX hck hn
  by_cases hm1 : 40 < m
  · have hB : decide ((40 : Int) < m) = true := by simp; omega
    go_enter Try.func10, Try.ntmps10
    go_wp2_with fail
    obtain ⟨X, hX⟩ : ∃ X, (w.alloc (.cells #[.slice A n c, .int .i64 q.need, .int .i64 q.gap, .int .i64 q.doubt, .int .i64 q.joins, .int .i64 q.least] 24)).alloc (.cells #[.int .i64 x0, .int .i64 x1, .int .i64 x2] 28) = X := ⟨_, rfl⟩
    rw [hX]
    have BX : Below w.heap.size w X := (al2 hX).1
    have zX : X.heap.size = w.heap.size + 2 := (al2 hX).2
    have P0 := Lib.hid (al2_0 hX).2.1
    have P1 := Lib.hid (al2_1 hX).2.1
    have zw : w.heap.size ≤ X.heap.size := by omega
    have n0 : w.heap.size < X.heap.size := by omega
    have n1 : w.heap.size + 1 < X.heap.size := by omega
    clear hX
    refine (hrd.out X BX).mono ?_
    rintro e w1 ⟨rfl, hb1⟩
    have b1 := hb1
    clear hb1
    have c1_0 := fun j => (b1.cell (p := ⟨w.heap.size, j, none⟩) n0).trans (P0.out j)
    have c1_1 := fun j => (b1.cell (p := ⟨w.heap.size + 1, j, none⟩) n1).trans (P1.out j)
    have z1 := b1.size
    go_wp2_with fail
    refine (hwk.out _).mono ?_
    rintro e w99 ⟨rfl, hb99⟩
    go_wp2
    go_ret
    exact ⟨rfl, BX.trans (Below.mono (b1.trans (hb99.mono z1)) zw)⟩
  have hm40 : m ≤ 40 := by omega
  have hmB : decide ((40 : Int) < m) = false := by simp; omega
  clear hm1
  have hir : ∀ Z, Below w.heap.size w Z → Calls Try.prog 26 #[.agg #[.slice A n c, .int .i64 q.need, .int .i64 q.gap, .int .i64 q.doubt, .int .i64 q.joins, .int .i64 q.least], .slice B m d] Z fun e Z' => e = .returned (.bool (isR n m l)) ∧ Below Z.heap.size Z Z' := fun Z hZ =>
    IsRepair_c A B n c m d q l Z (by omega) hm40 (HXI.out.later hZ)
  cases hr : isR n m l
  · rw [hr] at hir
    replace hir := Lib.hid hir
    clear hr
    go_enter Try.func10, Try.ntmps10
    go_wp2_with fail
    obtain ⟨X, hX⟩ : ∃ X, (w.alloc (.cells #[.slice A n c, .int .i64 q.need, .int .i64 q.gap, .int .i64 q.doubt, .int .i64 q.joins, .int .i64 q.least] 24)).alloc (.cells #[.int .i64 x0, .int .i64 x1, .int .i64 x2] 28) = X := ⟨_, rfl⟩
    rw [hX]
    have BX : Below w.heap.size w X := (al2 hX).1
    have zX : X.heap.size = w.heap.size + 2 := (al2 hX).2
    have P0 := Lib.hid (al2_0 hX).2.1
    have P1 := Lib.hid (al2_1 hX).2.1
    have zw : w.heap.size ≤ X.heap.size := by omega
    have n0 : w.heap.size < X.heap.size := by omega
    have n1 : w.heap.size + 1 < X.heap.size := by omega
    clear hX
    refine (hrd.out X BX).mono ?_
    rintro e w1 ⟨rfl, hb1⟩
    have b1 := hb1
    clear hb1
    have c1_0 := fun j => (b1.cell (p := ⟨w.heap.size, j, none⟩) n0).trans (P0.out j)
    have c1_1 := fun j => (b1.cell (p := ⟨w.heap.size + 1, j, none⟩) n1).trans (P1.out j)
    have z1 := b1.size
    go_wp2_with fail
    refine (hir.out _ (BX.trans (b1.mono zw))).mono ?_
    rintro e w2 ⟨rfl, hb2⟩
    have b2 : Below X.heap.size X w2 := b1.trans (hb2.mono z1)
    clear hb2 c1_0 c1_1 b1
    have c2_0 := fun j => (b2.cell (p := ⟨w.heap.size, j, none⟩) n0).trans (P0.out j)
    have c2_1 := fun j => (b2.cell (p := ⟨w.heap.size + 1, j, none⟩) n1).trans (P1.out j)
    have z2 := b2.size
    go_wp2_with fail
    refine (hwk.out _).mono ?_
    rintro e w99 ⟨rfl, hb99⟩
    go_wp2
    go_ret
    exact ⟨rfl, BX.trans (Below.mono (b2.trans (hb99.mono z2)) zw)⟩
  rw [hr] at hir
  replace hir := Lib.hid hir
  have hig : ∀ Z, Below w.heap.size w Z → Calls Try.prog 41 #[.agg #[.slice A n c, .int .i64 q.need, .int .i64 q.gap, .int .i64 q.doubt, .int .i64 q.joins, .int .i64 q.least], .slice B m d] Z fun e Z' => e = .returned (.bool (goodB q ls n (ofK l m))) ∧ Below Z.heap.size Z Z' := fun Z hZ =>
    IsGood_c A B n c m d _ q ls l Z (by omega) hm40 (HLI.out.later hZ) (HXI.out.later hZ) (bits_isR hr)
  cases hg : goodB q ls n (ofK l m)
  · rw [hg] at hig
    replace hig := Lib.hid hig
    clear hr hg
    go_enter Try.func10, Try.ntmps10
    go_wp2_with fail
    obtain ⟨X, hX⟩ : ∃ X, (w.alloc (.cells #[.slice A n c, .int .i64 q.need, .int .i64 q.gap, .int .i64 q.doubt, .int .i64 q.joins, .int .i64 q.least] 24)).alloc (.cells #[.int .i64 x0, .int .i64 x1, .int .i64 x2] 28) = X := ⟨_, rfl⟩
    rw [hX]
    have BX : Below w.heap.size w X := (al2 hX).1
    have zX : X.heap.size = w.heap.size + 2 := (al2 hX).2
    have P0 := Lib.hid (al2_0 hX).2.1
    have P1 := Lib.hid (al2_1 hX).2.1
    have zw : w.heap.size ≤ X.heap.size := by omega
    have n0 : w.heap.size < X.heap.size := by omega
    have n1 : w.heap.size + 1 < X.heap.size := by omega
    clear hX
    refine (hrd.out X BX).mono ?_
    rintro e w1 ⟨rfl, hb1⟩
    have b1 := hb1
    clear hb1
    have c1_0 := fun j => (b1.cell (p := ⟨w.heap.size, j, none⟩) n0).trans (P0.out j)
    have c1_1 := fun j => (b1.cell (p := ⟨w.heap.size + 1, j, none⟩) n1).trans (P1.out j)
    have z1 := b1.size
    go_wp2_with fail
    refine (hir.out _ (BX.trans (b1.mono zw))).mono ?_
    rintro e w2 ⟨rfl, hb2⟩
    have b2 : Below X.heap.size X w2 := b1.trans (hb2.mono z1)
    clear hb2 c1_0 c1_1 b1
    have c2_0 := fun j => (b2.cell (p := ⟨w.heap.size, j, none⟩) n0).trans (P0.out j)
    have c2_1 := fun j => (b2.cell (p := ⟨w.heap.size + 1, j, none⟩) n1).trans (P1.out j)
    have z2 := b2.size
    go_wp2_with fail
    refine (hig.out _ (BX.trans (b2.mono zw))).mono ?_
    rintro e w3 ⟨rfl, hb3⟩
    have b3 : Below X.heap.size X w3 := b2.trans (hb3.mono z2)
    clear hb3 c2_0 c2_1 b2
    have c3_0 := fun j => (b3.cell (p := ⟨w.heap.size, j, none⟩) n0).trans (P0.out j)
    have c3_1 := fun j => (b3.cell (p := ⟨w.heap.size + 1, j, none⟩) n1).trans (P1.out j)
    have z3 := b3.size
    go_wp2_with fail
    refine (hwk.out _).mono ?_
    rintro e w99 ⟨rfl, hb99⟩
    go_wp2
    go_ret
    exact ⟨rfl, BX.trans (Below.mono (b3.trans (hb99.mono z3)) zw)⟩
  rw [hg] at hig
  replace hig := Lib.hid hig
  have hak : ∀ Z, Calls Try.prog 13 #[.agg #[.int .i64 x0, .int .i64 x1, .int .i64 x2]] Z fun e Z' => e = .returned (.bool (askC x0 x1 x2)) ∧ Below Z.heap.size Z Z' := fun Z => isAsk_c x0 x1 x2 Z
  cases ea : askC x0 x1 x2
  · rw [ea] at hak
    replace hak := Lib.hid hak
    clear hr hg ea
    go_enter Try.func10, Try.ntmps10
    go_wp2_with fail
    obtain ⟨X, hX⟩ : ∃ X, (w.alloc (.cells #[.slice A n c, .int .i64 q.need, .int .i64 q.gap, .int .i64 q.doubt, .int .i64 q.joins, .int .i64 q.least] 24)).alloc (.cells #[.int .i64 x0, .int .i64 x1, .int .i64 x2] 28) = X := ⟨_, rfl⟩
    rw [hX]
    have BX : Below w.heap.size w X := (al2 hX).1
    have zX : X.heap.size = w.heap.size + 2 := (al2 hX).2
    have P0 := Lib.hid (al2_0 hX).2.1
    have P1 := Lib.hid (al2_1 hX).2.1
    have zw : w.heap.size ≤ X.heap.size := by omega
    have n0 : w.heap.size < X.heap.size := by omega
    have n1 : w.heap.size + 1 < X.heap.size := by omega
    clear hX
    refine (hrd.out X BX).mono ?_
    rintro e w1 ⟨rfl, hb1⟩
    have b1 := hb1
    clear hb1
    have c1_0 := fun j => (b1.cell (p := ⟨w.heap.size, j, none⟩) n0).trans (P0.out j)
    have c1_1 := fun j => (b1.cell (p := ⟨w.heap.size + 1, j, none⟩) n1).trans (P1.out j)
    have z1 := b1.size
    go_wp2_with fail
    refine (hir.out _ (BX.trans (b1.mono zw))).mono ?_
    rintro e w2 ⟨rfl, hb2⟩
    have b2 : Below X.heap.size X w2 := b1.trans (hb2.mono z1)
    clear hb2 c1_0 c1_1 b1
    have c2_0 := fun j => (b2.cell (p := ⟨w.heap.size, j, none⟩) n0).trans (P0.out j)
    have c2_1 := fun j => (b2.cell (p := ⟨w.heap.size + 1, j, none⟩) n1).trans (P1.out j)
    have z2 := b2.size
    go_wp2_with fail
    refine (hig.out _ (BX.trans (b2.mono zw))).mono ?_
    rintro e w3 ⟨rfl, hb3⟩
    have b3 : Below X.heap.size X w3 := b2.trans (hb3.mono z2)
    clear hb3 c2_0 c2_1 b2
    have c3_0 := fun j => (b3.cell (p := ⟨w.heap.size, j, none⟩) n0).trans (P0.out j)
    have c3_1 := fun j => (b3.cell (p := ⟨w.heap.size + 1, j, none⟩) n1).trans (P1.out j)
    have z3 := b3.size
    go_wp2_with fail
    refine (hak.out _).mono ?_
    rintro e w4 ⟨rfl, hb4⟩
    have b4 : Below X.heap.size X w4 := b3.trans (hb4.mono z3)
    clear hb4 c3_0 c3_1 b3
    have c4_0 := fun j => (b4.cell (p := ⟨w.heap.size, j, none⟩) n0).trans (P0.out j)
    have c4_1 := fun j => (b4.cell (p := ⟨w.heap.size + 1, j, none⟩) n1).trans (P1.out j)
    have z4 := b4.size
    go_wp2_with fail
    refine (hwk.out _).mono ?_
    rintro e w99 ⟨rfl, hb99⟩
    go_wp2
    go_ret
    exact ⟨rfl, BX.trans (Below.mono (b4.trans (hb99.mono z4)) zw)⟩
  rw [ea] at hak
  replace hak := Lib.hid hak
  obtain ⟨ha0, ha1, -⟩ := askC_iff.1 ea
  obtain ⟨⟨hc, hez, hle⟩, ⟨V, hV, hV0, hVp⟩, ⟨hgE, hgG⟩, hall⟩ := each_vals (x0 := x0) (x1 := x1) HCK.out hr HXI.out.1 hg ha0 ha1
  have hfw : ∀ Z, Below w.heap.size w Z → Calls Try.prog 17 #[.agg #[.slice A n c, .int .i64 q.need, .int .i64 q.gap, .int .i64 q.doubt, .int .i64 q.joins, .int .i64 q.least]] Z fun e Z' => e = .returned (.tuple #[.int .i64 ((plC n ls q).length : Nat), .int .i64 (erS n ls q)]) ∧ Below Z.heap.size Z Z' := fun Z hZ => fewest_c A n c q ls Z (by omega) HQ.out (HLI.out.later hZ)
  have hch : ∀ Z, Below w.heap.size w Z → Calls Try.prog 18 #[.agg #[.slice A n c, .int .i64 q.need, .int .i64 q.gap, .int .i64 q.doubt, .int .i64 q.joins, .int .i64 q.least], .int .i64 x0, .int .i64 x1] Z fun e Z' => e = .returned (.tuple #[.int .i64 (chR n ls q x0 x1).1, .int .i64 (chR n ls q x0 x1).2]) ∧ Below Z.heap.size Z Z' := fun Z hZ => cheapest_c A n c q x0 x1 ls Z (by omega) HQ.out (HLI.out.later hZ)
  have hmu : ∀ Z, Below w.heap.size w Z → Calls Try.prog 37 #[.agg #[.slice A n c, .int .i64 q.need, .int .i64 q.gap, .int .i64 q.doubt, .int .i64 q.joins, .int .i64 q.least]] Z (LiRet (muL n ls q) (erS n ls q) Z) := fun Z hZ => Must_c A n c q ls Z (by omega) HQ.out (HLI.out.later hZ)
  have hsp : ∀ Z, Below w.heap.size w Z → Calls Try.prog 39 #[.agg #[.slice A n c, .int .i64 q.need, .int .i64 q.gap, .int .i64 q.doubt, .int .i64 q.joins, .int .i64 q.least]] Z (LiRet (spL n ls q) (erS n ls q) Z) := fun Z hZ => Spared_c A n c q ls Z (by omega) HQ.out (HLI.out.later hZ)
  have hgd : ∀ Z, Below w.heap.size w Z → Calls Try.prog 28 #[.agg #[.slice A n c, .int .i64 q.need, .int .i64 q.gap, .int .i64 q.doubt, .int .i64 q.joins, .int .i64 q.least], .slice B m d] Z fun e Z' => e = .returned (.tuple #[.bool (gvG n m ls q l), .int .i64 (gvE n m ls q l)]) ∧ Below Z.heap.size Z Z' := fun Z hZ =>
    Good_c A B n c m d q ls l Z (by omega) hm40 HQ.out (HLI.out.later hZ) (HXI.out.later hZ)
  have hpr : ∀ Z, Below w.heap.size w Z → Calls Try.prog 42 #[.agg #[.slice A n c, .int .i64 q.need, .int .i64 q.gap, .int .i64 q.doubt, .int .i64 q.joins, .int .i64 q.least], .slice B m d, .int .i64 x0, .int .i64 x1] Z fun e Z' => e = .returned (.int .i64 (prc x0 x1 n (ofK l m))) ∧ Below Z.heap.size Z Z' := fun Z hZ =>
    Price_c A B n c m d _ q l x0 x1 Z (by omega) hc (HXI.out.later hZ) (bits_isR hr) ha0.1 ha0.2 ha1.1 ha1.2
  have hml := mu_len n ls q
  have hsl := sp_len n ls q
  have hin : ∀ (v : Int) Z, Below w.heap.size w Z → Calls Try.prog 27 #[.slice B m d, .int .i64 v] Z fun e Z' => e = .returned (.bool (anyN m fun k => iAt l k == v)) ∧ Z = Z' := fun v Z hZ => In_c B m d v l Z hm40 (HXI.out.later hZ)
  rw [hez] at hfw hmu hsp
  rw [hV] at hch
  rw [hgE, hgG] at hgd
  simp only at hch
  obtain ⟨F, hF⟩ : ∃ F, (plC n ls q).length = F := ⟨_, rfl⟩
  obtain ⟨P, hP⟩ : ∃ P, prc x0 x1 n (ofK l m) = P := ⟨_, rfl⟩
  obtain ⟨MU, hMU⟩ : ∃ M, muL n ls q = M := ⟨_, rfl⟩
  obtain ⟨SP, hSP⟩ : ∃ M, spL n ls q = M := ⟨_, rfl⟩
  rw [hF] at hfw hle hall
  rw [hP] at hpr hVp
  rw [hMU] at hmu hml hall
  rw [hSP] at hsp hsl hall
  obtain ⟨mn, hmn⟩ : ∃ k, MU.length = k := ⟨_, rfl⟩
  obtain ⟨sn, hsn⟩ : ∃ k, SP.length = k := ⟨_, rfl⟩
  unfold LiRet at hmu hsp
  rw [hmn] at hmu hml hall
  rw [hsn] at hsp hsl hall
  replace hall := Lib.hid hall
  replace hfw := Lib.hid hfw
  replace hch := Lib.hid hch
  replace hmu := Lib.hid hmu
  replace hsp := Lib.hid hsp
  replace hgd := Lib.hid hgd
  replace hpr := Lib.hid hpr
  replace hin := Lib.hid hin
  clear hr hg ea hF hP hMU hSP hmn hsn hV hgE hgG hc hez
  have f1 : decide (m < F) = false := by simp; omega
  have f2 : decide (V < 0) = false := by simp; omega
  have f3 : decide (P < V) = false := by simp; omega
  have f4 : decide ((40 : Int) < mn) = false := by simp; omega
  have f5 : decide ((40 : Int) < sn) = false := by simp; omega
  go_enter Try.func10, Try.ntmps10
  go_wp2_with fail
  obtain ⟨X, hX⟩ : ∃ X, (w.alloc (.cells #[.slice A n c, .int .i64 q.need, .int .i64 q.gap, .int .i64 q.doubt, .int .i64 q.joins, .int .i64 q.least] 24)).alloc (.cells #[.int .i64 x0, .int .i64 x1, .int .i64 x2] 28) = X := ⟨_, rfl⟩
  rw [hX]
  have BX : Below w.heap.size w X := (al2 hX).1
  have zX : X.heap.size = w.heap.size + 2 := (al2 hX).2
  have P0 := Lib.hid (al2_0 hX).2.1
  have P1 := Lib.hid (al2_1 hX).2.1
  have zw : w.heap.size ≤ X.heap.size := by omega
  have n0 : w.heap.size < X.heap.size := by omega
  have n1 : w.heap.size + 1 < X.heap.size := by omega
  clear hX
  refine (hrd.out X BX).mono ?_
  rintro e w1 ⟨rfl, hb1⟩
  have b1 := hb1
  clear hb1
  have c1_0 := fun j => (b1.cell (p := ⟨w.heap.size, j, none⟩) n0).trans (P0.out j)
  have c1_1 := fun j => (b1.cell (p := ⟨w.heap.size + 1, j, none⟩) n1).trans (P1.out j)
  have z1 := b1.size
  go_wp2_with fail
  refine (hir.out _ (BX.trans (b1.mono zw))).mono ?_
  rintro e w2 ⟨rfl, hb2⟩
  have b2 : Below X.heap.size X w2 := b1.trans (hb2.mono z1)
  clear hb2 c1_0 c1_1 b1
  have c2_0 := fun j => (b2.cell (p := ⟨w.heap.size, j, none⟩) n0).trans (P0.out j)
  have c2_1 := fun j => (b2.cell (p := ⟨w.heap.size + 1, j, none⟩) n1).trans (P1.out j)
  have z2 := b2.size
  go_wp2_with fail
  refine (hig.out _ (BX.trans (b2.mono zw))).mono ?_
  rintro e w3 ⟨rfl, hb3⟩
  have b3 : Below X.heap.size X w3 := b2.trans (hb3.mono z2)
  clear hb3 c2_0 c2_1 b2
  have c3_0 := fun j => (b3.cell (p := ⟨w.heap.size, j, none⟩) n0).trans (P0.out j)
  have c3_1 := fun j => (b3.cell (p := ⟨w.heap.size + 1, j, none⟩) n1).trans (P1.out j)
  have z3 := b3.size
  go_wp2_with fail
  refine (hak.out _).mono ?_
  rintro e w4 ⟨rfl, hb4⟩
  have b4 : Below X.heap.size X w4 := b3.trans (hb4.mono z3)
  clear hb4 c3_0 c3_1 b3
  have c4_0 := fun j => (b4.cell (p := ⟨w.heap.size, j, none⟩) n0).trans (P0.out j)
  have c4_1 := fun j => (b4.cell (p := ⟨w.heap.size + 1, j, none⟩) n1).trans (P1.out j)
  have z4 := b4.size
  go_wp2_with fail
  refine (hfw.out _ (BX.trans (b4.mono zw))).mono ?_
  rintro e w5 ⟨rfl, hb5⟩
  have b5 : Below X.heap.size X w5 := b4.trans (hb5.mono z4)
  clear hb5 c4_0 c4_1 b4
  have c5_0 := fun j => (b5.cell (p := ⟨w.heap.size, j, none⟩) n0).trans (P0.out j)
  have c5_1 := fun j => (b5.cell (p := ⟨w.heap.size + 1, j, none⟩) n1).trans (P1.out j)
  have z5 := b5.size
  go_wp2_with fail
  refine (hch.out _ (BX.trans (b5.mono zw))).mono ?_
  rintro e w6 ⟨rfl, hb6⟩
  have b6 : Below X.heap.size X w6 := b5.trans (hb6.mono z5)
  clear hb6 c5_0 c5_1 b5
  have c6_0 := fun j => (b6.cell (p := ⟨w.heap.size, j, none⟩) n0).trans (P0.out j)
  have c6_1 := fun j => (b6.cell (p := ⟨w.heap.size + 1, j, none⟩) n1).trans (P1.out j)
  have z6 := b6.size
  go_wp2_with fail
  refine (hmu.out _ (BX.trans (b6.mono zw))).mono ?_
  rintro e w7 ⟨A7, c7, rfl, hI7, hb7⟩
  have H7 := Lib.hid hI7
  have b7 : Below X.heap.size X w7 := b6.trans (hb7.mono z6)
  clear hb7 hI7 c6_0 c6_1 b6
  have c7_0 := fun j => (b7.cell (p := ⟨w.heap.size, j, none⟩) n0).trans (P0.out j)
  have c7_1 := fun j => (b7.cell (p := ⟨w.heap.size + 1, j, none⟩) n1).trans (P1.out j)
  have z7 := b7.size
  go_wp2_with fail
  refine (hsp.out _ (BX.trans (b7.mono zw))).mono ?_
  rintro e w8 ⟨A8, c8, rfl, hI8, hb8⟩
  have H8 := Lib.hid hI8
  have H7' := Lib.hid (H7.out.later hb8)
  have b8 : Below X.heap.size X w8 := b7.trans (hb8.mono z7)
  have k8 : Below w8.heap.size w8 w8 := Below.refl _ _
  clear hb8 hI8 c7_0 c7_1 b7 H7
  have c8_0 := fun j => (b8.cell (p := ⟨w.heap.size, j, none⟩) n0).trans (P0.out j)
  have c8_1 := fun j => (b8.cell (p := ⟨w.heap.size + 1, j, none⟩) n1).trans (P1.out j)
  have z8 := b8.size
  go_wp2_with fail
  refine (hgd.out _ (BX.trans (b8.mono zw))).mono ?_
  rintro e w9 ⟨rfl, hb9⟩
  have b9 : Below X.heap.size X w9 := b8.trans (hb9.mono z8)
  have k9 := Lib.hid (k8.trans hb9)
  clear hb9 c8_0 c8_1 k8
  have c9_0 := fun j => (b9.cell (p := ⟨w.heap.size, j, none⟩) n0).trans (P0.out j)
  have c9_1 := fun j => (b9.cell (p := ⟨w.heap.size + 1, j, none⟩) n1).trans (P1.out j)
  have z9 := b9.size
  have hl8 := k9.out.size
  by_cases hFm : F < m
  · go_wp2_with (go_at_call 42; refine (hpr.out _ (BX.trans (b9.mono zw))).mono ?_; (rintro e wa ⟨rfl, hba⟩); have ba : Below X.heap.size X wa := b9.trans (hba.mono z9); have za := ba.size)
    refine (hwk.out _).mono ?_
    rintro e w99 ⟨rfl, hb99⟩
    go_wp2
    go_ret
    exact ⟨rfl, BX.trans (Below.mono (ba.trans (hb99.mono za)) zw)⟩
  · have hFe := hall.out (by omega)
    have HM := Lib.hid hFe.1
    have HS := Lib.hid hFe.2
    have hFB : decide (F < m) = false := by simp; omega
    clear hFe hFm
    go_wp2_with (go_at_call 42; refine (hpr.out _ (BX.trans (b9.mono zw))).mono ?_; (rintro e wa ⟨rfl, hba⟩); have ba : Below X.heap.size X wa := b9.trans (hba.mono z9); have za := ba.size; have ka := Lib.hid (k9.out.trans (hba.mono hl8)))
    have H7a := Lib.hid (H7'.out.later ka.out)
    have H8a := Lib.hid (H8.out.later ka.out)
    have bwa := Lib.hid (BX.trans (ba.mono zw))
    clear c9_0 c9_1 H7' H8 ka hba
    go_loop [17] (fun i => ∃ k : Nat, k ≤ mn ∧ i = .int .i64 k) (fun i => mn - (intOf i).toNat)
    case atStart => exact ⟨0, by omega, rfl⟩
    case round =>
      obtain ⟨k, hk, rfl⟩ := hrel
      by_cases hkn : k < mn
      · have hkB : decide ((k : Int) < mn) = true := by simp; omega
        obtain ⟨b0, o0, rfl, hb0, v0⟩ := H7a.out.get hkn
        have hik := hin.out (iAt (ints MU) k) wa bwa.out
        rw [HM.out k hkn] at hik
        obtain ⟨v, hv⟩ : ∃ v, iAt (ints MU) k = v := ⟨_, rfl⟩
        rw [hv] at v0 hik
        replace hik := Lib.hid hik
        clear hv
        go_wp2_with (go_at_call 27; refine hik.out.mono ?_; rintro e w' ⟨rfl, rfl⟩)
        go_round
        case rel => exact ⟨k + 1, by omega, by go_num⟩
        case measure => simp [intOf]; omega
      · obtain rfl : k = mn := by omega
        have hkB : decide (((k : Nat) : Int) < k) = false := by simp
        go_wp2_with fail
        go_loop [18] (fun i => ∃ k : Nat, k ≤ sn ∧ i = .int .i64 k) (fun i => sn - (intOf i).toNat)
        case atStart => exact ⟨0, by omega, rfl⟩
        case round =>
          obtain ⟨j, hj, rfl⟩ := hrel
          by_cases hjn : j < sn
          · have hjB : decide ((j : Int) < sn) = true := by simp; omega
            obtain ⟨b0, o0, rfl, hb0, v0⟩ := H8a.out.get hjn
            have hik := hin.out (iAt (ints SP) j) wa bwa.out
            rw [HS.out j hjn] at hik
            obtain ⟨v, hv⟩ : ∃ v, iAt (ints SP) j = v := ⟨_, rfl⟩
            rw [hv] at v0 hik
            replace hik := Lib.hid hik
            clear hv
            go_wp2_with (go_at_call 27; refine hik.out.mono ?_; rintro e w' ⟨rfl, rfl⟩)
            go_round
            case rel => exact ⟨j + 1, by omega, by go_num⟩
            case measure => simp [intOf]; omega
          · obtain rfl : j = sn := by omega
            have hjB : decide (((j : Nat) : Int) < j) = false := by simp
            go_wp2_with fail
            refine (hwk.out _).mono ?_
            rintro e w99 ⟨rfl, hb99⟩
            go_wp2
            go_ret
            exact ⟨rfl, BX.trans (Below.mono (ba.trans (hb99.mono za)) zw)⟩

end Go.Proofs.Ythjjakhmbgnnnaa
