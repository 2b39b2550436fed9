/- RepairsLonger (layer 7): the walk. -/
import Derived.Deep.DeepCutAuto
import Derived.Test.YthjjakhmbgnnnaaLn7
import Derived.Test.YthjjakhmbgnnnaaOm7
namespace Go.Proofs.Ythjjakhmbgnnnaa
open Go.RowKit
open Go.Sort (grow)
set_option linter.unusedVariables false

set_option maxRecDepth 100000 in
set_option maxHeartbeats 6400000 in
theorem LongerLaw_c (A B : Option Addr) (n c m d : Nat) (q : Cb) (ls : List Sp) (l : List Int) (s : Sp) (w : World) (hq : CbOk q) (HL : SpsAt w A n ls) (hn : n ≤ 9223372036854775807) (HX : IntsAt w B m l) (hm : m ≤ 9223372036854775807) :
    Calls Try.prog 7 #[.agg #[.slice A n c, .int .i64 q.need, .int .i64 q.gap, .int .i64 q.doubt, .int .i64 q.joins, .int .i64 q.least], .slice B m d, .agg #[.int .i64 s.lo, .int .i64 s.hi]] w
      fun e w' => e = .returned (.bool true) ∧ Below w.heap.size w w' := by
  have hrd : ∀ Z, Below w.heap.size w Z → Calls Try.prog 12 #[.agg #[.slice A n c, .int .i64 q.need, .int .i64 q.gap, .int .i64 q.doubt, .int .i64 q.joins, .int .i64 q.least]] Z fun e Z' => e = .returned (.bool (rdyC n ls q)) ∧ Below Z.heap.size Z Z' := fun Z hZ => ready_c A n c q ls Z (HL.later hZ)
  have hwk := Lib.hid works_c
  have hs1 : IntKind.i64.wrap ((n : Int) - 1) = (n : Int) - 1 := IntWalk.i64_in _ (by omega)
  cases er : rdyC n ls q
  · rw [er] at hrd
    replace hrd := Lib.hid hrd
    clear er HL hq HX
    go_enter Try.func7, Try.ntmps7
    go_wp2_with fail
    obtain ⟨X, hX⟩ : ∃ X, (w.alloc (.cells #[.slice A n c, .int .i64 q.need, .int .i64 q.gap, .int .i64 q.doubt, .int .i64 q.joins, .int .i64 q.least] 24)).alloc (.cells #[.int .i64 s.lo, .int .i64 s.hi] 35) = X := ⟨_, rfl⟩
    rw [hX]
    have BX : Below w.heap.size w X := (al2 hX).1
    have zX : X.heap.size = w.heap.size + 2 := (al2 hX).2
    have P0 := Lib.hid (al2_0 hX).2.1
    have P1 := Lib.hid (al2_1 hX).2.1
    have zw : w.heap.size ≤ X.heap.size := by omega
    have n0 : w.heap.size < X.heap.size := by omega
    have n1 : w.heap.size + 1 < X.heap.size := by omega
    clear hX
    refine (hrd.out X BX).mono ?_
    rintro e w1 ⟨rfl, hb1⟩
    have b1 := hb1
    clear hb1
    have c1_0 := fun j => (b1.cell (p := ⟨w.heap.size, j, none⟩) n0).trans (P0.out j)
    have c1_1 := fun j => (b1.cell (p := ⟨w.heap.size + 1, j, none⟩) n1).trans (P1.out j)
    have z1 := b1.size
    go_wp2_with fail
    refine (hwk.out _).mono ?_
    rintro e w99 ⟨rfl, hb99⟩
    go_wp2
    go_ret
    exact ⟨rfl, BX.trans (Below.mono (b1.trans (hb99.mono z1)) zw)⟩
  obtain ⟨hn8, hck⟩ := rdyC_len er
  rw [er] at hrd
  replace hrd := Lib.hid hrd
  have HLI := Lib.hid HL
  have HXI := Lib.hid HX
  have HCK := Lib.hid hck
  have HQ := Lib.hid hq
  clear er HL hq HX hck hn
  by_cases hm1 : 40 < m
  · have hB : decide ((40 : Int) < m) = true := by simp; omega
    go_enter Try.func7, Try.ntmps7
    go_wp2_with fail
    obtain ⟨X, hX⟩ : ∃ X, (w.alloc (.cells #[.slice A n c, .int .i64 q.need, .int .i64 q.gap, .int .i64 q.doubt, .int .i64 q.joins, .int .i64 q.least] 24)).alloc (.cells #[.int .i64 s.lo, .int .i64 s.hi] 35) = X := ⟨_, rfl⟩
    rw [hX]
    have BX : Below w.heap.size w X := (al2 hX).1
    have zX : X.heap.size = w.heap.size + 2 := (al2 hX).2
    have P0 := Lib.hid (al2_0 hX).2.1
    have P1 := Lib.hid (al2_1 hX).2.1
    have zw : w.heap.size ≤ X.heap.size := by omega
    have n0 : w.heap.size < X.heap.size := by omega
    have n1 : w.heap.size + 1 < X.heap.size := by omega
    clear hX
    refine (hrd.out X BX).mono ?_
    rintro e w1 ⟨rfl, hb1⟩
    have b1 := hb1
    clear hb1
    have c1_0 := fun j => (b1.cell (p := ⟨w.heap.size, j, none⟩) n0).trans (P0.out j)
    have c1_1 := fun j => (b1.cell (p := ⟨w.heap.size + 1, j, none⟩) n1).trans (P1.out j)
    have z1 := b1.size
    go_wp2_with fail
    refine (hwk.out _).mono ?_
    rintro e w99 ⟨rfl, hb99⟩
    go_wp2
    go_ret
    exact ⟨rfl, BX.trans (Below.mono (b1.trans (hb99.mono z1)) zw)⟩
  have hm40 : m ≤ 40 := by omega
  have hmB : decide ((40 : Int) < m) = false := by simp; omega
  by_cases hn0 : n = 0
  · have hlt : (n : Int) - 1 < 0 := by omega
    clear hn0 hn8
    go_enter Try.func7, Try.ntmps7
    go_wp2_with fail
    obtain ⟨X, hX⟩ : ∃ X, (w.alloc (.cells #[.slice A n c, .int .i64 q.need, .int .i64 q.gap, .int .i64 q.doubt, .int .i64 q.joins, .int .i64 q.least] 24)).alloc (.cells #[.int .i64 s.lo, .int .i64 s.hi] 35) = X := ⟨_, rfl⟩
    rw [hX]
    have BX : Below w.heap.size w X := (al2 hX).1
    have zX : X.heap.size = w.heap.size + 2 := (al2 hX).2
    have P0 := Lib.hid (al2_0 hX).2.1
    have P1 := Lib.hid (al2_1 hX).2.1
    have zw : w.heap.size ≤ X.heap.size := by omega
    have n0 : w.heap.size < X.heap.size := by omega
    have n1 : w.heap.size + 1 < X.heap.size := by omega
    clear hX
    refine (hrd.out X BX).mono ?_
    rintro e w1 ⟨rfl, hb1⟩
    have b1 := hb1
    clear hb1
    have c1_0 := fun j => (b1.cell (p := ⟨w.heap.size, j, none⟩) n0).trans (P0.out j)
    have c1_1 := fun j => (b1.cell (p := ⟨w.heap.size + 1, j, none⟩) n1).trans (P1.out j)
    have z1 := b1.size
    go_wp2_with fail
    refine (hwk.out _).mono ?_
    rintro e w99 ⟨rfl, hb99⟩
    go_wp2
    go_ret
    exact ⟨rfl, BX.trans (Below.mono (b1.trans (hb99.mono z1)) zw)⟩
  by_cases hn7 : n = 8
  · have hlt : ¬ (n : Int) - 1 < 0 := by omega
    have hgt : 6 < (n : Int) - 1 := by omega
    clear hn0 hn7 hn8
    go_enter Try.func7, Try.ntmps7
    go_wp2_with fail
    obtain ⟨X, hX⟩ : ∃ X, (w.alloc (.cells #[.slice A n c, .int .i64 q.need, .int .i64 q.gap, .int .i64 q.doubt, .int .i64 q.joins, .int .i64 q.least] 24)).alloc (.cells #[.int .i64 s.lo, .int .i64 s.hi] 35) = X := ⟨_, rfl⟩
    rw [hX]
    have BX : Below w.heap.size w X := (al2 hX).1
    have zX : X.heap.size = w.heap.size + 2 := (al2 hX).2
    have P0 := Lib.hid (al2_0 hX).2.1
    have P1 := Lib.hid (al2_1 hX).2.1
    have zw : w.heap.size ≤ X.heap.size := by omega
    have n0 : w.heap.size < X.heap.size := by omega
    have n1 : w.heap.size + 1 < X.heap.size := by omega
    clear hX
    refine (hrd.out X BX).mono ?_
    rintro e w1 ⟨rfl, hb1⟩
    have b1 := hb1
    clear hb1
    have c1_0 := fun j => (b1.cell (p := ⟨w.heap.size, j, none⟩) n0).trans (P0.out j)
    have c1_1 := fun j => (b1.cell (p := ⟨w.heap.size + 1, j, none⟩) n1).trans (P1.out j)
    have z1 := b1.size
    go_wp2_with fail
    refine (hwk.out _).mono ?_
    rintro e w99 ⟨rfl, hb99⟩
    go_wp2
    go_ret
    exact ⟨rfl, BX.trans (Below.mono (b1.trans (hb99.mono z1)) zw)⟩
  by_cases hnd : s.lo < q.need
  · have hlt : ¬ (n : Int) - 1 < 0 := by omega
    have hgt : ¬ 6 < (n : Int) - 1 := by omega
    clear hn0 hn7 hn8
    go_enter Try.func7, Try.ntmps7
    go_wp2_with fail
    obtain ⟨X, hX⟩ : ∃ X, (w.alloc (.cells #[.slice A n c, .int .i64 q.need, .int .i64 q.gap, .int .i64 q.doubt, .int .i64 q.joins, .int .i64 q.least] 24)).alloc (.cells #[.int .i64 s.lo, .int .i64 s.hi] 35) = X := ⟨_, rfl⟩
    rw [hX]
    have BX : Below w.heap.size w X := (al2 hX).1
    have zX : X.heap.size = w.heap.size + 2 := (al2 hX).2
    have P0 := Lib.hid (al2_0 hX).2.1
    have P1 := Lib.hid (al2_1 hX).2.1
    have zw : w.heap.size ≤ X.heap.size := by omega
    have n0 : w.heap.size < X.heap.size := by omega
    have n1 : w.heap.size + 1 < X.heap.size := by omega
    clear hX
    refine (hrd.out X BX).mono ?_
    rintro e w1 ⟨rfl, hb1⟩
    have b1 := hb1
    clear hb1
    have c1_0 := fun j => (b1.cell (p := ⟨w.heap.size, j, none⟩) n0).trans (P0.out j)
    have c1_1 := fun j => (b1.cell (p := ⟨w.heap.size + 1, j, none⟩) n1).trans (P1.out j)
    have z1 := b1.size
    go_wp2_with fail
    refine (hwk.out _).mono ?_
    rintro e w99 ⟨rfl, hb99⟩
    go_wp2
    go_ret
    exact ⟨rfl, BX.trans (Below.mono (b1.trans (hb99.mono z1)) zw)⟩
  have hll := HLI.out.1
  replace hll := Lib.hid hll
  have hn1 : 1 ≤ n := by omega
  have hn7' : n ≤ 7 := by omega
  have HN0 := Lib.hid hn0
  clear hn0 hn7 hn8 hm1
  go_enter Try.func7, Try.ntmps7
  go_wp2_with fail
  obtain ⟨X, hX⟩ : ∃ X, (w.alloc (.cells #[.slice A n c, .int .i64 q.need, .int .i64 q.gap, .int .i64 q.doubt, .int .i64 q.joins, .int .i64 q.least] 24)).alloc (.cells #[.int .i64 s.lo, .int .i64 s.hi] 35) = X := ⟨_, rfl⟩
  rw [hX]
  have BX : Below w.heap.size w X := (al2 hX).1
  have zX : X.heap.size = w.heap.size + 2 := (al2 hX).2
  have P0 := Lib.hid (al2_0 hX).2.1
  have P1 := Lib.hid (al2_1 hX).2.1
  have zw : w.heap.size ≤ X.heap.size := by omega
  have n0 : w.heap.size < X.heap.size := by omega
  have n1 : w.heap.size + 1 < X.heap.size := by omega
  clear hX
  refine (hrd.out X BX).mono ?_
  rintro e w1 ⟨rfl, hb1⟩
  have b1 := hb1
  clear hb1
  have c1_0 := fun j => (b1.cell (p := ⟨w.heap.size, j, none⟩) n0).trans (P0.out j)
  have c1_1 := fun j => (b1.cell (p := ⟨w.heap.size + 1, j, none⟩) n1).trans (P1.out j)
  have z1 := b1.size
  go_wp2_with fail
  refine (Copy_c A n c q ls w1 (by omega) (HLI.out.later (BX.trans (b1.mono zw)))).mono ?_
  rintro e w2 ⟨A1, k1, rfl, hO, hb2⟩
  have HO := Lib.hid hO
  have b2 : Below X.heap.size X w2 := b1.trans (hb2.mono z1)
  have zO := hb2.size
  clear hb2 hO c1_0 c1_1
  have c2_0 := fun j => (b2.cell (p := ⟨w.heap.size, j, none⟩) n0).trans (P0.out j)
  have c2_1 := fun j => (b2.cell (p := ⟨w.heap.size + 1, j, none⟩) n1).trans (P1.out j)
  have z2 := b2.size
  go_upto_region 5 with (fail)
  go_name_world Y hY
  have M3 := Lib.hid (show OMid X w2.heap.size n A1 k1 q q.need ls w1.heap.size Y from ⟨b2.trans ((al1 hY).1.mono z2), by rw [← hY]; exact Blk.new _ _ _, own_below HO.out (al1 hY).1, fun k hk e => by have := (HO.out.lt k hk).2; omega, z2⟩)
  clear hY c2_0 c2_1
  have b3 := M3.out.bel
  have c3_0 := fun j => (b3.cell (p := ⟨w.heap.size, j, none⟩) n0).trans (P0.out j)
  have c3_1 := fun j => (b3.cell (p := ⟨w.heap.size + 1, j, none⟩) n1).trans (P1.out j)
  have z3 := b3.size
  have o3 := M3.out.blk.cell
  have f3 := M3.out.blk.frozen
  have l3 := M3.out.blk.lt
  go_wp2_with (at_builtin; go_must (refine wpList_append_T _ (d := (⟨0, 0⟩ : Sp)) rfl (.tmp 48) (.tmp 50) _ rfl w1.heap.size _ 2 16 spE encS_len encS_one (.slice A1 n k1) (Value.slice A1 n k1).ownBlock n ls rfl rfl ?ow _ 1 _ [s] rfl ?sl (by omega) ?sz ?_; (case ow => exact M3.out.own.alloc _); (case sz => (simp; omega)); (case sl => exact sl_new encS_len rfl rfl rfl); (rintro v8 w8 ho8 hg8 ha8); (obtain ⟨A2, k2, rfl, -, -⟩ := SlAt.of_own (d := (⟨0, 0⟩ : Sp)) encS_len ho8 (by simp [hll.out])); (have HA := Lib.hid (M3.out.append z1 (by omega) ho8 hg8 ha8)); (clear ho8 hg8 ha8 c3_0 c3_1 o3 f3); (have o8 := HA.out.2.2.1); (have f8 := HA.out.2.2.2.1); (have l8 := HA.out.2.2.2.2)))
  obtain ⟨V, hV⟩ : ∃ V, w8.setCell ⟨w2.heap.size, 0, none⟩ (.slice A2 (n + 1) k2) = V := ⟨_, rfl⟩
  rw [hV]
  have M9 := Lib.hid (hV ▸ HA.out.1 : OMid X w2.heap.size (n + 1) A2 k2 q q.need (ls ++ [s]) w1.heap.size V)
  clear hV HA o8 f8 l8 b3 l3 M3 z3
  have hps : ∀ Z, OMid X w2.heap.size (n + 1) A2 k2 q q.need (ls ++ [s]) w1.heap.size Z → SpsAt Z A2 (n + 1) (ls ++ [s]) := fun Z hZ => sps_iff.2 (sl_of_own encS_len hZ.own (by simp [hll.out]))
  have hro : ∀ Z, OMid X w2.heap.size (n + 1) A2 k2 q q.need (ls ++ [s]) w1.heap.size Z → Calls Try.prog 12 #[.agg #[.slice A2 (n + 1) k2, .int .i64 q.need, .int .i64 q.gap, .int .i64 q.doubt, .int .i64 q.joins, .int .i64 q.least]] Z
      fun e Z' => e = .returned (.bool (rdyC (n + 1) (ls ++ [s]) q)) ∧ Below Z.heap.size Z Z' := fun Z hZ => ready_c A2 (n + 1) k2 q (ls ++ [s]) Z (hps Z hZ)
  cases ero : rdyC (n + 1) (ls ++ [s]) q
  · rw [ero] at hro
    replace hro := Lib.hid hro
    clear ero hps
    have b9 := M9.out.bel
    have c9_0 := fun j => (b9.cell (p := ⟨w.heap.size, j, none⟩) n0).trans (P0.out j)
    have c9_1 := fun j => (b9.cell (p := ⟨w.heap.size + 1, j, none⟩) n1).trans (P1.out j)
    have z9 := b9.size
    have o9 := M9.out.blk.cell
    have f9 := M9.out.blk.frozen
    have l9 := M9.out.blk.lt
    refine (hro.out _ M9.out).mono ?_
    rintro e w10 ⟨rfl, hb10⟩
    have M10 := Lib.hid (M9.out.later hb10)
    clear hb10 c9_0 c9_1 b9 o9 f9 l9 z9 M9
    have b10 := M10.out.bel
    have c10_0 := fun j => (b10.cell (p := ⟨w.heap.size, j, none⟩) n0).trans (P0.out j)
    have c10_1 := fun j => (b10.cell (p := ⟨w.heap.size + 1, j, none⟩) n1).trans (P1.out j)
    have z10 := b10.size
    have o10 := M10.out.blk.cell
    have f10 := M10.out.blk.frozen
    have l10 := M10.out.blk.lt
    go_wp2_with fail
    refine (hwk.out _).mono ?_
    rintro e w99 ⟨rfl, hb99⟩
    go_wp2
    go_ret
    exact ⟨rfl, BX.trans (Below.mono (b10.trans (hb99.mono z10)) zw)⟩
  obtain ⟨-, hck'⟩ := rdyC_len ero
  rw [ero] at hro
  have hfo : ∀ Z, OMid X w2.heap.size (n + 1) A2 k2 q q.need (ls ++ [s]) w1.heap.size Z → Calls Try.prog 17 #[.agg #[.slice A2 (n + 1) k2, .int .i64 q.need, .int .i64 q.gap, .int .i64 q.doubt, .int .i64 q.joins, .int .i64 q.least]] Z
      fun e Z' => e = .returned (.tuple #[.int .i64 ((plC (n + 1) (ls ++ [s]) q).length : Nat), .int .i64 (erS (n + 1) (ls ++ [s]) q)]) ∧ Below Z.heap.size Z Z' := fun Z hZ => fewest_c A2 (n + 1) k2 q (ls ++ [s]) Z (by omega) HQ.out (hps Z hZ)
  have hgo : ∀ Z, OMid X w2.heap.size (n + 1) A2 k2 q q.need (ls ++ [s]) w1.heap.size Z → Calls Try.prog 28 #[.agg #[.slice A2 (n + 1) k2, .int .i64 q.need, .int .i64 q.gap, .int .i64 q.doubt, .int .i64 q.joins, .int .i64 q.least], .slice B m d] Z
      fun e Z' => e = .returned (.tuple #[.bool (gvG (n + 1) m (ls ++ [s]) q l), .int .i64 (gvE (n + 1) m (ls ++ [s]) q l)]) ∧ Below Z.heap.size Z Z' := fun Z hZ => Good_c A2 B (n + 1) k2 m d q (ls ++ [s]) l Z (by omega) hm40 HQ.out (hps Z hZ) (HXI.out.later (BX.trans (hZ.bel.mono zw)))
  have hgc : ∀ Z, Below w.heap.size w Z → Calls Try.prog 28 #[.agg #[.slice A n c, .int .i64 q.need, .int .i64 q.gap, .int .i64 q.doubt, .int .i64 q.joins, .int .i64 q.least], .slice B m d] Z fun e Z' => e = .returned (.tuple #[.bool (gvG n m ls q l), .int .i64 (gvE n m ls q l)]) ∧ Below Z.heap.size Z Z' := fun Z hZ =>
    Good_c A B n c m d q ls l Z (by omega) hm40 HQ.out (HLI.out.later hZ) (HXI.out.later hZ)
  have hpl : ∀ Z, Below w.heap.size w Z → Calls Try.prog 29 #[.agg #[.slice A n c, .int .i64 q.need, .int .i64 q.gap, .int .i64 q.doubt, .int .i64 q.joins, .int .i64 q.least]] Z (LiRet (plC n ls q) (erS n ls q) Z) := fun Z hZ => Plan_c A n c q ls Z (by omega) HQ.out (HLI.out.later hZ)
  have hir : ∀ Z, Below w.heap.size w Z → Calls Try.prog 26 #[.agg #[.slice A n c, .int .i64 q.need, .int .i64 q.gap, .int .i64 q.doubt, .int .i64 q.joins, .int .i64 q.least], .slice B m d] Z fun e Z' => e = .returned (.bool (isR n m l)) ∧ Below Z.heap.size Z Z' := fun Z hZ =>
    IsRepair_c A B n c m d q l Z (by omega) hm40 (HXI.out.later hZ)
  have hin : ∀ Z, Below w.heap.size w Z → Calls Try.prog 27 #[.slice B m d, .int .i64 ((n : Int) - 1)] Z fun e Z' => e = .returned (.bool (anyN m fun k => iAt l k == ((n : Int) - 1))) ∧ Z = Z' := fun Z hZ =>
    In_c B m d _ l Z hm40 (HXI.out.later hZ)
  have hk0 := isKnown_c 0
  have hk3 := isKnown_c 3
  rw [show isKn 0 = true from rfl] at hk0
  rw [show isKn 3 = true from rfl] at hk3
  have hpln : (plC n ls q).length ≤ 40 := by
    have h := HCK.out
    unfold plC
    rw [h]
    cases shL q ls n with
    | nil => simp
    | cons y r =>
      show (memN y n).length ≤ 40
      rw [← selN_true]
      have := selN_len y n true
      omega
  have HV := Lib.hid (long_vals HCK.out hck' hll.out HN0.out hnd)
  have HG := Lib.hid (long_good (l := l) (m := m) HCK.out hck' hll.out HN0.out hnd)
  obtain ⟨L, hL⟩ : ∃ L, (plC n ls q).length = L := ⟨_, rfl⟩
  obtain ⟨L2, hL2⟩ : ∃ L, (plC (n + 1) (ls ++ [s]) q).length = L := ⟨_, rfl⟩
  obtain ⟨E, hE⟩ : ∃ E, erS n ls q = E := ⟨_, rfl⟩
  obtain ⟨E2, hE2⟩ : ∃ E, erS (n + 1) (ls ++ [s]) q = E := ⟨_, rfl⟩
  obtain ⟨R, hR⟩ : ∃ R, (anyN L fun k => iAt (ints (plC n ls q)) k == ((n : Int) - 1)) = R := ⟨_, rfl⟩
  have HV2 := HV.out
  rw [hL, hL2, hE, hE2, hR] at HV2
  rw [hL2, hE2] at hfo
  have hpl' : ∀ Z, Below w.heap.size w Z → Calls Try.prog 29 #[.agg #[.slice A n c, .int .i64 q.need, .int .i64 q.gap, .int .i64 q.doubt, .int .i64 q.joins, .int .i64 q.least]] Z fun e Z' => ∃ A5 c5, e = .returned (.tuple #[.slice A5 L c5, .int .i64 E]) ∧ (∀ Z2, Below Z'.heap.size Z' Z2 → Calls Try.prog 27 #[.slice A5 L c5, .int .i64 ((n : Int) - 1)] Z2 fun e Z3 => e = .returned (.bool R) ∧ Z2 = Z3) ∧ Below Z.heap.size Z Z' := fun Z hZ =>
    (hpl Z hZ).mono fun e Z' ⟨A5, c5, h1, h2, h3⟩ => by
      rw [hL, hE] at h1
      rw [hL] at h2
      exact ⟨A5, c5, h1, fun Z2 hZ2 => by rw [← hR]; exact In_c A5 L c5 _ _ Z2 (by omega) (h2.later hZ2), h3⟩
  rw [hL] at hpln
  replace hro := Lib.hid hro
  replace hfo := Lib.hid hfo
  replace hpl' := Lib.hid hpl'
  replace hk0 := Lib.hid hk0
  replace hk3 := Lib.hid hk3
  replace HV2 := Lib.hid HV2
  clear HV hL hL2 hE hE2 hR hpl hps ero hck'
  have hw3 : isR n m l = false ∨ isR n m l = true ∧ ((anyN m fun k => iAt l k == ((n : Int) - 1)) = true ∨ (anyN m fun k => iAt l k == ((n : Int) - 1)) = false) := by
    cases isR n m l
    · exact .inl rfl
    · right; refine ⟨rfl, ?_⟩
      cases (anyN m fun k => iAt l k == ((n : Int) - 1)) <;> simp
  rcases hw3 with h1 | ⟨h1, h2 | h2⟩
  · rw [h1] at hir
    replace hir := Lib.hid hir
    clear h1 hin hgo hgc HG
    have b9 := M9.out.bel
    have c9_0 := fun j => (b9.cell (p := ⟨w.heap.size, j, none⟩) n0).trans (P0.out j)
    have c9_1 := fun j => (b9.cell (p := ⟨w.heap.size + 1, j, none⟩) n1).trans (P1.out j)
    have z9 := b9.size
    have o9 := M9.out.blk.cell
    have f9 := M9.out.blk.frozen
    have l9 := M9.out.blk.lt
    refine (hro.out _ M9.out).mono ?_
    rintro e w10 ⟨rfl, hb10⟩
    have M10 := Lib.hid (M9.out.later hb10)
    clear hb10 c9_0 c9_1 b9 o9 f9 l9 z9 M9
    have b10 := M10.out.bel
    have c10_0 := fun j => (b10.cell (p := ⟨w.heap.size, j, none⟩) n0).trans (P0.out j)
    have c10_1 := fun j => (b10.cell (p := ⟨w.heap.size + 1, j, none⟩) n1).trans (P1.out j)
    have z10 := b10.size
    have o10 := M10.out.blk.cell
    have f10 := M10.out.blk.frozen
    have l10 := M10.out.blk.lt
    go_wp2_with fail
    refine (hir.out _ (BX.trans (b10.mono zw))).mono ?_
    rintro e w11 ⟨rfl, hb11⟩
    have M11 := Lib.hid (M10.out.later hb11)
    clear hb11 c10_0 c10_1 b10 o10 f10 l10 z10 M10
    have b11 := M11.out.bel
    have c11_0 := fun j => (b11.cell (p := ⟨w.heap.size, j, none⟩) n0).trans (P0.out j)
    have c11_1 := fun j => (b11.cell (p := ⟨w.heap.size + 1, j, none⟩) n1).trans (P1.out j)
    have z11 := b11.size
    have o11 := M11.out.blk.cell
    have f11 := M11.out.blk.frozen
    have l11 := M11.out.blk.lt
    go_wp2_with fail
    rcases HV2.out with ⟨rfl, rfl | rfl⟩ | ⟨rfl, ⟨rfl, rfl | rfl⟩ | ⟨rfl, rfl, hle⟩⟩
    all_goals
      refine (hpl'.out _ (BX.trans (b11.mono zw))).mono ?_
      rintro e w12 ⟨A5, c5, rfl, hI, hb12⟩
      have HI5 := Lib.hid hI
      have M12 := Lib.hid (M11.out.later hb12)
      have kp12 := Lib.hid hb12
      clear hI hb12 c11_0 c11_1 b11 o11 f11 l11 z11 M11
      have b12 := M12.out.bel
      have c12_0 := fun j => (b12.cell (p := ⟨w.heap.size, j, none⟩) n0).trans (P0.out j)
      have c12_1 := fun j => (b12.cell (p := ⟨w.heap.size + 1, j, none⟩) n1).trans (P1.out j)
      have z12 := b12.size
      have o12 := M12.out.blk.cell
      have f12 := M12.out.blk.frozen
      have l12 := M12.out.blk.lt
      go_wp2_with fail
      refine (hfo.out _ M12.out).mono ?_
      rintro e w13 ⟨rfl, hb13⟩
      have M13 := Lib.hid (M12.out.later hb13)
      have HI6 := Lib.hid (HI5.out w13 hb13)
      clear hb13 c12_0 c12_1 b12 o12 f12 l12 z12 M12
      have b13 := M13.out.bel
      have c13_0 := fun j => (b13.cell (p := ⟨w.heap.size, j, none⟩) n0).trans (P0.out j)
      have c13_1 := fun j => (b13.cell (p := ⟨w.heap.size + 1, j, none⟩) n1).trans (P1.out j)
      have z13 := b13.size
      have o13 := M13.out.blk.cell
      have f13 := M13.out.blk.frozen
      have l13 := M13.out.blk.lt
      go_wp2_with (first | (go_at_call 20; first | (with_reducible refine (hk0.out _).mono ?_; rintro e w' ⟨rfl, rfl⟩) | (with_reducible refine (hk3.out _).mono ?_; rintro e w' ⟨rfl, rfl⟩)) | (go_at_call 27; refine HI6.out.mono ?_; rintro e w' ⟨rfl, rfl⟩))
      refine (hwk.out _).mono ?_
      rintro e w99 ⟨rfl, hb99⟩
      go_wp2
      go_ret
      exact ⟨rfl, BX.trans (Below.mono (b13.trans (hb99.mono z13)) zw)⟩
  · rw [h1] at hir
    rw [h2] at hin
    replace hir := Lib.hid hir
    replace hin := Lib.hid hin
    clear h1 h2 hgo hgc HG
    have b9 := M9.out.bel
    have c9_0 := fun j => (b9.cell (p := ⟨w.heap.size, j, none⟩) n0).trans (P0.out j)
    have c9_1 := fun j => (b9.cell (p := ⟨w.heap.size + 1, j, none⟩) n1).trans (P1.out j)
    have z9 := b9.size
    have o9 := M9.out.blk.cell
    have f9 := M9.out.blk.frozen
    have l9 := M9.out.blk.lt
    refine (hro.out _ M9.out).mono ?_
    rintro e w10 ⟨rfl, hb10⟩
    have M10 := Lib.hid (M9.out.later hb10)
    clear hb10 c9_0 c9_1 b9 o9 f9 l9 z9 M9
    have b10 := M10.out.bel
    have c10_0 := fun j => (b10.cell (p := ⟨w.heap.size, j, none⟩) n0).trans (P0.out j)
    have c10_1 := fun j => (b10.cell (p := ⟨w.heap.size + 1, j, none⟩) n1).trans (P1.out j)
    have z10 := b10.size
    have o10 := M10.out.blk.cell
    have f10 := M10.out.blk.frozen
    have l10 := M10.out.blk.lt
    go_wp2_with fail
    refine (hir.out _ (BX.trans (b10.mono zw))).mono ?_
    rintro e w11 ⟨rfl, hb11⟩
    have M11 := Lib.hid (M10.out.later hb11)
    clear hb11 c10_0 c10_1 b10 o10 f10 l10 z10 M10
    have b11 := M11.out.bel
    have c11_0 := fun j => (b11.cell (p := ⟨w.heap.size, j, none⟩) n0).trans (P0.out j)
    have c11_1 := fun j => (b11.cell (p := ⟨w.heap.size + 1, j, none⟩) n1).trans (P1.out j)
    have z11 := b11.size
    have o11 := M11.out.blk.cell
    have f11 := M11.out.blk.frozen
    have l11 := M11.out.blk.lt
    go_wp2_with (go_at_call 27; refine (hin.out _ (BX.trans (b11.mono zw))).mono ?_; rintro e w' ⟨rfl, rfl⟩)
    rcases HV2.out with ⟨rfl, rfl | rfl⟩ | ⟨rfl, ⟨rfl, rfl | rfl⟩ | ⟨rfl, rfl, hle⟩⟩
    all_goals
      refine (hpl'.out _ (BX.trans (b11.mono zw))).mono ?_
      rintro e w12 ⟨A5, c5, rfl, hI, hb12⟩
      have HI5 := Lib.hid hI
      have M12 := Lib.hid (M11.out.later hb12)
      have kp12 := Lib.hid hb12
      clear hI hb12 c11_0 c11_1 b11 o11 f11 l11 z11 M11
      have b12 := M12.out.bel
      have c12_0 := fun j => (b12.cell (p := ⟨w.heap.size, j, none⟩) n0).trans (P0.out j)
      have c12_1 := fun j => (b12.cell (p := ⟨w.heap.size + 1, j, none⟩) n1).trans (P1.out j)
      have z12 := b12.size
      have o12 := M12.out.blk.cell
      have f12 := M12.out.blk.frozen
      have l12 := M12.out.blk.lt
      go_wp2_with fail
      refine (hfo.out _ M12.out).mono ?_
      rintro e w13 ⟨rfl, hb13⟩
      have M13 := Lib.hid (M12.out.later hb13)
      have HI6 := Lib.hid (HI5.out w13 hb13)
      clear hb13 c12_0 c12_1 b12 o12 f12 l12 z12 M12
      have b13 := M13.out.bel
      have c13_0 := fun j => (b13.cell (p := ⟨w.heap.size, j, none⟩) n0).trans (P0.out j)
      have c13_1 := fun j => (b13.cell (p := ⟨w.heap.size + 1, j, none⟩) n1).trans (P1.out j)
      have z13 := b13.size
      have o13 := M13.out.blk.cell
      have f13 := M13.out.blk.frozen
      have l13 := M13.out.blk.lt
      go_wp2_with (first | (go_at_call 20; first | (with_reducible refine (hk0.out _).mono ?_; rintro e w' ⟨rfl, rfl⟩) | (with_reducible refine (hk3.out _).mono ?_; rintro e w' ⟨rfl, rfl⟩)) | (go_at_call 27; refine HI6.out.mono ?_; rintro e w' ⟨rfl, rfl⟩))
      refine (hwk.out _).mono ?_
      rintro e w99 ⟨rfl, hb99⟩
      go_wp2
      go_ret
      exact ⟨rfl, BX.trans (Below.mono (b13.trans (hb99.mono z13)) zw)⟩
  · obtain ⟨e1, e2, e3⟩ := HG.out h1 h2
    rw [h1] at hir
    rw [h2] at hin
    rw [e1] at hgc
    rw [e2] at hgo
    obtain ⟨ga, hga⟩ : ∃ a, gvG n m ls q l = a := ⟨_, rfl⟩
    obtain ⟨gb, hgb⟩ : ∃ a, gvG (n + 1) m (ls ++ [s]) q l = a := ⟨_, rfl⟩
    rw [hga, hgb] at e3
    rw [hga] at hgc
    rw [hgb] at hgo
    have hab : ga = false ∨ ga = true ∧ gb = true := by
      cases ga
      · exact .inl rfl
      · exact .inr ⟨rfl, e3 rfl⟩
    replace hir := Lib.hid hir
    replace hin := Lib.hid hin
    replace hgc := Lib.hid hgc
    replace hgo := Lib.hid hgo
    clear h1 h2 HG hga hgb e1 e2 e3
    have b9 := M9.out.bel
    have c9_0 := fun j => (b9.cell (p := ⟨w.heap.size, j, none⟩) n0).trans (P0.out j)
    have c9_1 := fun j => (b9.cell (p := ⟨w.heap.size + 1, j, none⟩) n1).trans (P1.out j)
    have z9 := b9.size
    have o9 := M9.out.blk.cell
    have f9 := M9.out.blk.frozen
    have l9 := M9.out.blk.lt
    refine (hro.out _ M9.out).mono ?_
    rintro e w10 ⟨rfl, hb10⟩
    have M10 := Lib.hid (M9.out.later hb10)
    clear hb10 c9_0 c9_1 b9 o9 f9 l9 z9 M9
    have b10 := M10.out.bel
    have c10_0 := fun j => (b10.cell (p := ⟨w.heap.size, j, none⟩) n0).trans (P0.out j)
    have c10_1 := fun j => (b10.cell (p := ⟨w.heap.size + 1, j, none⟩) n1).trans (P1.out j)
    have z10 := b10.size
    have o10 := M10.out.blk.cell
    have f10 := M10.out.blk.frozen
    have l10 := M10.out.blk.lt
    go_wp2_with fail
    refine (hir.out _ (BX.trans (b10.mono zw))).mono ?_
    rintro e w11 ⟨rfl, hb11⟩
    have M11 := Lib.hid (M10.out.later hb11)
    clear hb11 c10_0 c10_1 b10 o10 f10 l10 z10 M10
    have b11 := M11.out.bel
    have c11_0 := fun j => (b11.cell (p := ⟨w.heap.size, j, none⟩) n0).trans (P0.out j)
    have c11_1 := fun j => (b11.cell (p := ⟨w.heap.size + 1, j, none⟩) n1).trans (P1.out j)
    have z11 := b11.size
    have o11 := M11.out.blk.cell
    have f11 := M11.out.blk.frozen
    have l11 := M11.out.blk.lt
    go_wp2_with (go_at_call 27; refine (hin.out _ (BX.trans (b11.mono zw))).mono ?_; rintro e w' ⟨rfl, rfl⟩)
    refine (hgc.out _ (BX.trans (b11.mono zw))).mono ?_
    rintro e w12 ⟨rfl, hb12⟩
    have M12 := Lib.hid (M11.out.later hb12)
    clear hb12 c11_0 c11_1 b11 o11 f11 l11 z11 M11
    have b12 := M12.out.bel
    have c12_0 := fun j => (b12.cell (p := ⟨w.heap.size, j, none⟩) n0).trans (P0.out j)
    have c12_1 := fun j => (b12.cell (p := ⟨w.heap.size + 1, j, none⟩) n1).trans (P1.out j)
    have z12 := b12.size
    have o12 := M12.out.blk.cell
    have f12 := M12.out.blk.frozen
    have l12 := M12.out.blk.lt
    go_wp2_with fail
    refine (hgo.out _ M12.out).mono ?_
    rintro e w13 ⟨rfl, hb13⟩
    have M13 := Lib.hid (M12.out.later hb13)
    clear hb13 c12_0 c12_1 b12 o12 f12 l12 z12 M12
    have b13 := M13.out.bel
    have c13_0 := fun j => (b13.cell (p := ⟨w.heap.size, j, none⟩) n0).trans (P0.out j)
    have c13_1 := fun j => (b13.cell (p := ⟨w.heap.size + 1, j, none⟩) n1).trans (P1.out j)
    have z13 := b13.size
    have o13 := M13.out.blk.cell
    have f13 := M13.out.blk.frozen
    have l13 := M13.out.blk.lt
    rcases hab with rfl | ⟨rfl, rfl⟩
    all_goals
      go_wp2_with fail
      rcases HV2.out with ⟨rfl, rfl | rfl⟩ | ⟨rfl, ⟨rfl, rfl | rfl⟩ | ⟨rfl, rfl, hle⟩⟩
      all_goals
        refine (hpl'.out _ (BX.trans (b13.mono zw))).mono ?_
        rintro e w14 ⟨A5, c5, rfl, hI, hb14⟩
        have HI5 := Lib.hid hI
        have M14 := Lib.hid (M13.out.later hb14)
        have kp14 := Lib.hid hb14
        clear hI hb14 c13_0 c13_1 b13 o13 f13 l13 z13 M13
        have b14 := M14.out.bel
        have c14_0 := fun j => (b14.cell (p := ⟨w.heap.size, j, none⟩) n0).trans (P0.out j)
        have c14_1 := fun j => (b14.cell (p := ⟨w.heap.size + 1, j, none⟩) n1).trans (P1.out j)
        have z14 := b14.size
        have o14 := M14.out.blk.cell
        have f14 := M14.out.blk.frozen
        have l14 := M14.out.blk.lt
        go_wp2_with fail
        refine (hfo.out _ M14.out).mono ?_
        rintro e w15 ⟨rfl, hb15⟩
        have M15 := Lib.hid (M14.out.later hb15)
        have HI6 := Lib.hid (HI5.out w15 hb15)
        clear hb15 c14_0 c14_1 b14 o14 f14 l14 z14 M14
        have b15 := M15.out.bel
        have c15_0 := fun j => (b15.cell (p := ⟨w.heap.size, j, none⟩) n0).trans (P0.out j)
        have c15_1 := fun j => (b15.cell (p := ⟨w.heap.size + 1, j, none⟩) n1).trans (P1.out j)
        have z15 := b15.size
        have o15 := M15.out.blk.cell
        have f15 := M15.out.blk.frozen
        have l15 := M15.out.blk.lt
        go_wp2_with (first | (go_at_call 20; first | (with_reducible refine (hk0.out _).mono ?_; rintro e w' ⟨rfl, rfl⟩) | (with_reducible refine (hk3.out _).mono ?_; rintro e w' ⟨rfl, rfl⟩)) | (go_at_call 27; refine HI6.out.mono ?_; rintro e w' ⟨rfl, rfl⟩))
        refine (hwk.out _).mono ?_
        rintro e w99 ⟨rfl, hb99⟩
        go_wp2
        go_ret
        exact ⟨rfl, BX.trans (Below.mono (b15.trans (hb99.mono z15)) zw)⟩

end Go.Proofs.Ythjjakhmbgnnnaa
