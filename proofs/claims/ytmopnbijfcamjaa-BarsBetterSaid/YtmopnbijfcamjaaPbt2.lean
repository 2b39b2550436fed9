/- BarsBetter (layer 1): the walk. -/
import Derived.Deep.DeepCutAuto
import Derived.Test.YtmopnbijfcamjaaPbt1
import Derived.Test.YtmopnbijfcamjaaIb1
namespace Go.Proofs.Ytmopnbijfcamjaa
open Go.RowKit
open Go.Sort (grow)
set_option linter.unusedVariables false

/-- the two stores behind what is read better -/
def CutH (X : World) (nb np : Nat) (kf wrg wa : Int) (bs : List Br) (ps : List Pc) (ms1 : List Pm) (g4 g5 : Nat) (A1 : Option Addr) (c1 : Nat) (A2 : Option Addr) (c2 : Nat) (A3 : Option Addr) (c3 : Nat) (A4 : Option Addr) (c4 : Nat) (wx : World) : Prop :=
  Blk wx g4 25 #[.slice A1 nb c1, .int .i64 kf, .slice A2 np c2, .int .i64 wa] ∧ Blk wx g5 25 #[.slice A3 nb c3, .int .i64 kf, .slice A4 np c4, .int .i64 wrg] ∧ BrsAt wx A1 nb bs ∧ PcsAt wx A2 np ms1 ps ∧ BrsAt wx A3 nb bs ∧
    (∃ ms2 ps2, PcsAt wx A4 np ms2 ps2 ∧ ckS bs ps2 kf wrg = true ∧ Ins bs ps2 kf wrg ps wrg ∧ ∀ k, k < np → (pcAt ps2 k).hs.length ≤ 40) ∧ Below X.heap.size X wx
set_option maxRecDepth 100000 in
set_option maxHeartbeats 6400000 in
theorem BetterMain_c (Ab Ap : Option Addr) (nb cb np cp : Nat) (kf wrg yp yh yl xa xb xr xl : Int) (bs : List Br) (ms : List Pm) (ps : List Pc) (w : World) (HB : BrsAt w Ab nb bs) (HP : PcsAt w Ap np ms ps) (er : rdyS bs ps kf wrg nb np = true) (hy0 : ¬ yl < 0) (hy1 : ¬ wrg < yl)
    (hrd : Hid (∀ Z, Below w.heap.size w Z → Calls Try.prog 13 #[.agg #[.slice Ab nb cb, .int .i64 kf, .slice Ap np cp, .int .i64 wrg]] Z fun e Z' => e = .returned (.bool true) ∧ Below Z.heap.size Z Z')) :
    Calls Try.prog 8 #[.agg #[.slice Ab nb cb, .int .i64 kf, .slice Ap np cp, .int .i64 wrg], .agg #[.int .i64 yp, .int .i64 yh, .int .i64 yl], .agg #[.int .i64 xa, .int .i64 xb, .int .i64 xr, .int .i64 xl]] w fun e w' => e = .returned (.bool true) ∧ Below w.heap.size w w' := by
  have hwk := Lib.hid works_c
  obtain ⟨hn4, hp5, h3, hck⟩ := rdyS_ok er
  have h1 : nb ≤ 40 := by omega
  have h2 : np ≤ 40 := by omega
  obtain ⟨F1, F2, F3⟩ := few_law hck
  have hfe : ∀ V, Below w.heap.size w V → Calls Try.prog 35 #[.agg #[.slice Ab nb cb, .int .i64 kf, .slice Ap np cp, .int .i64 wrg]] V fun e V' => e = .returned (.tuple #[.int .i64 (fewP bs ps kf wrg).1, .int .i64 (fewP bs ps kf wrg).2]) ∧ Below V.heap.size V V' := fun V hV =>
    fewest_c Ab Ap nb cb np cp kf wrg bs ms ps V h1 h2 h3 (HB.later hV) (HP.later hV)
  have hma : ∀ V, Below w.heap.size w V → Calls Try.prog 17 #[.agg #[.slice Ab nb cb, .int .i64 kf, .slice Ap np cp, .int .i64 wrg]] V fun e V' => e = .returned (.tuple #[.int .i64 (manyR bs ps kf wrg), .int .i64 (askE bs ps kf wrg true)]) ∧ Below V.heap.size V V' := fun V hV =>
    many_c Ab Ap nb cb np cp kf wrg bs ms ps V h1 h2 h3 (HB.later hV) (HP.later hV)
  obtain ⟨mv, hmv⟩ : ∃ P, manyR bs ps kf wrg = P := ⟨_, rfl⟩
  obtain ⟨me, hme⟩ : ∃ P, askE bs ps kf wrg true = P := ⟨_, rfl⟩
  obtain ⟨fv, hfv⟩ : ∃ P, (fewP bs ps kf wrg).1 = P := ⟨_, rfl⟩
  obtain ⟨fe, hfeE⟩ : ∃ P, (fewP bs ps kf wrg).2 = P := ⟨_, rfl⟩
  rw [hmv, hme] at hma
  rw [hfv, hfeE] at hfe
  rw [hme, hfv, hfeE] at F3
  rw [hme] at F1
  rw [hfeE] at F2
  have HF : Hid ((me = 0 ∧ fe = 0 ∧ decide (fv ≤ wrg) = true) ∨ (me = 3 ∧ fe = 3) ∨ (me = 3 ∧ fe = 0 ∧ decide (fv ≤ wrg) = false)) := Lib.hid (by
    rcases F1 with rfl | rfl
    · obtain ⟨a, b⟩ := F3.1 rfl
      exact .inl ⟨rfl, a, by simpa using b⟩
    · rcases F2 with rfl | rfl
      · refine .inr (.inr ⟨rfl, rfl, ?_⟩)
        by_cases h : fv ≤ wrg
        · have := F3.2 ⟨rfl, h⟩
          omega
        · simpa using h
      · exact .inr (.inl ⟨rfl, rfl⟩))
  replace hma := Lib.hid hma
  replace hfe := Lib.hid hfe
  have ik0 : ∀ V : World, Calls Try.prog 18 #[.int .i64 0] V fun x V' => x = .returned (.bool true) ∧ V = V' := fun V => isKnown_c 0 V
  have ik3 : ∀ V : World, Calls Try.prog 18 #[.int .i64 3] V fun x V' => x = .returned (.bool true) ∧ V = V' := fun V => isKnown_c 3 V
  replace ik0 := Lib.hid ik0
  replace ik3 := Lib.hid ik3
  have HBI := Lib.hid HB
  have HPI := Lib.hid HP
  have H3 := Lib.hid h3
  have HCK := Lib.hid hck
  have HBL := Lib.hid HB.1
  have HPL := Lib.hid HP.pl
  have t0 : decide (yl < 0) = false := by simpa using hy0
  have t1 : decide (wrg < yl) = false := by simpa using hy1
  have HY := Lib.hid (show 0 ≤ yl ∧ yl ≤ wrg by omega)
  clear er HB HP h3 hck hmv hme hfv hfeE F1 F2 F3 hy0 hy1
  go_enter Try.func8, Try.ntmps8
  go_wp2_with fail
  obtain ⟨X, hX⟩ : ∃ X, ((w.alloc (.cells #[.slice Ab nb cb, .int .i64 kf, .slice Ap np cp, .int .i64 wrg] 25)).alloc (.cells #[.int .i64 yp, .int .i64 yh, .int .i64 yl] 63)).alloc (.cells #[.int .i64 xa, .int .i64 xb, .int .i64 xr, .int .i64 xl] 49) = X := ⟨_, rfl⟩
  rw [hX]
  have BX : Below w.heap.size w X := (al3 hX).1
  have zX : X.heap.size = w.heap.size + 3 := (al3 hX).2
  have P0 := Lib.hid (al3_0 hX).2.1
  have P1 := Lib.hid (al3_1 hX).2.1
  have P2 := Lib.hid (al3_2 hX).2.1
  have zw : w.heap.size ≤ X.heap.size := by omega
  have n0 : w.heap.size < X.heap.size := by omega
  have n1 : w.heap.size + 1 < X.heap.size := by omega
  have n2 : w.heap.size + 1 + 1 < X.heap.size := by omega
  clear hX
  refine (hrd.out X BX).mono ?_
  rintro e w1 ⟨rfl, b1⟩
  have D := Lib.hid (fun V (h : Below X.heap.size X V) => BX.trans (h.mono zw))
  have c1_0 := fun j => (b1.cell (p := ⟨w.heap.size, j, none⟩) n0).trans (P0.out j)
  have c1_1 := fun j => (b1.cell (p := ⟨w.heap.size + 1, j, none⟩) n1).trans (P1.out j)
  have c1_2 := fun j => (b1.cell (p := ⟨w.heap.size + 1 + 1, j, none⟩) n2).trans (P2.out j)
  have z1 := b1.size
  go_wp2_with fail
  refine (hfe.out _ (D.out _ b1)).mono ?_
  rintro e w2 ⟨rfl, hb2⟩
  have b2 : Below X.heap.size X w2 := b1.trans (hb2.mono z1)
  clear hb2 c1_0 c1_1 c1_2 t0 t1
  have c2_0 := fun j => (b2.cell (p := ⟨w.heap.size, j, none⟩) n0).trans (P0.out j)
  have c2_1 := fun j => (b2.cell (p := ⟨w.heap.size + 1, j, none⟩) n1).trans (P1.out j)
  have c2_2 := fun j => (b2.cell (p := ⟨w.heap.size + 1 + 1, j, none⟩) n2).trans (P2.out j)
  have z2 := b2.size
  go_wp2_with fail
  refine (hma.out _ (D.out _ b2)).mono ?_
  rintro e w3 ⟨rfl, hb3⟩
  have b3 : Below X.heap.size X w3 := b2.trans (hb3.mono z2)
  clear hb3 c2_0 c2_1 c2_2
  have c3_0 := fun j => (b3.cell (p := ⟨w.heap.size, j, none⟩) n0).trans (P0.out j)
  have c3_1 := fun j => (b3.cell (p := ⟨w.heap.size + 1, j, none⟩) n1).trans (P1.out j)
  have c3_2 := fun j => (b3.cell (p := ⟨w.heap.size + 1 + 1, j, none⟩) n2).trans (P2.out j)
  have z3 := b3.size
  go_upto_region 5 with (fail)
  go_cut [62] (fun t wx => t = .bool false ∧ Below X.heap.size X wx)
  case first =>
    as_aux_lemma =>
      rcases HF.out with ⟨rfl, rfl, q⟩ | ⟨rfl, rfl⟩ | ⟨rfl, rfl, q⟩
      all_goals
        go_wp2_with (go_at_call 18; (first | (with_reducible refine (ik0.out _).mono ?_) | (with_reducible refine (ik3.out _).mono ?_)); rintro e w' ⟨rfl, rfl⟩)
        go_meet
        exact ⟨rfl, b3⟩
  case rest =>
    obtain ⟨rfl, hc4⟩ := hcut
    obtain ⟨w4, hw4⟩ : ∃ Z, wc = Z := ⟨_, rfl⟩
    rw [hw4] at hc4 ⊢
    have b4 := hc4
    clear hw4 hc4 c3_0 c3_1 c3_2 hfe hma ik0 ik3 HF
    have c4_0 := fun j => (b4.cell (p := ⟨w.heap.size, j, none⟩) n0).trans (P0.out j)
    have c4_1 := fun j => (b4.cell (p := ⟨w.heap.size + 1, j, none⟩) n1).trans (P1.out j)
    have c4_2 := fun j => (b4.cell (p := ⟨w.heap.size + 1 + 1, j, none⟩) n2).trans (P2.out j)
    have z4 := b4.size
    go_upto_region 7 with (fail)
    go_cut [11, 12] (fun a b wx => CutTwo X nb np kf wrg bs ps a b wx)
    case first =>
      as_aux_lemma =>
        have DW := Lib.hid (fun V (h : Below w4.heap.size w4 V) => D.out V (b4.trans (h.mono z4)))
        have m0 : w.heap.size < w4.heap.size := by omega
        have HSS : Hid (∀ W', Below w4.heap.size w4 W' → ∀ j, W'.cell? ⟨w.heap.size, j, none⟩ = #[Value.slice Ab nb cb, .int .i64 kf, .slice Ap np cp, .int .i64 wrg][j]?) := Lib.hid fun W' h j => (h.cell (p := ⟨w.heap.size, j, none⟩) m0).trans (c4_0 j)
        have T0' : Below w4.heap.size w4 w4.drew := Below.drew (Below.refl _ _)
        have hS := HSS.out _ T0'
        clear c4_0 c4_1 c4_2
        refine wp_region_L (by kernel_rfl) (fun W' => ∀ j, W'.cell? ⟨w.heap.size, j, none⟩ = #[Value.slice Ab nb cb, .int .i64 kf, .slice Ap np cp, .int .i64 wrg][j]?) 7 ?_
        refine wpAnyL_take (i := 0) (v := ?_) rfl (by kernel_rfl) (by kernel_rfl) (by kernel_rfl) (by kernel_rfl) (fun _ _ _ h => h) hS (Or.inl ⟨by rfl, ?_⟩) ?_
        rotate_left 1
        · intro w9 k0
          go_simp
          try with_reducible rfl
        simp only [List.getElem_toArray, List.getElem_cons_zero, Act.put, List.setIfInBounds_toArray, List.set_cons_zero, List.set_cons_succ]
        refine wpAnyL_take (i := 2) (v := ?_) rfl (by kernel_rfl) (by kernel_rfl) (by kernel_rfl) (by kernel_rfl) (fun _ _ _ h => h) hS (Or.inl ⟨by rfl, ?_⟩) ?_
        rotate_left 1
        · intro w9 k0
          go_simp
          try with_reducible rfl
        simp only [List.getElem_toArray, List.getElem_cons_zero, List.getElem_cons_succ, Act.put, List.setIfInBounds_toArray, List.set_cons_zero, List.set_cons_succ]
        obtain ⟨V0, hV0⟩ : ∃ Z, w4.drew = Z := ⟨_, rfl⟩
        have S0 : Hid (V0.heap.size = w4.heap.size) := Lib.hid (by rw [← hV0]; rfl)
        rw [hV0] at T0' ⊢
        have T0 := T0'
        clear hV0 hS T0'
        -- TREE
        refine wpAnyL_three (i := 1) (j := 4) (l := 5) (by kernel_rfl) rfl rfl rfl (fun K hK => ?_) (fun K hK => ?_) (fun K hK => ?_)
        · skip
          go_simp
          go_at_call 16
          refine (Copy_c Ab Ap nb cb np cp kf wrg bs ms ps V0 h1 h2 H3.out (HBI.out.later (DW.out V0 T0)) (HPI.out.later (DW.out V0 T0))).mono ?_
          rintro e V1 ⟨A1, c1, A2, c2, ms1, mid1, rfl, hO, B1⟩
          have T1 : Below w4.heap.size w4 V1 := T0.trans (B1.mono T0.size)
          have S1 := Lib.hid B1.size
          have Q1 := Lib.hid (Cop.of hO)
          clear hO
          refine hK.out _ _ (fun _ => HSS.out V1 T1) (fun hS' => ?_)
          clear hK K hS'
          try simp only [List.getElem_toArray, List.getElem_cons_zero, List.getElem_cons_succ, Act.put, List.setIfInBounds_toArray, List.set_cons_zero, List.set_cons_succ]
          refine wpAnyL_three (i := 3) (j := 4) (l := 5) (by kernel_rfl) rfl rfl rfl (fun K hK => ?_) (fun K hK => ?_) (fun K hK => ?_)
          · skip
            go_simp
            go_at_call 16
            refine (Copy_c Ab Ap nb cb np cp kf wrg bs ms ps V1 h1 h2 H3.out (HBI.out.later (DW.out V1 T1)) (HPI.out.later (DW.out V1 T1))).mono ?_
            rintro e V2 ⟨A3, c3, A4, c4, ms2, mid2, rfl, hO, B2⟩
            have T2 : Below w4.heap.size w4 V2 := T1.trans (B2.mono T1.size)
            have S2 := Lib.hid B2.size
            replace Q1 := Lib.hid (Q1.out.later B2)
            have Q2 := Lib.hid (Cop.of hO)
            clear hO
            refine hK.out _ _ (fun _ => HSS.out V2 T2) (fun hS' => ?_)
            clear hK K hS'
            try simp only [List.getElem_toArray, List.getElem_cons_zero, List.getElem_cons_succ, Act.put, List.setIfInBounds_toArray, List.set_cons_zero, List.set_cons_succ]
            refine wpAnyL_two (i := 4) (j := 5) (by kernel_rfl) rfl rfl (fun K hK => ?_) (fun K hK => ?_)
            · skip
              go_simp
              obtain ⟨V3, hV3⟩ : ∃ Z, V2.alloc (.cells #[.slice none 0 0, .int .i64 0, .slice none 0 0, .int .i64 0] 25) = Z := ⟨_, rfl⟩
              rw [hV3]
              have B3 : Below V2.heap.size V2 V3 := (al1 hV3).1
              have S3 := Lib.hid (al1 hV3).2
              have T3 : Below w4.heap.size w4 V3 := T2.trans (B3.mono T2.size)
              replace Q1 := Lib.hid (Q1.out.later B3)
              replace Q2 := Lib.hid (Q2.out.later B3)
              have K4 : Hid (Blk V3 V2.heap.size 25 #[.slice none 0 0, .int .i64 0, .slice none 0 0, .int .i64 0]) := Lib.hid (by rw [← hV3]; exact Blk.new V2 _ _)
              clear hV3
              obtain ⟨g4, hg4⟩ : ∃ g, V2.heap.size = g := ⟨_, rfl⟩
              rw [hg4] at K4 ⊢
              replace hg4 := Lib.hid hg4
              refine hK.out _ _ (fun _ => HSS.out V3 T3) (fun hS' => ?_)
              clear hK K hS'
              try simp only [List.getElem_toArray, List.getElem_cons_zero, List.getElem_cons_succ, Act.put, List.setIfInBounds_toArray, List.set_cons_zero, List.set_cons_succ]
              refine wpAnyL_one (i := 5) (by kernel_rfl) rfl (fun K hK => ?_)
              go_simp
              obtain ⟨V4, hV4⟩ : ∃ Z, V3.alloc (.cells #[.slice none 0 0, .int .i64 0, .slice none 0 0, .int .i64 0] 25) = Z := ⟨_, rfl⟩
              rw [hV4]
              have B4 : Below V3.heap.size V3 V4 := (al1 hV4).1
              have S4 := Lib.hid (al1 hV4).2
              have T4 : Below w4.heap.size w4 V4 := T3.trans (B4.mono T3.size)
              replace K4 := Lib.hid (K4.out.below B4 K4.out.lt)
              replace Q1 := Lib.hid (Q1.out.later B4)
              replace Q2 := Lib.hid (Q2.out.later B4)
              have K5 : Hid (Blk V4 V3.heap.size 25 #[.slice none 0 0, .int .i64 0, .slice none 0 0, .int .i64 0]) := Lib.hid (by rw [← hV4]; exact Blk.new V3 _ _)
              clear hV4
              obtain ⟨g5, hg5⟩ : ∃ g, V3.heap.size = g := ⟨_, rfl⟩
              rw [hg5] at K5 ⊢
              replace hg5 := Lib.hid hg5
              refine hK.out _ _ (fun _ => HSS.out V4 T4) (fun hS' => ?_)
              clear hK K hS'
              try simp only [List.getElem_toArray, List.getElem_cons_zero, List.getElem_cons_succ, Act.put, List.setIfInBounds_toArray, List.set_cons_zero, List.set_cons_succ]
              have s0 := S0.out
              have s1 := S1.out
              have s2 := S2.out
              have s3 := S3.out
              have s4 := S4.out
              have j4 := hg4.out
              have j5 := hg5.out
              have ne45 : g4 ≠ g5 := by omega
              have y4 : g4 < V0.heap.size ∨ (V1.heap.size ≤ g4 ∧ g4 < V1.heap.size) ∨ V2.heap.size ≤ g4 := by omega
              have y5 : g5 < V0.heap.size ∨ (V1.heap.size ≤ g5 ∧ g5 < V1.heap.size) ∨ V2.heap.size ≤ g5 := by omega
              have x1 : X.heap.size ≤ V0.heap.size ∧ V0.heap.size ≤ V1.heap.size ∧ V1.heap.size ≤ V1.heap.size ∧ V1.heap.size ≤ V2.heap.size ∧ X.heap.size ≤ g4 ∧ X.heap.size ≤ g5 := by omega
              have w4g4 : w4.heap.size ≤ g4 := by omega
              have w4g5 : w4.heap.size ≤ g5 := by omega
              have z41 : g4 < V0.heap.size ∨ V1.heap.size ≤ g4 := by omega
              have z42 : g4 < V1.heap.size ∨ V2.heap.size ≤ g4 := by omega
              have z51 : g5 < V0.heap.size ∨ V1.heap.size ≤ g5 := by omega
              have z52 : g5 < V1.heap.size ∨ V2.heap.size ≤ g5 := by omega
              clear s0 s1 s2 s3 s4 j4 j5
              have k4 := K4.out.cell
              have f4 := K4.out.frozen
              refine wpAnyL_one (i := 6) (by kernel_rfl) rfl (fun K hK => ?_)
              go_simp
              obtain ⟨V6, hV6⟩ : ∃ Z, (((V4.setCell ⟨g4, 0, none⟩ (.slice A1 nb c1)).setCell ⟨g4, 1, none⟩ (.int .i64 kf)).setCell ⟨g4, 2, none⟩ (.slice A2 np c2)).setCell ⟨g4, 3, none⟩ (.int .i64 wrg) = Z := ⟨_, rfl⟩
              rw [hV6]
              have T6 : Below w4.heap.size w4 V6 := by rw [← hV6]; exact (((T4.setCell w4g4 _).setCell w4g4 _).setCell w4g4 _).setCell w4g4 _
              replace K4 : Hid (Blk V6 g4 25 #[.slice A1 nb c1, .int .i64 kf, .slice A2 np c2, .int .i64 wrg]) := Lib.hid (by rw [← hV6]; have h := (((K4.out.set_ 0 (.slice A1 nb c1)).set_ 1 (.int .i64 kf)).set_ 2 (.slice A2 np c2)).set_ 3 (.int .i64 wrg); simpa using h)
              replace K5 : Hid (Blk V6 g5 25 #[.slice none 0 0, .int .i64 0, .slice none 0 0, .int .i64 0]) := Lib.hid (by rw [← hV6]; exact (((K5.out.far (p := ⟨g4, 0, none⟩) (Ne.symm ne45) _).far (p := ⟨g4, 1, none⟩) (Ne.symm ne45) _).far (p := ⟨g4, 2, none⟩) (Ne.symm ne45) _).far (p := ⟨g4, 3, none⟩) (Ne.symm ne45) _)
              have R1 : Hid (Cop (V0.heap.size) (V1.heap.size) A1 c1 A2 c2 nb np bs ms1 ps V6) := Lib.hid (by rw [← hV6]; exact (((Q1.out.far (p := ⟨g4, 0, none⟩) z41 _).far (p := ⟨g4, 1, none⟩) z41 _).far (p := ⟨g4, 2, none⟩) z41 _).far (p := ⟨g4, 3, none⟩) z41 _)
              have R2 : Hid (Cop (V1.heap.size) (V2.heap.size) A3 c3 A4 c4 nb np bs ms2 ps V6) := Lib.hid (by rw [← hV6]; exact (((Q2.out.far (p := ⟨g4, 0, none⟩) z42 _).far (p := ⟨g4, 1, none⟩) z42 _).far (p := ⟨g4, 2, none⟩) z42 _).far (p := ⟨g4, 3, none⟩) z42 _)
              clear hV6 k4 f4 Q1 Q2
              refine hK.out _ _ (fun _ => HSS.out V6 T6) (fun hS' => ?_)
              clear hK K hS'
              have k5 := K5.out.cell
              have f5 := K5.out.frozen
              refine wpAnyL_one (i := 7) (by kernel_rfl) rfl (fun K hK => ?_)
              go_simp
              obtain ⟨V7, hV7⟩ : ∃ Z, (((V6.setCell ⟨g5, 0, none⟩ (.slice A3 nb c3)).setCell ⟨g5, 1, none⟩ (.int .i64 kf)).setCell ⟨g5, 2, none⟩ (.slice A4 np c4)).setCell ⟨g5, 3, none⟩ (.int .i64 wrg) = Z := ⟨_, rfl⟩
              rw [hV7]
              have T7 : Below w4.heap.size w4 V7 := by rw [← hV7]; exact (((T6.setCell w4g5 _).setCell w4g5 _).setCell w4g5 _).setCell w4g5 _
              replace K5 : Hid (Blk V7 g5 25 #[.slice A3 nb c3, .int .i64 kf, .slice A4 np c4, .int .i64 wrg]) := Lib.hid (by rw [← hV7]; have h := (((K5.out.set_ 0 (.slice A3 nb c3)).set_ 1 (.int .i64 kf)).set_ 2 (.slice A4 np c4)).set_ 3 (.int .i64 wrg); simpa using h)
              replace K4 : Hid (Blk V7 g4 25 #[.slice A1 nb c1, .int .i64 kf, .slice A2 np c2, .int .i64 wrg]) := Lib.hid (by rw [← hV7]; exact (((K4.out.far (p := ⟨g5, 0, none⟩) ne45 _).far (p := ⟨g5, 1, none⟩) ne45 _).far (p := ⟨g5, 2, none⟩) ne45 _).far (p := ⟨g5, 3, none⟩) ne45 _)
              replace R1 : Hid (Cop (V0.heap.size) (V1.heap.size) A1 c1 A2 c2 nb np bs ms1 ps V7) := Lib.hid (by rw [← hV7]; exact (((R1.out.far (p := ⟨g5, 0, none⟩) z51 _).far (p := ⟨g5, 1, none⟩) z51 _).far (p := ⟨g5, 2, none⟩) z51 _).far (p := ⟨g5, 3, none⟩) z51 _)
              replace R2 : Hid (Cop (V1.heap.size) (V2.heap.size) A3 c3 A4 c4 nb np bs ms2 ps V7) := Lib.hid (by rw [← hV7]; exact (((R2.out.far (p := ⟨g5, 0, none⟩) z52 _).far (p := ⟨g5, 1, none⟩) z52 _).far (p := ⟨g5, 2, none⟩) z52 _).far (p := ⟨g5, 3, none⟩) z52 _)
              clear hV7 k5 f5
              refine hK.out _ _ (fun h => absurd rfl h) (fun _ => ?_)
              refine wpAnyL_done (by kernel_rfl) ?_ _
              clear hK K
              go_wp2_with fail
              go_meet
              exact ⟨g4, g5, V0.heap.size, V1.heap.size, V1.heap.size, V2.heap.size, A1, c1, A2, c2, A3, c3, A4, c4, ms1, ms2, rfl, rfl, ⟨K4.out, K5.out, R1.out, R2.out, ne45, x1, y4, y5⟩, b4.trans (T7.mono z4)⟩
            · skip
              go_simp
              obtain ⟨V3, hV3⟩ : ∃ Z, V2.alloc (.cells #[.slice none 0 0, .int .i64 0, .slice none 0 0, .int .i64 0] 25) = Z := ⟨_, rfl⟩
              rw [hV3]
              have B3 : Below V2.heap.size V2 V3 := (al1 hV3).1
              have S3 := Lib.hid (al1 hV3).2
              have T3 : Below w4.heap.size w4 V3 := T2.trans (B3.mono T2.size)
              replace Q1 := Lib.hid (Q1.out.later B3)
              replace Q2 := Lib.hid (Q2.out.later B3)
              have K5 : Hid (Blk V3 V2.heap.size 25 #[.slice none 0 0, .int .i64 0, .slice none 0 0, .int .i64 0]) := Lib.hid (by rw [← hV3]; exact Blk.new V2 _ _)
              clear hV3
              obtain ⟨g5, hg5⟩ : ∃ g, V2.heap.size = g := ⟨_, rfl⟩
              rw [hg5] at K5 ⊢
              replace hg5 := Lib.hid hg5
              refine hK.out _ _ (fun _ => HSS.out V3 T3) (fun hS' => ?_)
              clear hK K hS'
              try simp only [List.getElem_toArray, List.getElem_cons_zero, List.getElem_cons_succ, Act.put, List.setIfInBounds_toArray, List.set_cons_zero, List.set_cons_succ]
              refine wpAnyL_one (i := 4) (by kernel_rfl) rfl (fun K hK => ?_)
              go_simp
              obtain ⟨V4, hV4⟩ : ∃ Z, V3.alloc (.cells #[.slice none 0 0, .int .i64 0, .slice none 0 0, .int .i64 0] 25) = Z := ⟨_, rfl⟩
              rw [hV4]
              have B4 : Below V3.heap.size V3 V4 := (al1 hV4).1
              have S4 := Lib.hid (al1 hV4).2
              have T4 : Below w4.heap.size w4 V4 := T3.trans (B4.mono T3.size)
              replace K5 := Lib.hid (K5.out.below B4 K5.out.lt)
              replace Q1 := Lib.hid (Q1.out.later B4)
              replace Q2 := Lib.hid (Q2.out.later B4)
              have K4 : Hid (Blk V4 V3.heap.size 25 #[.slice none 0 0, .int .i64 0, .slice none 0 0, .int .i64 0]) := Lib.hid (by rw [← hV4]; exact Blk.new V3 _ _)
              clear hV4
              obtain ⟨g4, hg4⟩ : ∃ g, V3.heap.size = g := ⟨_, rfl⟩
              rw [hg4] at K4 ⊢
              replace hg4 := Lib.hid hg4
              refine hK.out _ _ (fun _ => HSS.out V4 T4) (fun hS' => ?_)
              clear hK K hS'
              try simp only [List.getElem_toArray, List.getElem_cons_zero, List.getElem_cons_succ, Act.put, List.setIfInBounds_toArray, List.set_cons_zero, List.set_cons_succ]
              have s0 := S0.out
              have s1 := S1.out
              have s2 := S2.out
              have s3 := S3.out
              have s4 := S4.out
              have j4 := hg4.out
              have j5 := hg5.out
              have ne45 : g4 ≠ g5 := by omega
              have y4 : g4 < V0.heap.size ∨ (V1.heap.size ≤ g4 ∧ g4 < V1.heap.size) ∨ V2.heap.size ≤ g4 := by omega
              have y5 : g5 < V0.heap.size ∨ (V1.heap.size ≤ g5 ∧ g5 < V1.heap.size) ∨ V2.heap.size ≤ g5 := by omega
              have x1 : X.heap.size ≤ V0.heap.size ∧ V0.heap.size ≤ V1.heap.size ∧ V1.heap.size ≤ V1.heap.size ∧ V1.heap.size ≤ V2.heap.size ∧ X.heap.size ≤ g4 ∧ X.heap.size ≤ g5 := by omega
              have w4g4 : w4.heap.size ≤ g4 := by omega
              have w4g5 : w4.heap.size ≤ g5 := by omega
              have z41 : g4 < V0.heap.size ∨ V1.heap.size ≤ g4 := by omega
              have z42 : g4 < V1.heap.size ∨ V2.heap.size ≤ g4 := by omega
              have z51 : g5 < V0.heap.size ∨ V1.heap.size ≤ g5 := by omega
              have z52 : g5 < V1.heap.size ∨ V2.heap.size ≤ g5 := by omega
              clear s0 s1 s2 s3 s4 j4 j5
              have k4 := K4.out.cell
              have f4 := K4.out.frozen
              refine wpAnyL_one (i := 6) (by kernel_rfl) rfl (fun K hK => ?_)
              go_simp
              obtain ⟨V6, hV6⟩ : ∃ Z, (((V4.setCell ⟨g4, 0, none⟩ (.slice A1 nb c1)).setCell ⟨g4, 1, none⟩ (.int .i64 kf)).setCell ⟨g4, 2, none⟩ (.slice A2 np c2)).setCell ⟨g4, 3, none⟩ (.int .i64 wrg) = Z := ⟨_, rfl⟩
              rw [hV6]
              have T6 : Below w4.heap.size w4 V6 := by rw [← hV6]; exact (((T4.setCell w4g4 _).setCell w4g4 _).setCell w4g4 _).setCell w4g4 _
              replace K4 : Hid (Blk V6 g4 25 #[.slice A1 nb c1, .int .i64 kf, .slice A2 np c2, .int .i64 wrg]) := Lib.hid (by rw [← hV6]; have h := (((K4.out.set_ 0 (.slice A1 nb c1)).set_ 1 (.int .i64 kf)).set_ 2 (.slice A2 np c2)).set_ 3 (.int .i64 wrg); simpa using h)
              replace K5 : Hid (Blk V6 g5 25 #[.slice none 0 0, .int .i64 0, .slice none 0 0, .int .i64 0]) := Lib.hid (by rw [← hV6]; exact (((K5.out.far (p := ⟨g4, 0, none⟩) (Ne.symm ne45) _).far (p := ⟨g4, 1, none⟩) (Ne.symm ne45) _).far (p := ⟨g4, 2, none⟩) (Ne.symm ne45) _).far (p := ⟨g4, 3, none⟩) (Ne.symm ne45) _)
              have R1 : Hid (Cop (V0.heap.size) (V1.heap.size) A1 c1 A2 c2 nb np bs ms1 ps V6) := Lib.hid (by rw [← hV6]; exact (((Q1.out.far (p := ⟨g4, 0, none⟩) z41 _).far (p := ⟨g4, 1, none⟩) z41 _).far (p := ⟨g4, 2, none⟩) z41 _).far (p := ⟨g4, 3, none⟩) z41 _)
              have R2 : Hid (Cop (V1.heap.size) (V2.heap.size) A3 c3 A4 c4 nb np bs ms2 ps V6) := Lib.hid (by rw [← hV6]; exact (((Q2.out.far (p := ⟨g4, 0, none⟩) z42 _).far (p := ⟨g4, 1, none⟩) z42 _).far (p := ⟨g4, 2, none⟩) z42 _).far (p := ⟨g4, 3, none⟩) z42 _)
              clear hV6 k4 f4 Q1 Q2
              refine hK.out _ _ (fun _ => HSS.out V6 T6) (fun hS' => ?_)
              clear hK K hS'
              have k5 := K5.out.cell
              have f5 := K5.out.frozen
              refine wpAnyL_one (i := 7) (by kernel_rfl) rfl (fun K hK => ?_)
              go_simp
              obtain ⟨V7, hV7⟩ : ∃ Z, (((V6.setCell ⟨g5, 0, none⟩ (.slice A3 nb c3)).setCell ⟨g5, 1, none⟩ (.int .i64 kf)).setCell ⟨g5, 2, none⟩ (.slice A4 np c4)).setCell ⟨g5, 3, none⟩ (.int .i64 wrg) = Z := ⟨_, rfl⟩
              rw [hV7]
              have T7 : Below w4.heap.size w4 V7 := by rw [← hV7]; exact (((T6.setCell w4g5 _).setCell w4g5 _).setCell w4g5 _).setCell w4g5 _
              replace K5 : Hid (Blk V7 g5 25 #[.slice A3 nb c3, .int .i64 kf, .slice A4 np c4, .int .i64 wrg]) := Lib.hid (by rw [← hV7]; have h := (((K5.out.set_ 0 (.slice A3 nb c3)).set_ 1 (.int .i64 kf)).set_ 2 (.slice A4 np c4)).set_ 3 (.int .i64 wrg); simpa using h)
              replace K4 : Hid (Blk V7 g4 25 #[.slice A1 nb c1, .int .i64 kf, .slice A2 np c2, .int .i64 wrg]) := Lib.hid (by rw [← hV7]; exact (((K4.out.far (p := ⟨g5, 0, none⟩) ne45 _).far (p := ⟨g5, 1, none⟩) ne45 _).far (p := ⟨g5, 2, none⟩) ne45 _).far (p := ⟨g5, 3, none⟩) ne45 _)
              replace R1 : Hid (Cop (V0.heap.size) (V1.heap.size) A1 c1 A2 c2 nb np bs ms1 ps V7) := Lib.hid (by rw [← hV7]; exact (((R1.out.far (p := ⟨g5, 0, none⟩) z51 _).far (p := ⟨g5, 1, none⟩) z51 _).far (p := ⟨g5, 2, none⟩) z51 _).far (p := ⟨g5, 3, none⟩) z51 _)
              replace R2 : Hid (Cop (V1.heap.size) (V2.heap.size) A3 c3 A4 c4 nb np bs ms2 ps V7) := Lib.hid (by rw [← hV7]; exact (((R2.out.far (p := ⟨g5, 0, none⟩) z52 _).far (p := ⟨g5, 1, none⟩) z52 _).far (p := ⟨g5, 2, none⟩) z52 _).far (p := ⟨g5, 3, none⟩) z52 _)
              clear hV7 k5 f5
              refine hK.out _ _ (fun h => absurd rfl h) (fun _ => ?_)
              refine wpAnyL_done (by kernel_rfl) ?_ _
              clear hK K
              go_wp2_with fail
              go_meet
              exact ⟨g4, g5, V0.heap.size, V1.heap.size, V1.heap.size, V2.heap.size, A1, c1, A2, c2, A3, c3, A4, c4, ms1, ms2, rfl, rfl, ⟨K4.out, K5.out, R1.out, R2.out, ne45, x1, y4, y5⟩, b4.trans (T7.mono z4)⟩
          · skip
            go_simp
            obtain ⟨V2, hV2⟩ : ∃ Z, V1.alloc (.cells #[.slice none 0 0, .int .i64 0, .slice none 0 0, .int .i64 0] 25) = Z := ⟨_, rfl⟩
            rw [hV2]
            have B2 : Below V1.heap.size V1 V2 := (al1 hV2).1
            have S2 := Lib.hid (al1 hV2).2
            have T2 : Below w4.heap.size w4 V2 := T1.trans (B2.mono T1.size)
            replace Q1 := Lib.hid (Q1.out.later B2)
            have K4 : Hid (Blk V2 V1.heap.size 25 #[.slice none 0 0, .int .i64 0, .slice none 0 0, .int .i64 0]) := Lib.hid (by rw [← hV2]; exact Blk.new V1 _ _)
            clear hV2
            obtain ⟨g4, hg4⟩ : ∃ g, V1.heap.size = g := ⟨_, rfl⟩
            rw [hg4] at K4 ⊢
            replace hg4 := Lib.hid hg4
            refine hK.out _ _ (fun _ => HSS.out V2 T2) (fun hS' => ?_)
            clear hK K hS'
            try simp only [List.getElem_toArray, List.getElem_cons_zero, List.getElem_cons_succ, Act.put, List.setIfInBounds_toArray, List.set_cons_zero, List.set_cons_succ]
            refine wpAnyL_two (i := 3) (j := 5) (by kernel_rfl) rfl rfl (fun K hK => ?_) (fun K hK => ?_)
            · skip
              go_simp
              go_at_call 16
              refine (Copy_c Ab Ap nb cb np cp kf wrg bs ms ps V2 h1 h2 H3.out (HBI.out.later (DW.out V2 T2)) (HPI.out.later (DW.out V2 T2))).mono ?_
              rintro e V3 ⟨A3, c3, A4, c4, ms2, mid2, rfl, hO, B3⟩
              have T3 : Below w4.heap.size w4 V3 := T2.trans (B3.mono T2.size)
              have S3 := Lib.hid B3.size
              replace K4 := Lib.hid (K4.out.below B3 K4.out.lt)
              replace Q1 := Lib.hid (Q1.out.later B3)
              have Q2 := Lib.hid (Cop.of hO)
              clear hO
              refine hK.out _ _ (fun _ => HSS.out V3 T3) (fun hS' => ?_)
              clear hK K hS'
              try simp only [List.getElem_toArray, List.getElem_cons_zero, List.getElem_cons_succ, Act.put, List.setIfInBounds_toArray, List.set_cons_zero, List.set_cons_succ]
              refine wpAnyL_one (i := 5) (by kernel_rfl) rfl (fun K hK => ?_)
              go_simp
              obtain ⟨V4, hV4⟩ : ∃ Z, V3.alloc (.cells #[.slice none 0 0, .int .i64 0, .slice none 0 0, .int .i64 0] 25) = Z := ⟨_, rfl⟩
              rw [hV4]
              have B4 : Below V3.heap.size V3 V4 := (al1 hV4).1
              have S4 := Lib.hid (al1 hV4).2
              have T4 : Below w4.heap.size w4 V4 := T3.trans (B4.mono T3.size)
              replace K4 := Lib.hid (K4.out.below B4 K4.out.lt)
              replace Q1 := Lib.hid (Q1.out.later B4)
              replace Q2 := Lib.hid (Q2.out.later B4)
              have K5 : Hid (Blk V4 V3.heap.size 25 #[.slice none 0 0, .int .i64 0, .slice none 0 0, .int .i64 0]) := Lib.hid (by rw [← hV4]; exact Blk.new V3 _ _)
              clear hV4
              obtain ⟨g5, hg5⟩ : ∃ g, V3.heap.size = g := ⟨_, rfl⟩
              rw [hg5] at K5 ⊢
              replace hg5 := Lib.hid hg5
              refine hK.out _ _ (fun _ => HSS.out V4 T4) (fun hS' => ?_)
              clear hK K hS'
              try simp only [List.getElem_toArray, List.getElem_cons_zero, List.getElem_cons_succ, Act.put, List.setIfInBounds_toArray, List.set_cons_zero, List.set_cons_succ]
              have s0 := S0.out
              have s1 := S1.out
              have s2 := S2.out
              have s3 := S3.out
              have s4 := S4.out
              have j4 := hg4.out
              have j5 := hg5.out
              have ne45 : g4 ≠ g5 := by omega
              have y4 : g4 < V0.heap.size ∨ (V1.heap.size ≤ g4 ∧ g4 < V2.heap.size) ∨ V3.heap.size ≤ g4 := by omega
              have y5 : g5 < V0.heap.size ∨ (V1.heap.size ≤ g5 ∧ g5 < V2.heap.size) ∨ V3.heap.size ≤ g5 := by omega
              have x1 : X.heap.size ≤ V0.heap.size ∧ V0.heap.size ≤ V1.heap.size ∧ V1.heap.size ≤ V2.heap.size ∧ V2.heap.size ≤ V3.heap.size ∧ X.heap.size ≤ g4 ∧ X.heap.size ≤ g5 := by omega
              have w4g4 : w4.heap.size ≤ g4 := by omega
              have w4g5 : w4.heap.size ≤ g5 := by omega
              have z41 : g4 < V0.heap.size ∨ V1.heap.size ≤ g4 := by omega
              have z42 : g4 < V2.heap.size ∨ V3.heap.size ≤ g4 := by omega
              have z51 : g5 < V0.heap.size ∨ V1.heap.size ≤ g5 := by omega
              have z52 : g5 < V2.heap.size ∨ V3.heap.size ≤ g5 := by omega
              clear s0 s1 s2 s3 s4 j4 j5
              have k4 := K4.out.cell
              have f4 := K4.out.frozen
              refine wpAnyL_one (i := 6) (by kernel_rfl) rfl (fun K hK => ?_)
              go_simp
              obtain ⟨V6, hV6⟩ : ∃ Z, (((V4.setCell ⟨g4, 0, none⟩ (.slice A1 nb c1)).setCell ⟨g4, 1, none⟩ (.int .i64 kf)).setCell ⟨g4, 2, none⟩ (.slice A2 np c2)).setCell ⟨g4, 3, none⟩ (.int .i64 wrg) = Z := ⟨_, rfl⟩
              rw [hV6]
              have T6 : Below w4.heap.size w4 V6 := by rw [← hV6]; exact (((T4.setCell w4g4 _).setCell w4g4 _).setCell w4g4 _).setCell w4g4 _
              replace K4 : Hid (Blk V6 g4 25 #[.slice A1 nb c1, .int .i64 kf, .slice A2 np c2, .int .i64 wrg]) := Lib.hid (by rw [← hV6]; have h := (((K4.out.set_ 0 (.slice A1 nb c1)).set_ 1 (.int .i64 kf)).set_ 2 (.slice A2 np c2)).set_ 3 (.int .i64 wrg); simpa using h)
              replace K5 : Hid (Blk V6 g5 25 #[.slice none 0 0, .int .i64 0, .slice none 0 0, .int .i64 0]) := Lib.hid (by rw [← hV6]; exact (((K5.out.far (p := ⟨g4, 0, none⟩) (Ne.symm ne45) _).far (p := ⟨g4, 1, none⟩) (Ne.symm ne45) _).far (p := ⟨g4, 2, none⟩) (Ne.symm ne45) _).far (p := ⟨g4, 3, none⟩) (Ne.symm ne45) _)
              have R1 : Hid (Cop (V0.heap.size) (V1.heap.size) A1 c1 A2 c2 nb np bs ms1 ps V6) := Lib.hid (by rw [← hV6]; exact (((Q1.out.far (p := ⟨g4, 0, none⟩) z41 _).far (p := ⟨g4, 1, none⟩) z41 _).far (p := ⟨g4, 2, none⟩) z41 _).far (p := ⟨g4, 3, none⟩) z41 _)
              have R2 : Hid (Cop (V2.heap.size) (V3.heap.size) A3 c3 A4 c4 nb np bs ms2 ps V6) := Lib.hid (by rw [← hV6]; exact (((Q2.out.far (p := ⟨g4, 0, none⟩) z42 _).far (p := ⟨g4, 1, none⟩) z42 _).far (p := ⟨g4, 2, none⟩) z42 _).far (p := ⟨g4, 3, none⟩) z42 _)
              clear hV6 k4 f4 Q1 Q2
              refine hK.out _ _ (fun _ => HSS.out V6 T6) (fun hS' => ?_)
              clear hK K hS'
              have k5 := K5.out.cell
              have f5 := K5.out.frozen
              refine wpAnyL_one (i := 7) (by kernel_rfl) rfl (fun K hK => ?_)
              go_simp
              obtain ⟨V7, hV7⟩ : ∃ Z, (((V6.setCell ⟨g5, 0, none⟩ (.slice A3 nb c3)).setCell ⟨g5, 1, none⟩ (.int .i64 kf)).setCell ⟨g5, 2, none⟩ (.slice A4 np c4)).setCell ⟨g5, 3, none⟩ (.int .i64 wrg) = Z := ⟨_, rfl⟩
              rw [hV7]
              have T7 : Below w4.heap.size w4 V7 := by rw [← hV7]; exact (((T6.setCell w4g5 _).setCell w4g5 _).setCell w4g5 _).setCell w4g5 _
              replace K5 : Hid (Blk V7 g5 25 #[.slice A3 nb c3, .int .i64 kf, .slice A4 np c4, .int .i64 wrg]) := Lib.hid (by rw [← hV7]; have h := (((K5.out.set_ 0 (.slice A3 nb c3)).set_ 1 (.int .i64 kf)).set_ 2 (.slice A4 np c4)).set_ 3 (.int .i64 wrg); simpa using h)
              replace K4 : Hid (Blk V7 g4 25 #[.slice A1 nb c1, .int .i64 kf, .slice A2 np c2, .int .i64 wrg]) := Lib.hid (by rw [← hV7]; exact (((K4.out.far (p := ⟨g5, 0, none⟩) ne45 _).far (p := ⟨g5, 1, none⟩) ne45 _).far (p := ⟨g5, 2, none⟩) ne45 _).far (p := ⟨g5, 3, none⟩) ne45 _)
              replace R1 : Hid (Cop (V0.heap.size) (V1.heap.size) A1 c1 A2 c2 nb np bs ms1 ps V7) := Lib.hid (by rw [← hV7]; exact (((R1.out.far (p := ⟨g5, 0, none⟩) z51 _).far (p := ⟨g5, 1, none⟩) z51 _).far (p := ⟨g5, 2, none⟩) z51 _).far (p := ⟨g5, 3, none⟩) z51 _)
              replace R2 : Hid (Cop (V2.heap.size) (V3.heap.size) A3 c3 A4 c4 nb np bs ms2 ps V7) := Lib.hid (by rw [← hV7]; exact (((R2.out.far (p := ⟨g5, 0, none⟩) z52 _).far (p := ⟨g5, 1, none⟩) z52 _).far (p := ⟨g5, 2, none⟩) z52 _).far (p := ⟨g5, 3, none⟩) z52 _)
              clear hV7 k5 f5
              refine hK.out _ _ (fun h => absurd rfl h) (fun _ => ?_)
              refine wpAnyL_done (by kernel_rfl) ?_ _
              clear hK K
              go_wp2_with fail
              go_meet
              exact ⟨g4, g5, V0.heap.size, V1.heap.size, V2.heap.size, V3.heap.size, A1, c1, A2, c2, A3, c3, A4, c4, ms1, ms2, rfl, rfl, ⟨K4.out, K5.out, R1.out, R2.out, ne45, x1, y4, y5⟩, b4.trans (T7.mono z4)⟩
            · skip
              go_simp
              obtain ⟨V3, hV3⟩ : ∃ Z, V2.alloc (.cells #[.slice none 0 0, .int .i64 0, .slice none 0 0, .int .i64 0] 25) = Z := ⟨_, rfl⟩
              rw [hV3]
              have B3 : Below V2.heap.size V2 V3 := (al1 hV3).1
              have S3 := Lib.hid (al1 hV3).2
              have T3 : Below w4.heap.size w4 V3 := T2.trans (B3.mono T2.size)
              replace K4 := Lib.hid (K4.out.below B3 K4.out.lt)
              replace Q1 := Lib.hid (Q1.out.later B3)
              have K5 : Hid (Blk V3 V2.heap.size 25 #[.slice none 0 0, .int .i64 0, .slice none 0 0, .int .i64 0]) := Lib.hid (by rw [← hV3]; exact Blk.new V2 _ _)
              clear hV3
              obtain ⟨g5, hg5⟩ : ∃ g, V2.heap.size = g := ⟨_, rfl⟩
              rw [hg5] at K5 ⊢
              replace hg5 := Lib.hid hg5
              refine hK.out _ _ (fun _ => HSS.out V3 T3) (fun hS' => ?_)
              clear hK K hS'
              try simp only [List.getElem_toArray, List.getElem_cons_zero, List.getElem_cons_succ, Act.put, List.setIfInBounds_toArray, List.set_cons_zero, List.set_cons_succ]
              refine wpAnyL_one (i := 3) (by kernel_rfl) rfl (fun K hK => ?_)
              go_simp
              go_at_call 16
              refine (Copy_c Ab Ap nb cb np cp kf wrg bs ms ps V3 h1 h2 H3.out (HBI.out.later (DW.out V3 T3)) (HPI.out.later (DW.out V3 T3))).mono ?_
              rintro e V4 ⟨A3, c3, A4, c4, ms2, mid2, rfl, hO, B4⟩
              have T4 : Below w4.heap.size w4 V4 := T3.trans (B4.mono T3.size)
              have S4 := Lib.hid B4.size
              replace K4 := Lib.hid (K4.out.below B4 K4.out.lt)
              replace K5 := Lib.hid (K5.out.below B4 K5.out.lt)
              replace Q1 := Lib.hid (Q1.out.later B4)
              have Q2 := Lib.hid (Cop.of hO)
              clear hO
              refine hK.out _ _ (fun _ => HSS.out V4 T4) (fun hS' => ?_)
              clear hK K hS'
              try simp only [List.getElem_toArray, List.getElem_cons_zero, List.getElem_cons_succ, Act.put, List.setIfInBounds_toArray, List.set_cons_zero, List.set_cons_succ]
              have s0 := S0.out
              have s1 := S1.out
              have s2 := S2.out
              have s3 := S3.out
              have s4 := S4.out
              have j4 := hg4.out
              have j5 := hg5.out
              have ne45 : g4 ≠ g5 := by omega
              have y4 : g4 < V0.heap.size ∨ (V1.heap.size ≤ g4 ∧ g4 < V3.heap.size) ∨ V4.heap.size ≤ g4 := by omega
              have y5 : g5 < V0.heap.size ∨ (V1.heap.size ≤ g5 ∧ g5 < V3.heap.size) ∨ V4.heap.size ≤ g5 := by omega
              have x1 : X.heap.size ≤ V0.heap.size ∧ V0.heap.size ≤ V1.heap.size ∧ V1.heap.size ≤ V3.heap.size ∧ V3.heap.size ≤ V4.heap.size ∧ X.heap.size ≤ g4 ∧ X.heap.size ≤ g5 := by omega
              have w4g4 : w4.heap.size ≤ g4 := by omega
              have w4g5 : w4.heap.size ≤ g5 := by omega
              have z41 : g4 < V0.heap.size ∨ V1.heap.size ≤ g4 := by omega
              have z42 : g4 < V3.heap.size ∨ V4.heap.size ≤ g4 := by omega
              have z51 : g5 < V0.heap.size ∨ V1.heap.size ≤ g5 := by omega
              have z52 : g5 < V3.heap.size ∨ V4.heap.size ≤ g5 := by omega
              clear s0 s1 s2 s3 s4 j4 j5
              have k4 := K4.out.cell
              have f4 := K4.out.frozen
              refine wpAnyL_one (i := 6) (by kernel_rfl) rfl (fun K hK => ?_)
              go_simp
              obtain ⟨V6, hV6⟩ : ∃ Z, (((V4.setCell ⟨g4, 0, none⟩ (.slice A1 nb c1)).setCell ⟨g4, 1, none⟩ (.int .i64 kf)).setCell ⟨g4, 2, none⟩ (.slice A2 np c2)).setCell ⟨g4, 3, none⟩ (.int .i64 wrg) = Z := ⟨_, rfl⟩
              rw [hV6]
              have T6 : Below w4.heap.size w4 V6 := by rw [← hV6]; exact (((T4.setCell w4g4 _).setCell w4g4 _).setCell w4g4 _).setCell w4g4 _
              replace K4 : Hid (Blk V6 g4 25 #[.slice A1 nb c1, .int .i64 kf, .slice A2 np c2, .int .i64 wrg]) := Lib.hid (by rw [← hV6]; have h := (((K4.out.set_ 0 (.slice A1 nb c1)).set_ 1 (.int .i64 kf)).set_ 2 (.slice A2 np c2)).set_ 3 (.int .i64 wrg); simpa using h)
              replace K5 : Hid (Blk V6 g5 25 #[.slice none 0 0, .int .i64 0, .slice none 0 0, .int .i64 0]) := Lib.hid (by rw [← hV6]; exact (((K5.out.far (p := ⟨g4, 0, none⟩) (Ne.symm ne45) _).far (p := ⟨g4, 1, none⟩) (Ne.symm ne45) _).far (p := ⟨g4, 2, none⟩) (Ne.symm ne45) _).far (p := ⟨g4, 3, none⟩) (Ne.symm ne45) _)
              have R1 : Hid (Cop (V0.heap.size) (V1.heap.size) A1 c1 A2 c2 nb np bs ms1 ps V6) := Lib.hid (by rw [← hV6]; exact (((Q1.out.far (p := ⟨g4, 0, none⟩) z41 _).far (p := ⟨g4, 1, none⟩) z41 _).far (p := ⟨g4, 2, none⟩) z41 _).far (p := ⟨g4, 3, none⟩) z41 _)
              have R2 : Hid (Cop (V3.heap.size) (V4.heap.size) A3 c3 A4 c4 nb np bs ms2 ps V6) := Lib.hid (by rw [← hV6]; exact (((Q2.out.far (p := ⟨g4, 0, none⟩) z42 _).far (p := ⟨g4, 1, none⟩) z42 _).far (p := ⟨g4, 2, none⟩) z42 _).far (p := ⟨g4, 3, none⟩) z42 _)
              clear hV6 k4 f4 Q1 Q2
              refine hK.out _ _ (fun _ => HSS.out V6 T6) (fun hS' => ?_)
              clear hK K hS'
              have k5 := K5.out.cell
              have f5 := K5.out.frozen
              refine wpAnyL_one (i := 7) (by kernel_rfl) rfl (fun K hK => ?_)
              go_simp
              obtain ⟨V7, hV7⟩ : ∃ Z, (((V6.setCell ⟨g5, 0, none⟩ (.slice A3 nb c3)).setCell ⟨g5, 1, none⟩ (.int .i64 kf)).setCell ⟨g5, 2, none⟩ (.slice A4 np c4)).setCell ⟨g5, 3, none⟩ (.int .i64 wrg) = Z := ⟨_, rfl⟩
              rw [hV7]
              have T7 : Below w4.heap.size w4 V7 := by rw [← hV7]; exact (((T6.setCell w4g5 _).setCell w4g5 _).setCell w4g5 _).setCell w4g5 _
              replace K5 : Hid (Blk V7 g5 25 #[.slice A3 nb c3, .int .i64 kf, .slice A4 np c4, .int .i64 wrg]) := Lib.hid (by rw [← hV7]; have h := (((K5.out.set_ 0 (.slice A3 nb c3)).set_ 1 (.int .i64 kf)).set_ 2 (.slice A4 np c4)).set_ 3 (.int .i64 wrg); simpa using h)
              replace K4 : Hid (Blk V7 g4 25 #[.slice A1 nb c1, .int .i64 kf, .slice A2 np c2, .int .i64 wrg]) := Lib.hid (by rw [← hV7]; exact (((K4.out.far (p := ⟨g5, 0, none⟩) ne45 _).far (p := ⟨g5, 1, none⟩) ne45 _).far (p := ⟨g5, 2, none⟩) ne45 _).far (p := ⟨g5, 3, none⟩) ne45 _)
              replace R1 : Hid (Cop (V0.heap.size) (V1.heap.size) A1 c1 A2 c2 nb np bs ms1 ps V7) := Lib.hid (by rw [← hV7]; exact (((R1.out.far (p := ⟨g5, 0, none⟩) z51 _).far (p := ⟨g5, 1, none⟩) z51 _).far (p := ⟨g5, 2, none⟩) z51 _).far (p := ⟨g5, 3, none⟩) z51 _)
              replace R2 : Hid (Cop (V3.heap.size) (V4.heap.size) A3 c3 A4 c4 nb np bs ms2 ps V7) := Lib.hid (by rw [← hV7]; exact (((R2.out.far (p := ⟨g5, 0, none⟩) z52 _).far (p := ⟨g5, 1, none⟩) z52 _).far (p := ⟨g5, 2, none⟩) z52 _).far (p := ⟨g5, 3, none⟩) z52 _)
              clear hV7 k5 f5
              refine hK.out _ _ (fun h => absurd rfl h) (fun _ => ?_)
              refine wpAnyL_done (by kernel_rfl) ?_ _
              clear hK K
              go_wp2_with fail
              go_meet
              exact ⟨g4, g5, V0.heap.size, V1.heap.size, V3.heap.size, V4.heap.size, A1, c1, A2, c2, A3, c3, A4, c4, ms1, ms2, rfl, rfl, ⟨K4.out, K5.out, R1.out, R2.out, ne45, x1, y4, y5⟩, b4.trans (T7.mono z4)⟩
          · skip
            go_simp
            obtain ⟨V2, hV2⟩ : ∃ Z, V1.alloc (.cells #[.slice none 0 0, .int .i64 0, .slice none 0 0, .int .i64 0] 25) = Z := ⟨_, rfl⟩
            rw [hV2]
            have B2 : Below V1.heap.size V1 V2 := (al1 hV2).1
            have S2 := Lib.hid (al1 hV2).2
            have T2 : Below w4.heap.size w4 V2 := T1.trans (B2.mono T1.size)
            replace Q1 := Lib.hid (Q1.out.later B2)
            have K5 : Hid (Blk V2 V1.heap.size 25 #[.slice none 0 0, .int .i64 0, .slice none 0 0, .int .i64 0]) := Lib.hid (by rw [← hV2]; exact Blk.new V1 _ _)
            clear hV2
            obtain ⟨g5, hg5⟩ : ∃ g, V1.heap.size = g := ⟨_, rfl⟩
            rw [hg5] at K5 ⊢
            replace hg5 := Lib.hid hg5
            refine hK.out _ _ (fun _ => HSS.out V2 T2) (fun hS' => ?_)
            clear hK K hS'
            try simp only [List.getElem_toArray, List.getElem_cons_zero, List.getElem_cons_succ, Act.put, List.setIfInBounds_toArray, List.set_cons_zero, List.set_cons_succ]
            refine wpAnyL_two (i := 3) (j := 4) (by kernel_rfl) rfl rfl (fun K hK => ?_) (fun K hK => ?_)
            · skip
              go_simp
              go_at_call 16
              refine (Copy_c Ab Ap nb cb np cp kf wrg bs ms ps V2 h1 h2 H3.out (HBI.out.later (DW.out V2 T2)) (HPI.out.later (DW.out V2 T2))).mono ?_
              rintro e V3 ⟨A3, c3, A4, c4, ms2, mid2, rfl, hO, B3⟩
              have T3 : Below w4.heap.size w4 V3 := T2.trans (B3.mono T2.size)
              have S3 := Lib.hid B3.size
              replace K5 := Lib.hid (K5.out.below B3 K5.out.lt)
              replace Q1 := Lib.hid (Q1.out.later B3)
              have Q2 := Lib.hid (Cop.of hO)
              clear hO
              refine hK.out _ _ (fun _ => HSS.out V3 T3) (fun hS' => ?_)
              clear hK K hS'
              try simp only [List.getElem_toArray, List.getElem_cons_zero, List.getElem_cons_succ, Act.put, List.setIfInBounds_toArray, List.set_cons_zero, List.set_cons_succ]
              refine wpAnyL_one (i := 4) (by kernel_rfl) rfl (fun K hK => ?_)
              go_simp
              obtain ⟨V4, hV4⟩ : ∃ Z, V3.alloc (.cells #[.slice none 0 0, .int .i64 0, .slice none 0 0, .int .i64 0] 25) = Z := ⟨_, rfl⟩
              rw [hV4]
              have B4 : Below V3.heap.size V3 V4 := (al1 hV4).1
              have S4 := Lib.hid (al1 hV4).2
              have T4 : Below w4.heap.size w4 V4 := T3.trans (B4.mono T3.size)
              replace K5 := Lib.hid (K5.out.below B4 K5.out.lt)
              replace Q1 := Lib.hid (Q1.out.later B4)
              replace Q2 := Lib.hid (Q2.out.later B4)
              have K4 : Hid (Blk V4 V3.heap.size 25 #[.slice none 0 0, .int .i64 0, .slice none 0 0, .int .i64 0]) := Lib.hid (by rw [← hV4]; exact Blk.new V3 _ _)
              clear hV4
              obtain ⟨g4, hg4⟩ : ∃ g, V3.heap.size = g := ⟨_, rfl⟩
              rw [hg4] at K4 ⊢
              replace hg4 := Lib.hid hg4
              refine hK.out _ _ (fun _ => HSS.out V4 T4) (fun hS' => ?_)
              clear hK K hS'
              try simp only [List.getElem_toArray, List.getElem_cons_zero, List.getElem_cons_succ, Act.put, List.setIfInBounds_toArray, List.set_cons_zero, List.set_cons_succ]
              have s0 := S0.out
              have s1 := S1.out
              have s2 := S2.out
              have s3 := S3.out
              have s4 := S4.out
              have j4 := hg4.out
              have j5 := hg5.out
              have ne45 : g4 ≠ g5 := by omega
              have y4 : g4 < V0.heap.size ∨ (V1.heap.size ≤ g4 ∧ g4 < V2.heap.size) ∨ V3.heap.size ≤ g4 := by omega
              have y5 : g5 < V0.heap.size ∨ (V1.heap.size ≤ g5 ∧ g5 < V2.heap.size) ∨ V3.heap.size ≤ g5 := by omega
              have x1 : X.heap.size ≤ V0.heap.size ∧ V0.heap.size ≤ V1.heap.size ∧ V1.heap.size ≤ V2.heap.size ∧ V2.heap.size ≤ V3.heap.size ∧ X.heap.size ≤ g4 ∧ X.heap.size ≤ g5 := by omega
              have w4g4 : w4.heap.size ≤ g4 := by omega
              have w4g5 : w4.heap.size ≤ g5 := by omega
              have z41 : g4 < V0.heap.size ∨ V1.heap.size ≤ g4 := by omega
              have z42 : g4 < V2.heap.size ∨ V3.heap.size ≤ g4 := by omega
              have z51 : g5 < V0.heap.size ∨ V1.heap.size ≤ g5 := by omega
              have z52 : g5 < V2.heap.size ∨ V3.heap.size ≤ g5 := by omega
              clear s0 s1 s2 s3 s4 j4 j5
              have k4 := K4.out.cell
              have f4 := K4.out.frozen
              refine wpAnyL_one (i := 6) (by kernel_rfl) rfl (fun K hK => ?_)
              go_simp
              obtain ⟨V6, hV6⟩ : ∃ Z, (((V4.setCell ⟨g4, 0, none⟩ (.slice A1 nb c1)).setCell ⟨g4, 1, none⟩ (.int .i64 kf)).setCell ⟨g4, 2, none⟩ (.slice A2 np c2)).setCell ⟨g4, 3, none⟩ (.int .i64 wrg) = Z := ⟨_, rfl⟩
              rw [hV6]
              have T6 : Below w4.heap.size w4 V6 := by rw [← hV6]; exact (((T4.setCell w4g4 _).setCell w4g4 _).setCell w4g4 _).setCell w4g4 _
              replace K4 : Hid (Blk V6 g4 25 #[.slice A1 nb c1, .int .i64 kf, .slice A2 np c2, .int .i64 wrg]) := Lib.hid (by rw [← hV6]; have h := (((K4.out.set_ 0 (.slice A1 nb c1)).set_ 1 (.int .i64 kf)).set_ 2 (.slice A2 np c2)).set_ 3 (.int .i64 wrg); simpa using h)
              replace K5 : Hid (Blk V6 g5 25 #[.slice none 0 0, .int .i64 0, .slice none 0 0, .int .i64 0]) := Lib.hid (by rw [← hV6]; exact (((K5.out.far (p := ⟨g4, 0, none⟩) (Ne.symm ne45) _).far (p := ⟨g4, 1, none⟩) (Ne.symm ne45) _).far (p := ⟨g4, 2, none⟩) (Ne.symm ne45) _).far (p := ⟨g4, 3, none⟩) (Ne.symm ne45) _)
              have R1 : Hid (Cop (V0.heap.size) (V1.heap.size) A1 c1 A2 c2 nb np bs ms1 ps V6) := Lib.hid (by rw [← hV6]; exact (((Q1.out.far (p := ⟨g4, 0, none⟩) z41 _).far (p := ⟨g4, 1, none⟩) z41 _).far (p := ⟨g4, 2, none⟩) z41 _).far (p := ⟨g4, 3, none⟩) z41 _)
              have R2 : Hid (Cop (V2.heap.size) (V3.heap.size) A3 c3 A4 c4 nb np bs ms2 ps V6) := Lib.hid (by rw [← hV6]; exact (((Q2.out.far (p := ⟨g4, 0, none⟩) z42 _).far (p := ⟨g4, 1, none⟩) z42 _).far (p := ⟨g4, 2, none⟩) z42 _).far (p := ⟨g4, 3, none⟩) z42 _)
              clear hV6 k4 f4 Q1 Q2
              refine hK.out _ _ (fun _ => HSS.out V6 T6) (fun hS' => ?_)
              clear hK K hS'
              have k5 := K5.out.cell
              have f5 := K5.out.frozen
              refine wpAnyL_one (i := 7) (by kernel_rfl) rfl (fun K hK => ?_)
              go_simp
              obtain ⟨V7, hV7⟩ : ∃ Z, (((V6.setCell ⟨g5, 0, none⟩ (.slice A3 nb c3)).setCell ⟨g5, 1, none⟩ (.int .i64 kf)).setCell ⟨g5, 2, none⟩ (.slice A4 np c4)).setCell ⟨g5, 3, none⟩ (.int .i64 wrg) = Z := ⟨_, rfl⟩
              rw [hV7]
              have T7 : Below w4.heap.size w4 V7 := by rw [← hV7]; exact (((T6.setCell w4g5 _).setCell w4g5 _).setCell w4g5 _).setCell w4g5 _
              replace K5 : Hid (Blk V7 g5 25 #[.slice A3 nb c3, .int .i64 kf, .slice A4 np c4, .int .i64 wrg]) := Lib.hid (by rw [← hV7]; have h := (((K5.out.set_ 0 (.slice A3 nb c3)).set_ 1 (.int .i64 kf)).set_ 2 (.slice A4 np c4)).set_ 3 (.int .i64 wrg); simpa using h)
              replace K4 : Hid (Blk V7 g4 25 #[.slice A1 nb c1, .int .i64 kf, .slice A2 np c2, .int .i64 wrg]) := Lib.hid (by rw [← hV7]; exact (((K4.out.far (p := ⟨g5, 0, none⟩) ne45 _).far (p := ⟨g5, 1, none⟩) ne45 _).far (p := ⟨g5, 2, none⟩) ne45 _).far (p := ⟨g5, 3, none⟩) ne45 _)
              replace R1 : Hid (Cop (V0.heap.size) (V1.heap.size) A1 c1 A2 c2 nb np bs ms1 ps V7) := Lib.hid (by rw [← hV7]; exact (((R1.out.far (p := ⟨g5, 0, none⟩) z51 _).far (p := ⟨g5, 1, none⟩) z51 _).far (p := ⟨g5, 2, none⟩) z51 _).far (p := ⟨g5, 3, none⟩) z51 _)
              replace R2 : Hid (Cop (V2.heap.size) (V3.heap.size) A3 c3 A4 c4 nb np bs ms2 ps V7) := Lib.hid (by rw [← hV7]; exact (((R2.out.far (p := ⟨g5, 0, none⟩) z52 _).far (p := ⟨g5, 1, none⟩) z52 _).far (p := ⟨g5, 2, none⟩) z52 _).far (p := ⟨g5, 3, none⟩) z52 _)
              clear hV7 k5 f5
              refine hK.out _ _ (fun h => absurd rfl h) (fun _ => ?_)
              refine wpAnyL_done (by kernel_rfl) ?_ _
              clear hK K
              go_wp2_with fail
              go_meet
              exact ⟨g4, g5, V0.heap.size, V1.heap.size, V2.heap.size, V3.heap.size, A1, c1, A2, c2, A3, c3, A4, c4, ms1, ms2, rfl, rfl, ⟨K4.out, K5.out, R1.out, R2.out, ne45, x1, y4, y5⟩, b4.trans (T7.mono z4)⟩
            · skip
              go_simp
              obtain ⟨V3, hV3⟩ : ∃ Z, V2.alloc (.cells #[.slice none 0 0, .int .i64 0, .slice none 0 0, .int .i64 0] 25) = Z := ⟨_, rfl⟩
              rw [hV3]
              have B3 : Below V2.heap.size V2 V3 := (al1 hV3).1
              have S3 := Lib.hid (al1 hV3).2
              have T3 : Below w4.heap.size w4 V3 := T2.trans (B3.mono T2.size)
              replace K5 := Lib.hid (K5.out.below B3 K5.out.lt)
              replace Q1 := Lib.hid (Q1.out.later B3)
              have K4 : Hid (Blk V3 V2.heap.size 25 #[.slice none 0 0, .int .i64 0, .slice none 0 0, .int .i64 0]) := Lib.hid (by rw [← hV3]; exact Blk.new V2 _ _)
              clear hV3
              obtain ⟨g4, hg4⟩ : ∃ g, V2.heap.size = g := ⟨_, rfl⟩
              rw [hg4] at K4 ⊢
              replace hg4 := Lib.hid hg4
              refine hK.out _ _ (fun _ => HSS.out V3 T3) (fun hS' => ?_)
              clear hK K hS'
              try simp only [List.getElem_toArray, List.getElem_cons_zero, List.getElem_cons_succ, Act.put, List.setIfInBounds_toArray, List.set_cons_zero, List.set_cons_succ]
              refine wpAnyL_one (i := 3) (by kernel_rfl) rfl (fun K hK => ?_)
              go_simp
              go_at_call 16
              refine (Copy_c Ab Ap nb cb np cp kf wrg bs ms ps V3 h1 h2 H3.out (HBI.out.later (DW.out V3 T3)) (HPI.out.later (DW.out V3 T3))).mono ?_
              rintro e V4 ⟨A3, c3, A4, c4, ms2, mid2, rfl, hO, B4⟩
              have T4 : Below w4.heap.size w4 V4 := T3.trans (B4.mono T3.size)
              have S4 := Lib.hid B4.size
              replace K4 := Lib.hid (K4.out.below B4 K4.out.lt)
              replace K5 := Lib.hid (K5.out.below B4 K5.out.lt)
              replace Q1 := Lib.hid (Q1.out.later B4)
              have Q2 := Lib.hid (Cop.of hO)
              clear hO
              refine hK.out _ _ (fun _ => HSS.out V4 T4) (fun hS' => ?_)
              clear hK K hS'
              try simp only [List.getElem_toArray, List.getElem_cons_zero, List.getElem_cons_succ, Act.put, List.setIfInBounds_toArray, List.set_cons_zero, List.set_cons_succ]
              have s0 := S0.out
              have s1 := S1.out
              have s2 := S2.out
              have s3 := S3.out
              have s4 := S4.out
              have j4 := hg4.out
              have j5 := hg5.out
              have ne45 : g4 ≠ g5 := by omega
              have y4 : g4 < V0.heap.size ∨ (V1.heap.size ≤ g4 ∧ g4 < V3.heap.size) ∨ V4.heap.size ≤ g4 := by omega
              have y5 : g5 < V0.heap.size ∨ (V1.heap.size ≤ g5 ∧ g5 < V3.heap.size) ∨ V4.heap.size ≤ g5 := by omega
              have x1 : X.heap.size ≤ V0.heap.size ∧ V0.heap.size ≤ V1.heap.size ∧ V1.heap.size ≤ V3.heap.size ∧ V3.heap.size ≤ V4.heap.size ∧ X.heap.size ≤ g4 ∧ X.heap.size ≤ g5 := by omega
              have w4g4 : w4.heap.size ≤ g4 := by omega
              have w4g5 : w4.heap.size ≤ g5 := by omega
              have z41 : g4 < V0.heap.size ∨ V1.heap.size ≤ g4 := by omega
              have z42 : g4 < V3.heap.size ∨ V4.heap.size ≤ g4 := by omega
              have z51 : g5 < V0.heap.size ∨ V1.heap.size ≤ g5 := by omega
              have z52 : g5 < V3.heap.size ∨ V4.heap.size ≤ g5 := by omega
              clear s0 s1 s2 s3 s4 j4 j5
              have k4 := K4.out.cell
              have f4 := K4.out.frozen
              refine wpAnyL_one (i := 6) (by kernel_rfl) rfl (fun K hK => ?_)
              go_simp
              obtain ⟨V6, hV6⟩ : ∃ Z, (((V4.setCell ⟨g4, 0, none⟩ (.slice A1 nb c1)).setCell ⟨g4, 1, none⟩ (.int .i64 kf)).setCell ⟨g4, 2, none⟩ (.slice A2 np c2)).setCell ⟨g4, 3, none⟩ (.int .i64 wrg) = Z := ⟨_, rfl⟩
              rw [hV6]
              have T6 : Below w4.heap.size w4 V6 := by rw [← hV6]; exact (((T4.setCell w4g4 _).setCell w4g4 _).setCell w4g4 _).setCell w4g4 _
              replace K4 : Hid (Blk V6 g4 25 #[.slice A1 nb c1, .int .i64 kf, .slice A2 np c2, .int .i64 wrg]) := Lib.hid (by rw [← hV6]; have h := (((K4.out.set_ 0 (.slice A1 nb c1)).set_ 1 (.int .i64 kf)).set_ 2 (.slice A2 np c2)).set_ 3 (.int .i64 wrg); simpa using h)
              replace K5 : Hid (Blk V6 g5 25 #[.slice none 0 0, .int .i64 0, .slice none 0 0, .int .i64 0]) := Lib.hid (by rw [← hV6]; exact (((K5.out.far (p := ⟨g4, 0, none⟩) (Ne.symm ne45) _).far (p := ⟨g4, 1, none⟩) (Ne.symm ne45) _).far (p := ⟨g4, 2, none⟩) (Ne.symm ne45) _).far (p := ⟨g4, 3, none⟩) (Ne.symm ne45) _)
              have R1 : Hid (Cop (V0.heap.size) (V1.heap.size) A1 c1 A2 c2 nb np bs ms1 ps V6) := Lib.hid (by rw [← hV6]; exact (((Q1.out.far (p := ⟨g4, 0, none⟩) z41 _).far (p := ⟨g4, 1, none⟩) z41 _).far (p := ⟨g4, 2, none⟩) z41 _).far (p := ⟨g4, 3, none⟩) z41 _)
              have R2 : Hid (Cop (V3.heap.size) (V4.heap.size) A3 c3 A4 c4 nb np bs ms2 ps V6) := Lib.hid (by rw [← hV6]; exact (((Q2.out.far (p := ⟨g4, 0, none⟩) z42 _).far (p := ⟨g4, 1, none⟩) z42 _).far (p := ⟨g4, 2, none⟩) z42 _).far (p := ⟨g4, 3, none⟩) z42 _)
              clear hV6 k4 f4 Q1 Q2
              refine hK.out _ _ (fun _ => HSS.out V6 T6) (fun hS' => ?_)
              clear hK K hS'
              have k5 := K5.out.cell
              have f5 := K5.out.frozen
              refine wpAnyL_one (i := 7) (by kernel_rfl) rfl (fun K hK => ?_)
              go_simp
              obtain ⟨V7, hV7⟩ : ∃ Z, (((V6.setCell ⟨g5, 0, none⟩ (.slice A3 nb c3)).setCell ⟨g5, 1, none⟩ (.int .i64 kf)).setCell ⟨g5, 2, none⟩ (.slice A4 np c4)).setCell ⟨g5, 3, none⟩ (.int .i64 wrg) = Z := ⟨_, rfl⟩
              rw [hV7]
              have T7 : Below w4.heap.size w4 V7 := by rw [← hV7]; exact (((T6.setCell w4g5 _).setCell w4g5 _).setCell w4g5 _).setCell w4g5 _
              replace K5 : Hid (Blk V7 g5 25 #[.slice A3 nb c3, .int .i64 kf, .slice A4 np c4, .int .i64 wrg]) := Lib.hid (by rw [← hV7]; have h := (((K5.out.set_ 0 (.slice A3 nb c3)).set_ 1 (.int .i64 kf)).set_ 2 (.slice A4 np c4)).set_ 3 (.int .i64 wrg); simpa using h)
              replace K4 : Hid (Blk V7 g4 25 #[.slice A1 nb c1, .int .i64 kf, .slice A2 np c2, .int .i64 wrg]) := Lib.hid (by rw [← hV7]; exact (((K4.out.far (p := ⟨g5, 0, none⟩) ne45 _).far (p := ⟨g5, 1, none⟩) ne45 _).far (p := ⟨g5, 2, none⟩) ne45 _).far (p := ⟨g5, 3, none⟩) ne45 _)
              replace R1 : Hid (Cop (V0.heap.size) (V1.heap.size) A1 c1 A2 c2 nb np bs ms1 ps V7) := Lib.hid (by rw [← hV7]; exact (((R1.out.far (p := ⟨g5, 0, none⟩) z51 _).far (p := ⟨g5, 1, none⟩) z51 _).far (p := ⟨g5, 2, none⟩) z51 _).far (p := ⟨g5, 3, none⟩) z51 _)
              replace R2 : Hid (Cop (V3.heap.size) (V4.heap.size) A3 c3 A4 c4 nb np bs ms2 ps V7) := Lib.hid (by rw [← hV7]; exact (((R2.out.far (p := ⟨g5, 0, none⟩) z52 _).far (p := ⟨g5, 1, none⟩) z52 _).far (p := ⟨g5, 2, none⟩) z52 _).far (p := ⟨g5, 3, none⟩) z52 _)
              clear hV7 k5 f5
              refine hK.out _ _ (fun h => absurd rfl h) (fun _ => ?_)
              refine wpAnyL_done (by kernel_rfl) ?_ _
              clear hK K
              go_wp2_with fail
              go_meet
              exact ⟨g4, g5, V0.heap.size, V1.heap.size, V3.heap.size, V4.heap.size, A1, c1, A2, c2, A3, c3, A4, c4, ms1, ms2, rfl, rfl, ⟨K4.out, K5.out, R1.out, R2.out, ne45, x1, y4, y5⟩, b4.trans (T7.mono z4)⟩
        · skip
          go_simp
          obtain ⟨V1, hV1⟩ : ∃ Z, V0.alloc (.cells #[.slice none 0 0, .int .i64 0, .slice none 0 0, .int .i64 0] 25) = Z := ⟨_, rfl⟩
          rw [hV1]
          have B1 : Below V0.heap.size V0 V1 := (al1 hV1).1
          have S1 := Lib.hid (al1 hV1).2
          have T1 : Below w4.heap.size w4 V1 := T0.trans (B1.mono T0.size)
          have K4 : Hid (Blk V1 V0.heap.size 25 #[.slice none 0 0, .int .i64 0, .slice none 0 0, .int .i64 0]) := Lib.hid (by rw [← hV1]; exact Blk.new V0 _ _)
          clear hV1
          obtain ⟨g4, hg4⟩ : ∃ g, V0.heap.size = g := ⟨_, rfl⟩
          rw [hg4] at K4 ⊢
          replace hg4 := Lib.hid hg4
          refine hK.out _ _ (fun _ => HSS.out V1 T1) (fun hS' => ?_)
          clear hK K hS'
          try simp only [List.getElem_toArray, List.getElem_cons_zero, List.getElem_cons_succ, Act.put, List.setIfInBounds_toArray, List.set_cons_zero, List.set_cons_succ]
          refine wpAnyL_two (i := 1) (j := 5) (by kernel_rfl) rfl rfl (fun K hK => ?_) (fun K hK => ?_)
          · skip
            go_simp
            go_at_call 16
            refine (Copy_c Ab Ap nb cb np cp kf wrg bs ms ps V1 h1 h2 H3.out (HBI.out.later (DW.out V1 T1)) (HPI.out.later (DW.out V1 T1))).mono ?_
            rintro e V2 ⟨A1, c1, A2, c2, ms1, mid1, rfl, hO, B2⟩
            have T2 : Below w4.heap.size w4 V2 := T1.trans (B2.mono T1.size)
            have S2 := Lib.hid B2.size
            replace K4 := Lib.hid (K4.out.below B2 K4.out.lt)
            have Q1 := Lib.hid (Cop.of hO)
            clear hO
            refine hK.out _ _ (fun _ => HSS.out V2 T2) (fun hS' => ?_)
            clear hK K hS'
            try simp only [List.getElem_toArray, List.getElem_cons_zero, List.getElem_cons_succ, Act.put, List.setIfInBounds_toArray, List.set_cons_zero, List.set_cons_succ]
            refine wpAnyL_two (i := 3) (j := 5) (by kernel_rfl) rfl rfl (fun K hK => ?_) (fun K hK => ?_)
            · skip
              go_simp
              go_at_call 16
              refine (Copy_c Ab Ap nb cb np cp kf wrg bs ms ps V2 h1 h2 H3.out (HBI.out.later (DW.out V2 T2)) (HPI.out.later (DW.out V2 T2))).mono ?_
              rintro e V3 ⟨A3, c3, A4, c4, ms2, mid2, rfl, hO, B3⟩
              have T3 : Below w4.heap.size w4 V3 := T2.trans (B3.mono T2.size)
              have S3 := Lib.hid B3.size
              replace K4 := Lib.hid (K4.out.below B3 K4.out.lt)
              replace Q1 := Lib.hid (Q1.out.later B3)
              have Q2 := Lib.hid (Cop.of hO)
              clear hO
              refine hK.out _ _ (fun _ => HSS.out V3 T3) (fun hS' => ?_)
              clear hK K hS'
              try simp only [List.getElem_toArray, List.getElem_cons_zero, List.getElem_cons_succ, Act.put, List.setIfInBounds_toArray, List.set_cons_zero, List.set_cons_succ]
              refine wpAnyL_one (i := 5) (by kernel_rfl) rfl (fun K hK => ?_)
              go_simp
              obtain ⟨V4, hV4⟩ : ∃ Z, V3.alloc (.cells #[.slice none 0 0, .int .i64 0, .slice none 0 0, .int .i64 0] 25) = Z := ⟨_, rfl⟩
              rw [hV4]
              have B4 : Below V3.heap.size V3 V4 := (al1 hV4).1
              have S4 := Lib.hid (al1 hV4).2
              have T4 : Below w4.heap.size w4 V4 := T3.trans (B4.mono T3.size)
              replace K4 := Lib.hid (K4.out.below B4 K4.out.lt)
              replace Q1 := Lib.hid (Q1.out.later B4)
              replace Q2 := Lib.hid (Q2.out.later B4)
              have K5 : Hid (Blk V4 V3.heap.size 25 #[.slice none 0 0, .int .i64 0, .slice none 0 0, .int .i64 0]) := Lib.hid (by rw [← hV4]; exact Blk.new V3 _ _)
              clear hV4
              obtain ⟨g5, hg5⟩ : ∃ g, V3.heap.size = g := ⟨_, rfl⟩
              rw [hg5] at K5 ⊢
              replace hg5 := Lib.hid hg5
              refine hK.out _ _ (fun _ => HSS.out V4 T4) (fun hS' => ?_)
              clear hK K hS'
              try simp only [List.getElem_toArray, List.getElem_cons_zero, List.getElem_cons_succ, Act.put, List.setIfInBounds_toArray, List.set_cons_zero, List.set_cons_succ]
              have s0 := S0.out
              have s1 := S1.out
              have s2 := S2.out
              have s3 := S3.out
              have s4 := S4.out
              have j4 := hg4.out
              have j5 := hg5.out
              have ne45 : g4 ≠ g5 := by omega
              have y4 : g4 < V1.heap.size ∨ (V2.heap.size ≤ g4 ∧ g4 < V2.heap.size) ∨ V3.heap.size ≤ g4 := by omega
              have y5 : g5 < V1.heap.size ∨ (V2.heap.size ≤ g5 ∧ g5 < V2.heap.size) ∨ V3.heap.size ≤ g5 := by omega
              have x1 : X.heap.size ≤ V1.heap.size ∧ V1.heap.size ≤ V2.heap.size ∧ V2.heap.size ≤ V2.heap.size ∧ V2.heap.size ≤ V3.heap.size ∧ X.heap.size ≤ g4 ∧ X.heap.size ≤ g5 := by omega
              have w4g4 : w4.heap.size ≤ g4 := by omega
              have w4g5 : w4.heap.size ≤ g5 := by omega
              have z41 : g4 < V1.heap.size ∨ V2.heap.size ≤ g4 := by omega
              have z42 : g4 < V2.heap.size ∨ V3.heap.size ≤ g4 := by omega
              have z51 : g5 < V1.heap.size ∨ V2.heap.size ≤ g5 := by omega
              have z52 : g5 < V2.heap.size ∨ V3.heap.size ≤ g5 := by omega
              clear s0 s1 s2 s3 s4 j4 j5
              have k4 := K4.out.cell
              have f4 := K4.out.frozen
              refine wpAnyL_one (i := 6) (by kernel_rfl) rfl (fun K hK => ?_)
              go_simp
              obtain ⟨V6, hV6⟩ : ∃ Z, (((V4.setCell ⟨g4, 0, none⟩ (.slice A1 nb c1)).setCell ⟨g4, 1, none⟩ (.int .i64 kf)).setCell ⟨g4, 2, none⟩ (.slice A2 np c2)).setCell ⟨g4, 3, none⟩ (.int .i64 wrg) = Z := ⟨_, rfl⟩
              rw [hV6]
              have T6 : Below w4.heap.size w4 V6 := by rw [← hV6]; exact (((T4.setCell w4g4 _).setCell w4g4 _).setCell w4g4 _).setCell w4g4 _
              replace K4 : Hid (Blk V6 g4 25 #[.slice A1 nb c1, .int .i64 kf, .slice A2 np c2, .int .i64 wrg]) := Lib.hid (by rw [← hV6]; have h := (((K4.out.set_ 0 (.slice A1 nb c1)).set_ 1 (.int .i64 kf)).set_ 2 (.slice A2 np c2)).set_ 3 (.int .i64 wrg); simpa using h)
              replace K5 : Hid (Blk V6 g5 25 #[.slice none 0 0, .int .i64 0, .slice none 0 0, .int .i64 0]) := Lib.hid (by rw [← hV6]; exact (((K5.out.far (p := ⟨g4, 0, none⟩) (Ne.symm ne45) _).far (p := ⟨g4, 1, none⟩) (Ne.symm ne45) _).far (p := ⟨g4, 2, none⟩) (Ne.symm ne45) _).far (p := ⟨g4, 3, none⟩) (Ne.symm ne45) _)
              have R1 : Hid (Cop (V1.heap.size) (V2.heap.size) A1 c1 A2 c2 nb np bs ms1 ps V6) := Lib.hid (by rw [← hV6]; exact (((Q1.out.far (p := ⟨g4, 0, none⟩) z41 _).far (p := ⟨g4, 1, none⟩) z41 _).far (p := ⟨g4, 2, none⟩) z41 _).far (p := ⟨g4, 3, none⟩) z41 _)
              have R2 : Hid (Cop (V2.heap.size) (V3.heap.size) A3 c3 A4 c4 nb np bs ms2 ps V6) := Lib.hid (by rw [← hV6]; exact (((Q2.out.far (p := ⟨g4, 0, none⟩) z42 _).far (p := ⟨g4, 1, none⟩) z42 _).far (p := ⟨g4, 2, none⟩) z42 _).far (p := ⟨g4, 3, none⟩) z42 _)
              clear hV6 k4 f4 Q1 Q2
              refine hK.out _ _ (fun _ => HSS.out V6 T6) (fun hS' => ?_)
              clear hK K hS'
              have k5 := K5.out.cell
              have f5 := K5.out.frozen
              refine wpAnyL_one (i := 7) (by kernel_rfl) rfl (fun K hK => ?_)
              go_simp
              obtain ⟨V7, hV7⟩ : ∃ Z, (((V6.setCell ⟨g5, 0, none⟩ (.slice A3 nb c3)).setCell ⟨g5, 1, none⟩ (.int .i64 kf)).setCell ⟨g5, 2, none⟩ (.slice A4 np c4)).setCell ⟨g5, 3, none⟩ (.int .i64 wrg) = Z := ⟨_, rfl⟩
              rw [hV7]
              have T7 : Below w4.heap.size w4 V7 := by rw [← hV7]; exact (((T6.setCell w4g5 _).setCell w4g5 _).setCell w4g5 _).setCell w4g5 _
              replace K5 : Hid (Blk V7 g5 25 #[.slice A3 nb c3, .int .i64 kf, .slice A4 np c4, .int .i64 wrg]) := Lib.hid (by rw [← hV7]; have h := (((K5.out.set_ 0 (.slice A3 nb c3)).set_ 1 (.int .i64 kf)).set_ 2 (.slice A4 np c4)).set_ 3 (.int .i64 wrg); simpa using h)
              replace K4 : Hid (Blk V7 g4 25 #[.slice A1 nb c1, .int .i64 kf, .slice A2 np c2, .int .i64 wrg]) := Lib.hid (by rw [← hV7]; exact (((K4.out.far (p := ⟨g5, 0, none⟩) ne45 _).far (p := ⟨g5, 1, none⟩) ne45 _).far (p := ⟨g5, 2, none⟩) ne45 _).far (p := ⟨g5, 3, none⟩) ne45 _)
              replace R1 : Hid (Cop (V1.heap.size) (V2.heap.size) A1 c1 A2 c2 nb np bs ms1 ps V7) := Lib.hid (by rw [← hV7]; exact (((R1.out.far (p := ⟨g5, 0, none⟩) z51 _).far (p := ⟨g5, 1, none⟩) z51 _).far (p := ⟨g5, 2, none⟩) z51 _).far (p := ⟨g5, 3, none⟩) z51 _)
              replace R2 : Hid (Cop (V2.heap.size) (V3.heap.size) A3 c3 A4 c4 nb np bs ms2 ps V7) := Lib.hid (by rw [← hV7]; exact (((R2.out.far (p := ⟨g5, 0, none⟩) z52 _).far (p := ⟨g5, 1, none⟩) z52 _).far (p := ⟨g5, 2, none⟩) z52 _).far (p := ⟨g5, 3, none⟩) z52 _)
              clear hV7 k5 f5
              refine hK.out _ _ (fun h => absurd rfl h) (fun _ => ?_)
              refine wpAnyL_done (by kernel_rfl) ?_ _
              clear hK K
              go_wp2_with fail
              go_meet
              exact ⟨g4, g5, V1.heap.size, V2.heap.size, V2.heap.size, V3.heap.size, A1, c1, A2, c2, A3, c3, A4, c4, ms1, ms2, rfl, rfl, ⟨K4.out, K5.out, R1.out, R2.out, ne45, x1, y4, y5⟩, b4.trans (T7.mono z4)⟩
            · skip
              go_simp
              obtain ⟨V3, hV3⟩ : ∃ Z, V2.alloc (.cells #[.slice none 0 0, .int .i64 0, .slice none 0 0, .int .i64 0] 25) = Z := ⟨_, rfl⟩
              rw [hV3]
              have B3 : Below V2.heap.size V2 V3 := (al1 hV3).1
              have S3 := Lib.hid (al1 hV3).2
              have T3 : Below w4.heap.size w4 V3 := T2.trans (B3.mono T2.size)
              replace K4 := Lib.hid (K4.out.below B3 K4.out.lt)
              replace Q1 := Lib.hid (Q1.out.later B3)
              have K5 : Hid (Blk V3 V2.heap.size 25 #[.slice none 0 0, .int .i64 0, .slice none 0 0, .int .i64 0]) := Lib.hid (by rw [← hV3]; exact Blk.new V2 _ _)
              clear hV3
              obtain ⟨g5, hg5⟩ : ∃ g, V2.heap.size = g := ⟨_, rfl⟩
              rw [hg5] at K5 ⊢
              replace hg5 := Lib.hid hg5
              refine hK.out _ _ (fun _ => HSS.out V3 T3) (fun hS' => ?_)
              clear hK K hS'
              try simp only [List.getElem_toArray, List.getElem_cons_zero, List.getElem_cons_succ, Act.put, List.setIfInBounds_toArray, List.set_cons_zero, List.set_cons_succ]
              refine wpAnyL_one (i := 3) (by kernel_rfl) rfl (fun K hK => ?_)
              go_simp
              go_at_call 16
              refine (Copy_c Ab Ap nb cb np cp kf wrg bs ms ps V3 h1 h2 H3.out (HBI.out.later (DW.out V3 T3)) (HPI.out.later (DW.out V3 T3))).mono ?_
              rintro e V4 ⟨A3, c3, A4, c4, ms2, mid2, rfl, hO, B4⟩
              have T4 : Below w4.heap.size w4 V4 := T3.trans (B4.mono T3.size)
              have S4 := Lib.hid B4.size
              replace K4 := Lib.hid (K4.out.below B4 K4.out.lt)
              replace K5 := Lib.hid (K5.out.below B4 K5.out.lt)
              replace Q1 := Lib.hid (Q1.out.later B4)
              have Q2 := Lib.hid (Cop.of hO)
              clear hO
              refine hK.out _ _ (fun _ => HSS.out V4 T4) (fun hS' => ?_)
              clear hK K hS'
              try simp only [List.getElem_toArray, List.getElem_cons_zero, List.getElem_cons_succ, Act.put, List.setIfInBounds_toArray, List.set_cons_zero, List.set_cons_succ]
              have s0 := S0.out
              have s1 := S1.out
              have s2 := S2.out
              have s3 := S3.out
              have s4 := S4.out
              have j4 := hg4.out
              have j5 := hg5.out
              have ne45 : g4 ≠ g5 := by omega
              have y4 : g4 < V1.heap.size ∨ (V2.heap.size ≤ g4 ∧ g4 < V3.heap.size) ∨ V4.heap.size ≤ g4 := by omega
              have y5 : g5 < V1.heap.size ∨ (V2.heap.size ≤ g5 ∧ g5 < V3.heap.size) ∨ V4.heap.size ≤ g5 := by omega
              have x1 : X.heap.size ≤ V1.heap.size ∧ V1.heap.size ≤ V2.heap.size ∧ V2.heap.size ≤ V3.heap.size ∧ V3.heap.size ≤ V4.heap.size ∧ X.heap.size ≤ g4 ∧ X.heap.size ≤ g5 := by omega
              have w4g4 : w4.heap.size ≤ g4 := by omega
              have w4g5 : w4.heap.size ≤ g5 := by omega
              have z41 : g4 < V1.heap.size ∨ V2.heap.size ≤ g4 := by omega
              have z42 : g4 < V3.heap.size ∨ V4.heap.size ≤ g4 := by omega
              have z51 : g5 < V1.heap.size ∨ V2.heap.size ≤ g5 := by omega
              have z52 : g5 < V3.heap.size ∨ V4.heap.size ≤ g5 := by omega
              clear s0 s1 s2 s3 s4 j4 j5
              have k4 := K4.out.cell
              have f4 := K4.out.frozen
              refine wpAnyL_one (i := 6) (by kernel_rfl) rfl (fun K hK => ?_)
              go_simp
              obtain ⟨V6, hV6⟩ : ∃ Z, (((V4.setCell ⟨g4, 0, none⟩ (.slice A1 nb c1)).setCell ⟨g4, 1, none⟩ (.int .i64 kf)).setCell ⟨g4, 2, none⟩ (.slice A2 np c2)).setCell ⟨g4, 3, none⟩ (.int .i64 wrg) = Z := ⟨_, rfl⟩
              rw [hV6]
              have T6 : Below w4.heap.size w4 V6 := by rw [← hV6]; exact (((T4.setCell w4g4 _).setCell w4g4 _).setCell w4g4 _).setCell w4g4 _
              replace K4 : Hid (Blk V6 g4 25 #[.slice A1 nb c1, .int .i64 kf, .slice A2 np c2, .int .i64 wrg]) := Lib.hid (by rw [← hV6]; have h := (((K4.out.set_ 0 (.slice A1 nb c1)).set_ 1 (.int .i64 kf)).set_ 2 (.slice A2 np c2)).set_ 3 (.int .i64 wrg); simpa using h)
              replace K5 : Hid (Blk V6 g5 25 #[.slice none 0 0, .int .i64 0, .slice none 0 0, .int .i64 0]) := Lib.hid (by rw [← hV6]; exact (((K5.out.far (p := ⟨g4, 0, none⟩) (Ne.symm ne45) _).far (p := ⟨g4, 1, none⟩) (Ne.symm ne45) _).far (p := ⟨g4, 2, none⟩) (Ne.symm ne45) _).far (p := ⟨g4, 3, none⟩) (Ne.symm ne45) _)
              have R1 : Hid (Cop (V1.heap.size) (V2.heap.size) A1 c1 A2 c2 nb np bs ms1 ps V6) := Lib.hid (by rw [← hV6]; exact (((Q1.out.far (p := ⟨g4, 0, none⟩) z41 _).far (p := ⟨g4, 1, none⟩) z41 _).far (p := ⟨g4, 2, none⟩) z41 _).far (p := ⟨g4, 3, none⟩) z41 _)
              have R2 : Hid (Cop (V3.heap.size) (V4.heap.size) A3 c3 A4 c4 nb np bs ms2 ps V6) := Lib.hid (by rw [← hV6]; exact (((Q2.out.far (p := ⟨g4, 0, none⟩) z42 _).far (p := ⟨g4, 1, none⟩) z42 _).far (p := ⟨g4, 2, none⟩) z42 _).far (p := ⟨g4, 3, none⟩) z42 _)
              clear hV6 k4 f4 Q1 Q2
              refine hK.out _ _ (fun _ => HSS.out V6 T6) (fun hS' => ?_)
              clear hK K hS'
              have k5 := K5.out.cell
              have f5 := K5.out.frozen
              refine wpAnyL_one (i := 7) (by kernel_rfl) rfl (fun K hK => ?_)
              go_simp
              obtain ⟨V7, hV7⟩ : ∃ Z, (((V6.setCell ⟨g5, 0, none⟩ (.slice A3 nb c3)).setCell ⟨g5, 1, none⟩ (.int .i64 kf)).setCell ⟨g5, 2, none⟩ (.slice A4 np c4)).setCell ⟨g5, 3, none⟩ (.int .i64 wrg) = Z := ⟨_, rfl⟩
              rw [hV7]
              have T7 : Below w4.heap.size w4 V7 := by rw [← hV7]; exact (((T6.setCell w4g5 _).setCell w4g5 _).setCell w4g5 _).setCell w4g5 _
              replace K5 : Hid (Blk V7 g5 25 #[.slice A3 nb c3, .int .i64 kf, .slice A4 np c4, .int .i64 wrg]) := Lib.hid (by rw [← hV7]; have h := (((K5.out.set_ 0 (.slice A3 nb c3)).set_ 1 (.int .i64 kf)).set_ 2 (.slice A4 np c4)).set_ 3 (.int .i64 wrg); simpa using h)
              replace K4 : Hid (Blk V7 g4 25 #[.slice A1 nb c1, .int .i64 kf, .slice A2 np c2, .int .i64 wrg]) := Lib.hid (by rw [← hV7]; exact (((K4.out.far (p := ⟨g5, 0, none⟩) ne45 _).far (p := ⟨g5, 1, none⟩) ne45 _).far (p := ⟨g5, 2, none⟩) ne45 _).far (p := ⟨g5, 3, none⟩) ne45 _)
              replace R1 : Hid (Cop (V1.heap.size) (V2.heap.size) A1 c1 A2 c2 nb np bs ms1 ps V7) := Lib.hid (by rw [← hV7]; exact (((R1.out.far (p := ⟨g5, 0, none⟩) z51 _).far (p := ⟨g5, 1, none⟩) z51 _).far (p := ⟨g5, 2, none⟩) z51 _).far (p := ⟨g5, 3, none⟩) z51 _)
              replace R2 : Hid (Cop (V3.heap.size) (V4.heap.size) A3 c3 A4 c4 nb np bs ms2 ps V7) := Lib.hid (by rw [← hV7]; exact (((R2.out.far (p := ⟨g5, 0, none⟩) z52 _).far (p := ⟨g5, 1, none⟩) z52 _).far (p := ⟨g5, 2, none⟩) z52 _).far (p := ⟨g5, 3, none⟩) z52 _)
              clear hV7 k5 f5
              refine hK.out _ _ (fun h => absurd rfl h) (fun _ => ?_)
              refine wpAnyL_done (by kernel_rfl) ?_ _
              clear hK K
              go_wp2_with fail
              go_meet
              exact ⟨g4, g5, V1.heap.size, V2.heap.size, V3.heap.size, V4.heap.size, A1, c1, A2, c2, A3, c3, A4, c4, ms1, ms2, rfl, rfl, ⟨K4.out, K5.out, R1.out, R2.out, ne45, x1, y4, y5⟩, b4.trans (T7.mono z4)⟩
          · skip
            go_simp
            obtain ⟨V2, hV2⟩ : ∃ Z, V1.alloc (.cells #[.slice none 0 0, .int .i64 0, .slice none 0 0, .int .i64 0] 25) = Z := ⟨_, rfl⟩
            rw [hV2]
            have B2 : Below V1.heap.size V1 V2 := (al1 hV2).1
            have S2 := Lib.hid (al1 hV2).2
            have T2 : Below w4.heap.size w4 V2 := T1.trans (B2.mono T1.size)
            replace K4 := Lib.hid (K4.out.below B2 K4.out.lt)
            have K5 : Hid (Blk V2 V1.heap.size 25 #[.slice none 0 0, .int .i64 0, .slice none 0 0, .int .i64 0]) := Lib.hid (by rw [← hV2]; exact Blk.new V1 _ _)
            clear hV2
            obtain ⟨g5, hg5⟩ : ∃ g, V1.heap.size = g := ⟨_, rfl⟩
            rw [hg5] at K5 ⊢
            replace hg5 := Lib.hid hg5
            refine hK.out _ _ (fun _ => HSS.out V2 T2) (fun hS' => ?_)
            clear hK K hS'
            try simp only [List.getElem_toArray, List.getElem_cons_zero, List.getElem_cons_succ, Act.put, List.setIfInBounds_toArray, List.set_cons_zero, List.set_cons_succ]
            refine wpAnyL_one (i := 1) (by kernel_rfl) rfl (fun K hK => ?_)
            go_simp
            go_at_call 16
            refine (Copy_c Ab Ap nb cb np cp kf wrg bs ms ps V2 h1 h2 H3.out (HBI.out.later (DW.out V2 T2)) (HPI.out.later (DW.out V2 T2))).mono ?_
            rintro e V3 ⟨A1, c1, A2, c2, ms1, mid1, rfl, hO, B3⟩
            have T3 : Below w4.heap.size w4 V3 := T2.trans (B3.mono T2.size)
            have S3 := Lib.hid B3.size
            replace K4 := Lib.hid (K4.out.below B3 K4.out.lt)
            replace K5 := Lib.hid (K5.out.below B3 K5.out.lt)
            have Q1 := Lib.hid (Cop.of hO)
            clear hO
            refine hK.out _ _ (fun _ => HSS.out V3 T3) (fun hS' => ?_)
            clear hK K hS'
            try simp only [List.getElem_toArray, List.getElem_cons_zero, List.getElem_cons_succ, Act.put, List.setIfInBounds_toArray, List.set_cons_zero, List.set_cons_succ]
            refine wpAnyL_one (i := 3) (by kernel_rfl) rfl (fun K hK => ?_)
            go_simp
            go_at_call 16
            refine (Copy_c Ab Ap nb cb np cp kf wrg bs ms ps V3 h1 h2 H3.out (HBI.out.later (DW.out V3 T3)) (HPI.out.later (DW.out V3 T3))).mono ?_
            rintro e V4 ⟨A3, c3, A4, c4, ms2, mid2, rfl, hO, B4⟩
            have T4 : Below w4.heap.size w4 V4 := T3.trans (B4.mono T3.size)
            have S4 := Lib.hid B4.size
            replace K4 := Lib.hid (K4.out.below B4 K4.out.lt)
            replace K5 := Lib.hid (K5.out.below B4 K5.out.lt)
            replace Q1 := Lib.hid (Q1.out.later B4)
            have Q2 := Lib.hid (Cop.of hO)
            clear hO
            refine hK.out _ _ (fun _ => HSS.out V4 T4) (fun hS' => ?_)
            clear hK K hS'
            try simp only [List.getElem_toArray, List.getElem_cons_zero, List.getElem_cons_succ, Act.put, List.setIfInBounds_toArray, List.set_cons_zero, List.set_cons_succ]
            have s0 := S0.out
            have s1 := S1.out
            have s2 := S2.out
            have s3 := S3.out
            have s4 := S4.out
            have j4 := hg4.out
            have j5 := hg5.out
            have ne45 : g4 ≠ g5 := by omega
            have y4 : g4 < V2.heap.size ∨ (V3.heap.size ≤ g4 ∧ g4 < V3.heap.size) ∨ V4.heap.size ≤ g4 := by omega
            have y5 : g5 < V2.heap.size ∨ (V3.heap.size ≤ g5 ∧ g5 < V3.heap.size) ∨ V4.heap.size ≤ g5 := by omega
            have x1 : X.heap.size ≤ V2.heap.size ∧ V2.heap.size ≤ V3.heap.size ∧ V3.heap.size ≤ V3.heap.size ∧ V3.heap.size ≤ V4.heap.size ∧ X.heap.size ≤ g4 ∧ X.heap.size ≤ g5 := by omega
            have w4g4 : w4.heap.size ≤ g4 := by omega
            have w4g5 : w4.heap.size ≤ g5 := by omega
            have z41 : g4 < V2.heap.size ∨ V3.heap.size ≤ g4 := by omega
            have z42 : g4 < V3.heap.size ∨ V4.heap.size ≤ g4 := by omega
            have z51 : g5 < V2.heap.size ∨ V3.heap.size ≤ g5 := by omega
            have z52 : g5 < V3.heap.size ∨ V4.heap.size ≤ g5 := by omega
            clear s0 s1 s2 s3 s4 j4 j5
            have k4 := K4.out.cell
            have f4 := K4.out.frozen
            refine wpAnyL_one (i := 6) (by kernel_rfl) rfl (fun K hK => ?_)
            go_simp
            obtain ⟨V6, hV6⟩ : ∃ Z, (((V4.setCell ⟨g4, 0, none⟩ (.slice A1 nb c1)).setCell ⟨g4, 1, none⟩ (.int .i64 kf)).setCell ⟨g4, 2, none⟩ (.slice A2 np c2)).setCell ⟨g4, 3, none⟩ (.int .i64 wrg) = Z := ⟨_, rfl⟩
            rw [hV6]
            have T6 : Below w4.heap.size w4 V6 := by rw [← hV6]; exact (((T4.setCell w4g4 _).setCell w4g4 _).setCell w4g4 _).setCell w4g4 _
            replace K4 : Hid (Blk V6 g4 25 #[.slice A1 nb c1, .int .i64 kf, .slice A2 np c2, .int .i64 wrg]) := Lib.hid (by rw [← hV6]; have h := (((K4.out.set_ 0 (.slice A1 nb c1)).set_ 1 (.int .i64 kf)).set_ 2 (.slice A2 np c2)).set_ 3 (.int .i64 wrg); simpa using h)
            replace K5 : Hid (Blk V6 g5 25 #[.slice none 0 0, .int .i64 0, .slice none 0 0, .int .i64 0]) := Lib.hid (by rw [← hV6]; exact (((K5.out.far (p := ⟨g4, 0, none⟩) (Ne.symm ne45) _).far (p := ⟨g4, 1, none⟩) (Ne.symm ne45) _).far (p := ⟨g4, 2, none⟩) (Ne.symm ne45) _).far (p := ⟨g4, 3, none⟩) (Ne.symm ne45) _)
            have R1 : Hid (Cop (V2.heap.size) (V3.heap.size) A1 c1 A2 c2 nb np bs ms1 ps V6) := Lib.hid (by rw [← hV6]; exact (((Q1.out.far (p := ⟨g4, 0, none⟩) z41 _).far (p := ⟨g4, 1, none⟩) z41 _).far (p := ⟨g4, 2, none⟩) z41 _).far (p := ⟨g4, 3, none⟩) z41 _)
            have R2 : Hid (Cop (V3.heap.size) (V4.heap.size) A3 c3 A4 c4 nb np bs ms2 ps V6) := Lib.hid (by rw [← hV6]; exact (((Q2.out.far (p := ⟨g4, 0, none⟩) z42 _).far (p := ⟨g4, 1, none⟩) z42 _).far (p := ⟨g4, 2, none⟩) z42 _).far (p := ⟨g4, 3, none⟩) z42 _)
            clear hV6 k4 f4 Q1 Q2
            refine hK.out _ _ (fun _ => HSS.out V6 T6) (fun hS' => ?_)
            clear hK K hS'
            have k5 := K5.out.cell
            have f5 := K5.out.frozen
            refine wpAnyL_one (i := 7) (by kernel_rfl) rfl (fun K hK => ?_)
            go_simp
            obtain ⟨V7, hV7⟩ : ∃ Z, (((V6.setCell ⟨g5, 0, none⟩ (.slice A3 nb c3)).setCell ⟨g5, 1, none⟩ (.int .i64 kf)).setCell ⟨g5, 2, none⟩ (.slice A4 np c4)).setCell ⟨g5, 3, none⟩ (.int .i64 wrg) = Z := ⟨_, rfl⟩
            rw [hV7]
            have T7 : Below w4.heap.size w4 V7 := by rw [← hV7]; exact (((T6.setCell w4g5 _).setCell w4g5 _).setCell w4g5 _).setCell w4g5 _
            replace K5 : Hid (Blk V7 g5 25 #[.slice A3 nb c3, .int .i64 kf, .slice A4 np c4, .int .i64 wrg]) := Lib.hid (by rw [← hV7]; have h := (((K5.out.set_ 0 (.slice A3 nb c3)).set_ 1 (.int .i64 kf)).set_ 2 (.slice A4 np c4)).set_ 3 (.int .i64 wrg); simpa using h)
            replace K4 : Hid (Blk V7 g4 25 #[.slice A1 nb c1, .int .i64 kf, .slice A2 np c2, .int .i64 wrg]) := Lib.hid (by rw [← hV7]; exact (((K4.out.far (p := ⟨g5, 0, none⟩) ne45 _).far (p := ⟨g5, 1, none⟩) ne45 _).far (p := ⟨g5, 2, none⟩) ne45 _).far (p := ⟨g5, 3, none⟩) ne45 _)
            replace R1 : Hid (Cop (V2.heap.size) (V3.heap.size) A1 c1 A2 c2 nb np bs ms1 ps V7) := Lib.hid (by rw [← hV7]; exact (((R1.out.far (p := ⟨g5, 0, none⟩) z51 _).far (p := ⟨g5, 1, none⟩) z51 _).far (p := ⟨g5, 2, none⟩) z51 _).far (p := ⟨g5, 3, none⟩) z51 _)
            replace R2 : Hid (Cop (V3.heap.size) (V4.heap.size) A3 c3 A4 c4 nb np bs ms2 ps V7) := Lib.hid (by rw [← hV7]; exact (((R2.out.far (p := ⟨g5, 0, none⟩) z52 _).far (p := ⟨g5, 1, none⟩) z52 _).far (p := ⟨g5, 2, none⟩) z52 _).far (p := ⟨g5, 3, none⟩) z52 _)
            clear hV7 k5 f5
            refine hK.out _ _ (fun h => absurd rfl h) (fun _ => ?_)
            refine wpAnyL_done (by kernel_rfl) ?_ _
            clear hK K
            go_wp2_with fail
            go_meet
            exact ⟨g4, g5, V2.heap.size, V3.heap.size, V3.heap.size, V4.heap.size, A1, c1, A2, c2, A3, c3, A4, c4, ms1, ms2, rfl, rfl, ⟨K4.out, K5.out, R1.out, R2.out, ne45, x1, y4, y5⟩, b4.trans (T7.mono z4)⟩
        · skip
          go_simp
          obtain ⟨V1, hV1⟩ : ∃ Z, V0.alloc (.cells #[.slice none 0 0, .int .i64 0, .slice none 0 0, .int .i64 0] 25) = Z := ⟨_, rfl⟩
          rw [hV1]
          have B1 : Below V0.heap.size V0 V1 := (al1 hV1).1
          have S1 := Lib.hid (al1 hV1).2
          have T1 : Below w4.heap.size w4 V1 := T0.trans (B1.mono T0.size)
          have K5 : Hid (Blk V1 V0.heap.size 25 #[.slice none 0 0, .int .i64 0, .slice none 0 0, .int .i64 0]) := Lib.hid (by rw [← hV1]; exact Blk.new V0 _ _)
          clear hV1
          obtain ⟨g5, hg5⟩ : ∃ g, V0.heap.size = g := ⟨_, rfl⟩
          rw [hg5] at K5 ⊢
          replace hg5 := Lib.hid hg5
          refine hK.out _ _ (fun _ => HSS.out V1 T1) (fun hS' => ?_)
          clear hK K hS'
          try simp only [List.getElem_toArray, List.getElem_cons_zero, List.getElem_cons_succ, Act.put, List.setIfInBounds_toArray, List.set_cons_zero, List.set_cons_succ]
          refine wpAnyL_two (i := 1) (j := 4) (by kernel_rfl) rfl rfl (fun K hK => ?_) (fun K hK => ?_)
          · skip
            go_simp
            go_at_call 16
            refine (Copy_c Ab Ap nb cb np cp kf wrg bs ms ps V1 h1 h2 H3.out (HBI.out.later (DW.out V1 T1)) (HPI.out.later (DW.out V1 T1))).mono ?_
            rintro e V2 ⟨A1, c1, A2, c2, ms1, mid1, rfl, hO, B2⟩
            have T2 : Below w4.heap.size w4 V2 := T1.trans (B2.mono T1.size)
            have S2 := Lib.hid B2.size
            replace K5 := Lib.hid (K5.out.below B2 K5.out.lt)
            have Q1 := Lib.hid (Cop.of hO)
            clear hO
            refine hK.out _ _ (fun _ => HSS.out V2 T2) (fun hS' => ?_)
            clear hK K hS'
            try simp only [List.getElem_toArray, List.getElem_cons_zero, List.getElem_cons_succ, Act.put, List.setIfInBounds_toArray, List.set_cons_zero, List.set_cons_succ]
            refine wpAnyL_two (i := 3) (j := 4) (by kernel_rfl) rfl rfl (fun K hK => ?_) (fun K hK => ?_)
            · skip
              go_simp
              go_at_call 16
              refine (Copy_c Ab Ap nb cb np cp kf wrg bs ms ps V2 h1 h2 H3.out (HBI.out.later (DW.out V2 T2)) (HPI.out.later (DW.out V2 T2))).mono ?_
              rintro e V3 ⟨A3, c3, A4, c4, ms2, mid2, rfl, hO, B3⟩
              have T3 : Below w4.heap.size w4 V3 := T2.trans (B3.mono T2.size)
              have S3 := Lib.hid B3.size
              replace K5 := Lib.hid (K5.out.below B3 K5.out.lt)
              replace Q1 := Lib.hid (Q1.out.later B3)
              have Q2 := Lib.hid (Cop.of hO)
              clear hO
              refine hK.out _ _ (fun _ => HSS.out V3 T3) (fun hS' => ?_)
              clear hK K hS'
              try simp only [List.getElem_toArray, List.getElem_cons_zero, List.getElem_cons_succ, Act.put, List.setIfInBounds_toArray, List.set_cons_zero, List.set_cons_succ]
              refine wpAnyL_one (i := 4) (by kernel_rfl) rfl (fun K hK => ?_)
              go_simp
              obtain ⟨V4, hV4⟩ : ∃ Z, V3.alloc (.cells #[.slice none 0 0, .int .i64 0, .slice none 0 0, .int .i64 0] 25) = Z := ⟨_, rfl⟩
              rw [hV4]
              have B4 : Below V3.heap.size V3 V4 := (al1 hV4).1
              have S4 := Lib.hid (al1 hV4).2
              have T4 : Below w4.heap.size w4 V4 := T3.trans (B4.mono T3.size)
              replace K5 := Lib.hid (K5.out.below B4 K5.out.lt)
              replace Q1 := Lib.hid (Q1.out.later B4)
              replace Q2 := Lib.hid (Q2.out.later B4)
              have K4 : Hid (Blk V4 V3.heap.size 25 #[.slice none 0 0, .int .i64 0, .slice none 0 0, .int .i64 0]) := Lib.hid (by rw [← hV4]; exact Blk.new V3 _ _)
              clear hV4
              obtain ⟨g4, hg4⟩ : ∃ g, V3.heap.size = g := ⟨_, rfl⟩
              rw [hg4] at K4 ⊢
              replace hg4 := Lib.hid hg4
              refine hK.out _ _ (fun _ => HSS.out V4 T4) (fun hS' => ?_)
              clear hK K hS'
              try simp only [List.getElem_toArray, List.getElem_cons_zero, List.getElem_cons_succ, Act.put, List.setIfInBounds_toArray, List.set_cons_zero, List.set_cons_succ]
              have s0 := S0.out
              have s1 := S1.out
              have s2 := S2.out
              have s3 := S3.out
              have s4 := S4.out
              have j4 := hg4.out
              have j5 := hg5.out
              have ne45 : g4 ≠ g5 := by omega
              have y4 : g4 < V1.heap.size ∨ (V2.heap.size ≤ g4 ∧ g4 < V2.heap.size) ∨ V3.heap.size ≤ g4 := by omega
              have y5 : g5 < V1.heap.size ∨ (V2.heap.size ≤ g5 ∧ g5 < V2.heap.size) ∨ V3.heap.size ≤ g5 := by omega
              have x1 : X.heap.size ≤ V1.heap.size ∧ V1.heap.size ≤ V2.heap.size ∧ V2.heap.size ≤ V2.heap.size ∧ V2.heap.size ≤ V3.heap.size ∧ X.heap.size ≤ g4 ∧ X.heap.size ≤ g5 := by omega
              have w4g4 : w4.heap.size ≤ g4 := by omega
              have w4g5 : w4.heap.size ≤ g5 := by omega
              have z41 : g4 < V1.heap.size ∨ V2.heap.size ≤ g4 := by omega
              have z42 : g4 < V2.heap.size ∨ V3.heap.size ≤ g4 := by omega
              have z51 : g5 < V1.heap.size ∨ V2.heap.size ≤ g5 := by omega
              have z52 : g5 < V2.heap.size ∨ V3.heap.size ≤ g5 := by omega
              clear s0 s1 s2 s3 s4 j4 j5
              have k4 := K4.out.cell
              have f4 := K4.out.frozen
              refine wpAnyL_one (i := 6) (by kernel_rfl) rfl (fun K hK => ?_)
              go_simp
              obtain ⟨V6, hV6⟩ : ∃ Z, (((V4.setCell ⟨g4, 0, none⟩ (.slice A1 nb c1)).setCell ⟨g4, 1, none⟩ (.int .i64 kf)).setCell ⟨g4, 2, none⟩ (.slice A2 np c2)).setCell ⟨g4, 3, none⟩ (.int .i64 wrg) = Z := ⟨_, rfl⟩
              rw [hV6]
              have T6 : Below w4.heap.size w4 V6 := by rw [← hV6]; exact (((T4.setCell w4g4 _).setCell w4g4 _).setCell w4g4 _).setCell w4g4 _
              replace K4 : Hid (Blk V6 g4 25 #[.slice A1 nb c1, .int .i64 kf, .slice A2 np c2, .int .i64 wrg]) := Lib.hid (by rw [← hV6]; have h := (((K4.out.set_ 0 (.slice A1 nb c1)).set_ 1 (.int .i64 kf)).set_ 2 (.slice A2 np c2)).set_ 3 (.int .i64 wrg); simpa using h)
              replace K5 : Hid (Blk V6 g5 25 #[.slice none 0 0, .int .i64 0, .slice none 0 0, .int .i64 0]) := Lib.hid (by rw [← hV6]; exact (((K5.out.far (p := ⟨g4, 0, none⟩) (Ne.symm ne45) _).far (p := ⟨g4, 1, none⟩) (Ne.symm ne45) _).far (p := ⟨g4, 2, none⟩) (Ne.symm ne45) _).far (p := ⟨g4, 3, none⟩) (Ne.symm ne45) _)
              have R1 : Hid (Cop (V1.heap.size) (V2.heap.size) A1 c1 A2 c2 nb np bs ms1 ps V6) := Lib.hid (by rw [← hV6]; exact (((Q1.out.far (p := ⟨g4, 0, none⟩) z41 _).far (p := ⟨g4, 1, none⟩) z41 _).far (p := ⟨g4, 2, none⟩) z41 _).far (p := ⟨g4, 3, none⟩) z41 _)
              have R2 : Hid (Cop (V2.heap.size) (V3.heap.size) A3 c3 A4 c4 nb np bs ms2 ps V6) := Lib.hid (by rw [← hV6]; exact (((Q2.out.far (p := ⟨g4, 0, none⟩) z42 _).far (p := ⟨g4, 1, none⟩) z42 _).far (p := ⟨g4, 2, none⟩) z42 _).far (p := ⟨g4, 3, none⟩) z42 _)
              clear hV6 k4 f4 Q1 Q2
              refine hK.out _ _ (fun _ => HSS.out V6 T6) (fun hS' => ?_)
              clear hK K hS'
              have k5 := K5.out.cell
              have f5 := K5.out.frozen
              refine wpAnyL_one (i := 7) (by kernel_rfl) rfl (fun K hK => ?_)
              go_simp
              obtain ⟨V7, hV7⟩ : ∃ Z, (((V6.setCell ⟨g5, 0, none⟩ (.slice A3 nb c3)).setCell ⟨g5, 1, none⟩ (.int .i64 kf)).setCell ⟨g5, 2, none⟩ (.slice A4 np c4)).setCell ⟨g5, 3, none⟩ (.int .i64 wrg) = Z := ⟨_, rfl⟩
              rw [hV7]
              have T7 : Below w4.heap.size w4 V7 := by rw [← hV7]; exact (((T6.setCell w4g5 _).setCell w4g5 _).setCell w4g5 _).setCell w4g5 _
              replace K5 : Hid (Blk V7 g5 25 #[.slice A3 nb c3, .int .i64 kf, .slice A4 np c4, .int .i64 wrg]) := Lib.hid (by rw [← hV7]; have h := (((K5.out.set_ 0 (.slice A3 nb c3)).set_ 1 (.int .i64 kf)).set_ 2 (.slice A4 np c4)).set_ 3 (.int .i64 wrg); simpa using h)
              replace K4 : Hid (Blk V7 g4 25 #[.slice A1 nb c1, .int .i64 kf, .slice A2 np c2, .int .i64 wrg]) := Lib.hid (by rw [← hV7]; exact (((K4.out.far (p := ⟨g5, 0, none⟩) ne45 _).far (p := ⟨g5, 1, none⟩) ne45 _).far (p := ⟨g5, 2, none⟩) ne45 _).far (p := ⟨g5, 3, none⟩) ne45 _)
              replace R1 : Hid (Cop (V1.heap.size) (V2.heap.size) A1 c1 A2 c2 nb np bs ms1 ps V7) := Lib.hid (by rw [← hV7]; exact (((R1.out.far (p := ⟨g5, 0, none⟩) z51 _).far (p := ⟨g5, 1, none⟩) z51 _).far (p := ⟨g5, 2, none⟩) z51 _).far (p := ⟨g5, 3, none⟩) z51 _)
              replace R2 : Hid (Cop (V2.heap.size) (V3.heap.size) A3 c3 A4 c4 nb np bs ms2 ps V7) := Lib.hid (by rw [← hV7]; exact (((R2.out.far (p := ⟨g5, 0, none⟩) z52 _).far (p := ⟨g5, 1, none⟩) z52 _).far (p := ⟨g5, 2, none⟩) z52 _).far (p := ⟨g5, 3, none⟩) z52 _)
              clear hV7 k5 f5
              refine hK.out _ _ (fun h => absurd rfl h) (fun _ => ?_)
              refine wpAnyL_done (by kernel_rfl) ?_ _
              clear hK K
              go_wp2_with fail
              go_meet
              exact ⟨g4, g5, V1.heap.size, V2.heap.size, V2.heap.size, V3.heap.size, A1, c1, A2, c2, A3, c3, A4, c4, ms1, ms2, rfl, rfl, ⟨K4.out, K5.out, R1.out, R2.out, ne45, x1, y4, y5⟩, b4.trans (T7.mono z4)⟩
            · skip
              go_simp
              obtain ⟨V3, hV3⟩ : ∃ Z, V2.alloc (.cells #[.slice none 0 0, .int .i64 0, .slice none 0 0, .int .i64 0] 25) = Z := ⟨_, rfl⟩
              rw [hV3]
              have B3 : Below V2.heap.size V2 V3 := (al1 hV3).1
              have S3 := Lib.hid (al1 hV3).2
              have T3 : Below w4.heap.size w4 V3 := T2.trans (B3.mono T2.size)
              replace K5 := Lib.hid (K5.out.below B3 K5.out.lt)
              replace Q1 := Lib.hid (Q1.out.later B3)
              have K4 : Hid (Blk V3 V2.heap.size 25 #[.slice none 0 0, .int .i64 0, .slice none 0 0, .int .i64 0]) := Lib.hid (by rw [← hV3]; exact Blk.new V2 _ _)
              clear hV3
              obtain ⟨g4, hg4⟩ : ∃ g, V2.heap.size = g := ⟨_, rfl⟩
              rw [hg4] at K4 ⊢
              replace hg4 := Lib.hid hg4
              refine hK.out _ _ (fun _ => HSS.out V3 T3) (fun hS' => ?_)
              clear hK K hS'
              try simp only [List.getElem_toArray, List.getElem_cons_zero, List.getElem_cons_succ, Act.put, List.setIfInBounds_toArray, List.set_cons_zero, List.set_cons_succ]
              refine wpAnyL_one (i := 3) (by kernel_rfl) rfl (fun K hK => ?_)
              go_simp
              go_at_call 16
              refine (Copy_c Ab Ap nb cb np cp kf wrg bs ms ps V3 h1 h2 H3.out (HBI.out.later (DW.out V3 T3)) (HPI.out.later (DW.out V3 T3))).mono ?_
              rintro e V4 ⟨A3, c3, A4, c4, ms2, mid2, rfl, hO, B4⟩
              have T4 : Below w4.heap.size w4 V4 := T3.trans (B4.mono T3.size)
              have S4 := Lib.hid B4.size
              replace K4 := Lib.hid (K4.out.below B4 K4.out.lt)
              replace K5 := Lib.hid (K5.out.below B4 K5.out.lt)
              replace Q1 := Lib.hid (Q1.out.later B4)
              have Q2 := Lib.hid (Cop.of hO)
              clear hO
              refine hK.out _ _ (fun _ => HSS.out V4 T4) (fun hS' => ?_)
              clear hK K hS'
              try simp only [List.getElem_toArray, List.getElem_cons_zero, List.getElem_cons_succ, Act.put, List.setIfInBounds_toArray, List.set_cons_zero, List.set_cons_succ]
              have s0 := S0.out
              have s1 := S1.out
              have s2 := S2.out
              have s3 := S3.out
              have s4 := S4.out
              have j4 := hg4.out
              have j5 := hg5.out
              have ne45 : g4 ≠ g5 := by omega
              have y4 : g4 < V1.heap.size ∨ (V2.heap.size ≤ g4 ∧ g4 < V3.heap.size) ∨ V4.heap.size ≤ g4 := by omega
              have y5 : g5 < V1.heap.size ∨ (V2.heap.size ≤ g5 ∧ g5 < V3.heap.size) ∨ V4.heap.size ≤ g5 := by omega
              have x1 : X.heap.size ≤ V1.heap.size ∧ V1.heap.size ≤ V2.heap.size ∧ V2.heap.size ≤ V3.heap.size ∧ V3.heap.size ≤ V4.heap.size ∧ X.heap.size ≤ g4 ∧ X.heap.size ≤ g5 := by omega
              have w4g4 : w4.heap.size ≤ g4 := by omega
              have w4g5 : w4.heap.size ≤ g5 := by omega
              have z41 : g4 < V1.heap.size ∨ V2.heap.size ≤ g4 := by omega
              have z42 : g4 < V3.heap.size ∨ V4.heap.size ≤ g4 := by omega
              have z51 : g5 < V1.heap.size ∨ V2.heap.size ≤ g5 := by omega
              have z52 : g5 < V3.heap.size ∨ V4.heap.size ≤ g5 := by omega
              clear s0 s1 s2 s3 s4 j4 j5
              have k4 := K4.out.cell
              have f4 := K4.out.frozen
              refine wpAnyL_one (i := 6) (by kernel_rfl) rfl (fun K hK => ?_)
              go_simp
              obtain ⟨V6, hV6⟩ : ∃ Z, (((V4.setCell ⟨g4, 0, none⟩ (.slice A1 nb c1)).setCell ⟨g4, 1, none⟩ (.int .i64 kf)).setCell ⟨g4, 2, none⟩ (.slice A2 np c2)).setCell ⟨g4, 3, none⟩ (.int .i64 wrg) = Z := ⟨_, rfl⟩
              rw [hV6]
              have T6 : Below w4.heap.size w4 V6 := by rw [← hV6]; exact (((T4.setCell w4g4 _).setCell w4g4 _).setCell w4g4 _).setCell w4g4 _
              replace K4 : Hid (Blk V6 g4 25 #[.slice A1 nb c1, .int .i64 kf, .slice A2 np c2, .int .i64 wrg]) := Lib.hid (by rw [← hV6]; have h := (((K4.out.set_ 0 (.slice A1 nb c1)).set_ 1 (.int .i64 kf)).set_ 2 (.slice A2 np c2)).set_ 3 (.int .i64 wrg); simpa using h)
              replace K5 : Hid (Blk V6 g5 25 #[.slice none 0 0, .int .i64 0, .slice none 0 0, .int .i64 0]) := Lib.hid (by rw [← hV6]; exact (((K5.out.far (p := ⟨g4, 0, none⟩) (Ne.symm ne45) _).far (p := ⟨g4, 1, none⟩) (Ne.symm ne45) _).far (p := ⟨g4, 2, none⟩) (Ne.symm ne45) _).far (p := ⟨g4, 3, none⟩) (Ne.symm ne45) _)
              have R1 : Hid (Cop (V1.heap.size) (V2.heap.size) A1 c1 A2 c2 nb np bs ms1 ps V6) := Lib.hid (by rw [← hV6]; exact (((Q1.out.far (p := ⟨g4, 0, none⟩) z41 _).far (p := ⟨g4, 1, none⟩) z41 _).far (p := ⟨g4, 2, none⟩) z41 _).far (p := ⟨g4, 3, none⟩) z41 _)
              have R2 : Hid (Cop (V3.heap.size) (V4.heap.size) A3 c3 A4 c4 nb np bs ms2 ps V6) := Lib.hid (by rw [← hV6]; exact (((Q2.out.far (p := ⟨g4, 0, none⟩) z42 _).far (p := ⟨g4, 1, none⟩) z42 _).far (p := ⟨g4, 2, none⟩) z42 _).far (p := ⟨g4, 3, none⟩) z42 _)
              clear hV6 k4 f4 Q1 Q2
              refine hK.out _ _ (fun _ => HSS.out V6 T6) (fun hS' => ?_)
              clear hK K hS'
              have k5 := K5.out.cell
              have f5 := K5.out.frozen
              refine wpAnyL_one (i := 7) (by kernel_rfl) rfl (fun K hK => ?_)
              go_simp
              obtain ⟨V7, hV7⟩ : ∃ Z, (((V6.setCell ⟨g5, 0, none⟩ (.slice A3 nb c3)).setCell ⟨g5, 1, none⟩ (.int .i64 kf)).setCell ⟨g5, 2, none⟩ (.slice A4 np c4)).setCell ⟨g5, 3, none⟩ (.int .i64 wrg) = Z := ⟨_, rfl⟩
              rw [hV7]
              have T7 : Below w4.heap.size w4 V7 := by rw [← hV7]; exact (((T6.setCell w4g5 _).setCell w4g5 _).setCell w4g5 _).setCell w4g5 _
              replace K5 : Hid (Blk V7 g5 25 #[.slice A3 nb c3, .int .i64 kf, .slice A4 np c4, .int .i64 wrg]) := Lib.hid (by rw [← hV7]; have h := (((K5.out.set_ 0 (.slice A3 nb c3)).set_ 1 (.int .i64 kf)).set_ 2 (.slice A4 np c4)).set_ 3 (.int .i64 wrg); simpa using h)
              replace K4 : Hid (Blk V7 g4 25 #[.slice A1 nb c1, .int .i64 kf, .slice A2 np c2, .int .i64 wrg]) := Lib.hid (by rw [← hV7]; exact (((K4.out.far (p := ⟨g5, 0, none⟩) ne45 _).far (p := ⟨g5, 1, none⟩) ne45 _).far (p := ⟨g5, 2, none⟩) ne45 _).far (p := ⟨g5, 3, none⟩) ne45 _)
              replace R1 : Hid (Cop (V1.heap.size) (V2.heap.size) A1 c1 A2 c2 nb np bs ms1 ps V7) := Lib.hid (by rw [← hV7]; exact (((R1.out.far (p := ⟨g5, 0, none⟩) z51 _).far (p := ⟨g5, 1, none⟩) z51 _).far (p := ⟨g5, 2, none⟩) z51 _).far (p := ⟨g5, 3, none⟩) z51 _)
              replace R2 : Hid (Cop (V3.heap.size) (V4.heap.size) A3 c3 A4 c4 nb np bs ms2 ps V7) := Lib.hid (by rw [← hV7]; exact (((R2.out.far (p := ⟨g5, 0, none⟩) z52 _).far (p := ⟨g5, 1, none⟩) z52 _).far (p := ⟨g5, 2, none⟩) z52 _).far (p := ⟨g5, 3, none⟩) z52 _)
              clear hV7 k5 f5
              refine hK.out _ _ (fun h => absurd rfl h) (fun _ => ?_)
              refine wpAnyL_done (by kernel_rfl) ?_ _
              clear hK K
              go_wp2_with fail
              go_meet
              exact ⟨g4, g5, V1.heap.size, V2.heap.size, V3.heap.size, V4.heap.size, A1, c1, A2, c2, A3, c3, A4, c4, ms1, ms2, rfl, rfl, ⟨K4.out, K5.out, R1.out, R2.out, ne45, x1, y4, y5⟩, b4.trans (T7.mono z4)⟩
          · skip
            go_simp
            obtain ⟨V2, hV2⟩ : ∃ Z, V1.alloc (.cells #[.slice none 0 0, .int .i64 0, .slice none 0 0, .int .i64 0] 25) = Z := ⟨_, rfl⟩
            rw [hV2]
            have B2 : Below V1.heap.size V1 V2 := (al1 hV2).1
            have S2 := Lib.hid (al1 hV2).2
            have T2 : Below w4.heap.size w4 V2 := T1.trans (B2.mono T1.size)
            replace K5 := Lib.hid (K5.out.below B2 K5.out.lt)
            have K4 : Hid (Blk V2 V1.heap.size 25 #[.slice none 0 0, .int .i64 0, .slice none 0 0, .int .i64 0]) := Lib.hid (by rw [← hV2]; exact Blk.new V1 _ _)
            clear hV2
            obtain ⟨g4, hg4⟩ : ∃ g, V1.heap.size = g := ⟨_, rfl⟩
            rw [hg4] at K4 ⊢
            replace hg4 := Lib.hid hg4
            refine hK.out _ _ (fun _ => HSS.out V2 T2) (fun hS' => ?_)
            clear hK K hS'
            try simp only [List.getElem_toArray, List.getElem_cons_zero, List.getElem_cons_succ, Act.put, List.setIfInBounds_toArray, List.set_cons_zero, List.set_cons_succ]
            refine wpAnyL_one (i := 1) (by kernel_rfl) rfl (fun K hK => ?_)
            go_simp
            go_at_call 16
            refine (Copy_c Ab Ap nb cb np cp kf wrg bs ms ps V2 h1 h2 H3.out (HBI.out.later (DW.out V2 T2)) (HPI.out.later (DW.out V2 T2))).mono ?_
            rintro e V3 ⟨A1, c1, A2, c2, ms1, mid1, rfl, hO, B3⟩
            have T3 : Below w4.heap.size w4 V3 := T2.trans (B3.mono T2.size)
            have S3 := Lib.hid B3.size
            replace K4 := Lib.hid (K4.out.below B3 K4.out.lt)
            replace K5 := Lib.hid (K5.out.below B3 K5.out.lt)
            have Q1 := Lib.hid (Cop.of hO)
            clear hO
            refine hK.out _ _ (fun _ => HSS.out V3 T3) (fun hS' => ?_)
            clear hK K hS'
            try simp only [List.getElem_toArray, List.getElem_cons_zero, List.getElem_cons_succ, Act.put, List.setIfInBounds_toArray, List.set_cons_zero, List.set_cons_succ]
            refine wpAnyL_one (i := 3) (by kernel_rfl) rfl (fun K hK => ?_)
            go_simp
            go_at_call 16
            refine (Copy_c Ab Ap nb cb np cp kf wrg bs ms ps V3 h1 h2 H3.out (HBI.out.later (DW.out V3 T3)) (HPI.out.later (DW.out V3 T3))).mono ?_
            rintro e V4 ⟨A3, c3, A4, c4, ms2, mid2, rfl, hO, B4⟩
            have T4 : Below w4.heap.size w4 V4 := T3.trans (B4.mono T3.size)
            have S4 := Lib.hid B4.size
            replace K4 := Lib.hid (K4.out.below B4 K4.out.lt)
            replace K5 := Lib.hid (K5.out.below B4 K5.out.lt)
            replace Q1 := Lib.hid (Q1.out.later B4)
            have Q2 := Lib.hid (Cop.of hO)
            clear hO
            refine hK.out _ _ (fun _ => HSS.out V4 T4) (fun hS' => ?_)
            clear hK K hS'
            try simp only [List.getElem_toArray, List.getElem_cons_zero, List.getElem_cons_succ, Act.put, List.setIfInBounds_toArray, List.set_cons_zero, List.set_cons_succ]
            have s0 := S0.out
            have s1 := S1.out
            have s2 := S2.out
            have s3 := S3.out
            have s4 := S4.out
            have j4 := hg4.out
            have j5 := hg5.out
            have ne45 : g4 ≠ g5 := by omega
            have y4 : g4 < V2.heap.size ∨ (V3.heap.size ≤ g4 ∧ g4 < V3.heap.size) ∨ V4.heap.size ≤ g4 := by omega
            have y5 : g5 < V2.heap.size ∨ (V3.heap.size ≤ g5 ∧ g5 < V3.heap.size) ∨ V4.heap.size ≤ g5 := by omega
            have x1 : X.heap.size ≤ V2.heap.size ∧ V2.heap.size ≤ V3.heap.size ∧ V3.heap.size ≤ V3.heap.size ∧ V3.heap.size ≤ V4.heap.size ∧ X.heap.size ≤ g4 ∧ X.heap.size ≤ g5 := by omega
            have w4g4 : w4.heap.size ≤ g4 := by omega
            have w4g5 : w4.heap.size ≤ g5 := by omega
            have z41 : g4 < V2.heap.size ∨ V3.heap.size ≤ g4 := by omega
            have z42 : g4 < V3.heap.size ∨ V4.heap.size ≤ g4 := by omega
            have z51 : g5 < V2.heap.size ∨ V3.heap.size ≤ g5 := by omega
            have z52 : g5 < V3.heap.size ∨ V4.heap.size ≤ g5 := by omega
            clear s0 s1 s2 s3 s4 j4 j5
            have k4 := K4.out.cell
            have f4 := K4.out.frozen
            refine wpAnyL_one (i := 6) (by kernel_rfl) rfl (fun K hK => ?_)
            go_simp
            obtain ⟨V6, hV6⟩ : ∃ Z, (((V4.setCell ⟨g4, 0, none⟩ (.slice A1 nb c1)).setCell ⟨g4, 1, none⟩ (.int .i64 kf)).setCell ⟨g4, 2, none⟩ (.slice A2 np c2)).setCell ⟨g4, 3, none⟩ (.int .i64 wrg) = Z := ⟨_, rfl⟩
            rw [hV6]
            have T6 : Below w4.heap.size w4 V6 := by rw [← hV6]; exact (((T4.setCell w4g4 _).setCell w4g4 _).setCell w4g4 _).setCell w4g4 _
            replace K4 : Hid (Blk V6 g4 25 #[.slice A1 nb c1, .int .i64 kf, .slice A2 np c2, .int .i64 wrg]) := Lib.hid (by rw [← hV6]; have h := (((K4.out.set_ 0 (.slice A1 nb c1)).set_ 1 (.int .i64 kf)).set_ 2 (.slice A2 np c2)).set_ 3 (.int .i64 wrg); simpa using h)
            replace K5 : Hid (Blk V6 g5 25 #[.slice none 0 0, .int .i64 0, .slice none 0 0, .int .i64 0]) := Lib.hid (by rw [← hV6]; exact (((K5.out.far (p := ⟨g4, 0, none⟩) (Ne.symm ne45) _).far (p := ⟨g4, 1, none⟩) (Ne.symm ne45) _).far (p := ⟨g4, 2, none⟩) (Ne.symm ne45) _).far (p := ⟨g4, 3, none⟩) (Ne.symm ne45) _)
            have R1 : Hid (Cop (V2.heap.size) (V3.heap.size) A1 c1 A2 c2 nb np bs ms1 ps V6) := Lib.hid (by rw [← hV6]; exact (((Q1.out.far (p := ⟨g4, 0, none⟩) z41 _).far (p := ⟨g4, 1, none⟩) z41 _).far (p := ⟨g4, 2, none⟩) z41 _).far (p := ⟨g4, 3, none⟩) z41 _)
            have R2 : Hid (Cop (V3.heap.size) (V4.heap.size) A3 c3 A4 c4 nb np bs ms2 ps V6) := Lib.hid (by rw [← hV6]; exact (((Q2.out.far (p := ⟨g4, 0, none⟩) z42 _).far (p := ⟨g4, 1, none⟩) z42 _).far (p := ⟨g4, 2, none⟩) z42 _).far (p := ⟨g4, 3, none⟩) z42 _)
            clear hV6 k4 f4 Q1 Q2
            refine hK.out _ _ (fun _ => HSS.out V6 T6) (fun hS' => ?_)
            clear hK K hS'
            have k5 := K5.out.cell
            have f5 := K5.out.frozen
            refine wpAnyL_one (i := 7) (by kernel_rfl) rfl (fun K hK => ?_)
            go_simp
            obtain ⟨V7, hV7⟩ : ∃ Z, (((V6.setCell ⟨g5, 0, none⟩ (.slice A3 nb c3)).setCell ⟨g5, 1, none⟩ (.int .i64 kf)).setCell ⟨g5, 2, none⟩ (.slice A4 np c4)).setCell ⟨g5, 3, none⟩ (.int .i64 wrg) = Z := ⟨_, rfl⟩
            rw [hV7]
            have T7 : Below w4.heap.size w4 V7 := by rw [← hV7]; exact (((T6.setCell w4g5 _).setCell w4g5 _).setCell w4g5 _).setCell w4g5 _
            replace K5 : Hid (Blk V7 g5 25 #[.slice A3 nb c3, .int .i64 kf, .slice A4 np c4, .int .i64 wrg]) := Lib.hid (by rw [← hV7]; have h := (((K5.out.set_ 0 (.slice A3 nb c3)).set_ 1 (.int .i64 kf)).set_ 2 (.slice A4 np c4)).set_ 3 (.int .i64 wrg); simpa using h)
            replace K4 : Hid (Blk V7 g4 25 #[.slice A1 nb c1, .int .i64 kf, .slice A2 np c2, .int .i64 wrg]) := Lib.hid (by rw [← hV7]; exact (((K4.out.far (p := ⟨g5, 0, none⟩) ne45 _).far (p := ⟨g5, 1, none⟩) ne45 _).far (p := ⟨g5, 2, none⟩) ne45 _).far (p := ⟨g5, 3, none⟩) ne45 _)
            replace R1 : Hid (Cop (V2.heap.size) (V3.heap.size) A1 c1 A2 c2 nb np bs ms1 ps V7) := Lib.hid (by rw [← hV7]; exact (((R1.out.far (p := ⟨g5, 0, none⟩) z51 _).far (p := ⟨g5, 1, none⟩) z51 _).far (p := ⟨g5, 2, none⟩) z51 _).far (p := ⟨g5, 3, none⟩) z51 _)
            replace R2 : Hid (Cop (V3.heap.size) (V4.heap.size) A3 c3 A4 c4 nb np bs ms2 ps V7) := Lib.hid (by rw [← hV7]; exact (((R2.out.far (p := ⟨g5, 0, none⟩) z52 _).far (p := ⟨g5, 1, none⟩) z52 _).far (p := ⟨g5, 2, none⟩) z52 _).far (p := ⟨g5, 3, none⟩) z52 _)
            clear hV7 k5 f5
            refine hK.out _ _ (fun h => absurd rfl h) (fun _ => ?_)
            refine wpAnyL_done (by kernel_rfl) ?_ _
            clear hK K
            go_wp2_with fail
            go_meet
            exact ⟨g4, g5, V2.heap.size, V3.heap.size, V3.heap.size, V4.heap.size, A1, c1, A2, c2, A3, c3, A4, c4, ms1, ms2, rfl, rfl, ⟨K4.out, K5.out, R1.out, R2.out, ne45, x1, y4, y5⟩, b4.trans (T7.mono z4)⟩
        -- END
    case rest =>
      obtain ⟨g4, g5, s1, e1, s2, e2, A1, c1, A2, c2, A3, c3, A4, c4, ms1, ms2, rfl, rfl, TC, bW⟩ := hcut
      obtain ⟨W, hW⟩ : ∃ Z, wc = Z := ⟨_, rfl⟩
      rw [hW] at TC bW ⊢
      have b5 := bW
      have K4 := Lib.hid TC.k4
      have K5 := Lib.hid TC.k5
      have Q1 := Lib.hid TC.p1
      have Q2 := Lib.hid TC.p2
      have ne45 := TC.ne
      have x1 := TC.x1
      have y4 := TC.y4
      have y5 := TC.y5
      clear hW TC bW c4_0 c4_1 c4_2 b4 b3 b2 b1 z4 z3 z2 z1
      have c5_0 := fun j => (b5.cell (p := ⟨w.heap.size, j, none⟩) n0).trans (P0.out j)
      have c5_1 := fun j => (b5.cell (p := ⟨w.heap.size + 1, j, none⟩) n1).trans (P1.out j)
      have c5_2 := fun j => (b5.cell (p := ⟨w.heap.size + 1 + 1, j, none⟩) n2).trans (P2.out j)
      have z5 := b5.size
      have hv := ckS_vals HCK.out
      have hW8 := hv.2.2.2.1
      have hyb := HY.out
      obtain ⟨wa, hwa⟩ : ∃ v, wrg - yl = v := ⟨_, rfl⟩
      have hsw : IntKind.i64.wrap (wrg - yl) = wa := by rw [hwa]; exact IntWalk.i64_in _ (by omega)
      have WA := Lib.hid (show 0 ≤ wa ∧ wa ≤ wrg ∧ wa ≤ 8 by omega)
      clear hwa hv hW8 hyb
      have kc := K4.out.cell
      have fc := K4.out.frozen
      have l4 := K4.out.lt
      go_upto_region 9 with (fail)
      go_name_world W8 hW8
      replace K4 : Hid (Blk W8 g4 25 #[.slice A1 nb c1, .int .i64 kf, .slice A2 np c2, .int .i64 wa]) := Lib.hid (by rw [← hW8]; have h := K4.out.set_ 3 (.int .i64 wa); simpa using h)
      replace K5 := Lib.hid (K5.out.far (p := ⟨g4, 3, none⟩) (Ne.symm ne45) (.int .i64 wa))
      replace Q1 := Lib.hid (Q1.out.far (p := ⟨g4, 3, none⟩) (by show g4 < s1 ∨ e1 ≤ g4; omega) (.int .i64 wa))
      replace Q2 := Lib.hid (Q2.out.far (p := ⟨g4, 3, none⟩) (by show g4 < s2 ∨ e2 ≤ g4; omega) (.int .i64 wa))
      have b6 : Below X.heap.size X W8 := by rw [← hW8]; exact b5.setCell (show X.heap.size ≤ g4 by omega) _
      rw [hW8] at K5 Q1 Q2
      clear hW8 kc fc hsw c5_0 c5_1 c5_2 b5
      have z56 := b6.size
      clear z5 l4
      have c6_0 := fun j => (b6.cell (p := ⟨w.heap.size, j, none⟩) n0).trans (P0.out j)
      have c6_1 := fun j => (b6.cell (p := ⟨w.heap.size + 1, j, none⟩) n1).trans (P1.out j)
      have c6_2 := fun j => (b6.cell (p := ⟨w.heap.size + 1 + 1, j, none⟩) n2).trans (P2.out j)
      have z6 := b6.size
      go_upto_if 76 with (go_at_call 14; refine (IsPiece_c Ab Ap nb cb np cp kf wrg yp _ h2).mono ?_; rintro e wd ⟨rfl, hbd⟩)
      have b7 : Below X.heap.size X wd := b6.trans (hbd.mono z6)
      replace K4 := Lib.hid (K4.out.below hbd K4.out.lt)
      replace K5 := Lib.hid (K5.out.below hbd K5.out.lt)
      replace Q1 := Lib.hid (Q1.out.later hbd)
      replace Q2 := Lib.hid (Q2.out.later hbd)
      clear hbd c6_0 c6_1 c6_2 b6 z6 z56
      have c7_0 := fun j => (b7.cell (p := ⟨w.heap.size, j, none⟩) n0).trans (P0.out j)
      have c7_1 := fun j => (b7.cell (p := ⟨w.heap.size + 1, j, none⟩) n1).trans (P1.out j)
      have c7_2 := fun j => (b7.cell (p := ⟨w.heap.size + 1 + 1, j, none⟩) n2).trans (P2.out j)
      have z7 := b7.size
      go_cut [] (fun wx => CutH X nb np kf wrg wa bs ps ms1 g4 g5 A1 c1 A2 c2 A3 c3 A4 c4 wx)
      case first =>
        as_aux_lemma =>
          cases hno : wi yp 0 ((np : Int) - 1)
          · go_wp2_with fail
            go_meet
            obtain ⟨r1, r2⟩ := Q1.out.read
            obtain ⟨r3, r4⟩ := Q2.out.read
            exact ⟨K4.out, K5.out, r1, r2, r3, ⟨ms2, ps, r4, HCK.out, less_ins (Int.le_refl _), H3.out⟩, b7⟩
          · have hin := wi_true.1 hno
            obtain ⟨p, rfl⟩ := Int.eq_ofNat_of_zero_le hin.1
            have hp : p < np := by omega
            have hqP : decide ((p : Int) < np) = true := by simp; omega
            have hbw := D.out _ b7
            obtain ⟨bp, op, rfl, hbp, -, x1', hI⟩ := (HPI.out.later hbw).get hp
            have hln := HPI.out.len hp
            have h40 := H3.out p hp
            obtain ⟨hd, hhd⟩ : ∃ h, (pmAt ms p).h = h := ⟨_, rfl⟩
            rw [hhd] at x1' hI hln
            obtain ⟨hs, hhs⟩ : ∃ h, (pcAt ps p).hs = h := ⟨_, rfl⟩
            rw [hhs] at hI hln h40
            have HHS := Lib.hid hhs
            have HI := Lib.hid hI
            have HLN := Lib.hid hln
            have hn40 : hd.n ≤ 40 := by omega
            have own0 := Lib.hid (World.ownsRow_nil wd wd.heap.size 3 1)
            clear hhd hhs hI hln hno hin h40
            go_wp2_with fail
            clear c7_0 c7_1 c7_2 x1' hqP
            go_loopw [13, 15] (fun v i (wr : World) => ∃ k : Nat, k ≤ hd.n ∧ i = .int .i64 k ∧ Hid (wr.ownsRow wd.heap.size 3 1 v ((hs.take k).filter fun v => v != yh).length (((hs.take k).filter fun v => v != yh).flatMap encI)) ∧ Below wd.heap.size wd wr) (fun _ i _ => hd.n - (intOf i).toNat)
            case atStart => exact ⟨0, by omega, rfl, by rw [List.take_zero]; exact own0, Below.refl _ _⟩
            case round =>
              obtain ⟨k, hk, rfl, HO, hb⟩ := hrel
              have zb := hb.size
              have b8 : Below X.heap.size X wr := b7.trans (hb.mono z7)
              have c8_0 := fun j => (b8.cell (p := ⟨w.heap.size, j, none⟩) n0).trans (P0.out j)
              have c8_1 := fun j => (b8.cell (p := ⟨w.heap.size + 1, j, none⟩) n1).trans (P1.out j)
              have c8_2 := fun j => (b8.cell (p := ⟨w.heap.size + 1 + 1, j, none⟩) n2).trans (P2.out j)
              have z8 := b8.size
              have m1 : w.heap.size + 1 < wr.heap.size := by omega
              have hfl : ((hs.take k).filter fun v => v != yh).length ≤ 40 := Nat.le_trans (List.length_filter_le _ _) (by rw [List.length_take]; omega)
              by_cases hlt : k < hd.n
              · have hqB : decide ((k : Int) < hd.n) = true := by simp; omega
                have htk : hs.take (k + 1) = hs.take k ++ [iAt hs k] := by
                  have : k < hs.length := by rw [← HLN.out]; exact hlt
                  rw [List.take_add_one, iAt_get this, List.getElem?_eq_getElem this]; rfl
                have hfs : ((hs.take (k + 1)).filter fun v => v != yh) = ((hs.take k).filter fun v => v != yh) ++ (bif iAt hs k != yh then [iAt hs k] else []) := by
                  rw [htk, List.filter_append]
                  cases e : (iAt hs k != yh) <;> simp [e]
                obtain ⟨gi, oi, ei, hgi, y1⟩ := (HI.out.later hb).get hlt
                obtain ⟨hA, hN, hC⟩ := hd
                simp only at ei y1 hlt hqB hk hn40
                subst ei
                obtain ⟨v, hv⟩ : ∃ v, iAt hs k = v := ⟨_, rfl⟩
                rw [hv] at y1 hfs
                obtain ⟨F, hF⟩ : ∃ F, ((hs.take k).filter fun v => v != yh) = F := ⟨_, rfl⟩
                rw [hF] at HO hfs hfl
                have HFS := Lib.hid hfs
                clear htk hfs hv hF
                cases eq : (v != yh)
                · rw [eq] at HFS
                  go_upto_region 15 with (fail)
                  have hcq := fun p : Regrown => (bcell (below_regrown wr p.d p.os)).1
                  refine wp_region_quiet_below (by kernel_rfl) (by kernel_rfl) ?_
                  repeat (go_big_quiet_step ((fail)))
                  refine wpQuiet_nil ?_
                  intro wq hq
                  obtain ⟨pq, hq⟩ := hq
                  have hbq : Below wr.heap.size wr wq := by rw [hq]; exact below_regrown _ _ _
                  clear hq hcq pq
                  obtain ⟨hcq, hfq⟩ := bcell hbq
                  have zq := hbq.size
                  go_wp2_with fail
                  go_roundw
                  case rel => exact ⟨k + 1, by first | omega | (simp only; omega), by go_num, by rw [HFS.out]; exact Lib.hid (by simpa using own_below HO.out hbq), hb.trans (hbq.mono zb)⟩
                  case measure => simp [intOf]; omega
                · rw [eq] at HFS
                  go_upto_region 15 with (fail)
                  have hcq := fun p : Regrown => (bcell (below_regrown wr p.d p.os)).1
                  refine wp_region_quiet_below (by kernel_rfl) (by kernel_rfl) ?_
                  repeat (go_big_quiet_step ((fail)))
                  refine wpQuiet_nil ?_
                  intro wq hq
                  obtain ⟨pq, hq⟩ := hq
                  have hbq : Below wr.heap.size wr wq := by rw [hq]; exact below_regrown _ _ _
                  clear hq hcq pq
                  obtain ⟨hcq, hfq⟩ := bcell hbq
                  have zq := hbq.size
                  have HOq := Lib.hid (own_below HO.out hbq)
                  have bq : Below wd.heap.size wd wq := hb.trans (hbq.mono zb)
                  go_wp2_with (at_builtin; go_must (refine wpList_append_T _ (d := (0 : Int)) rfl (.tmp 97) (.tmp 102) _ rfl wd.heap.size _ 1 8 intE encI_len encI_one u13 u13.ownBlock F.length F rfl rfl ?_ _ 1 _ [v] rfl ?_ ?_ ?_ ?_; (exact HOq.out.alloc _); (exact sl_new encI_len rfl rfl rfl); (focus omega); (focus (simp only [World.size_alloc]; omega)); (intro v' w7 hown7 hg7 hat7; have hb9 : Below wd.heap.size wd w7 := (Below.grown (by (repeat first | with_reducible assumption | with_reducible exact Below.refl _ _ | (with_reducible refine Below.alloc ?_ ?side _; case side => (first | omega | (with_reducible exact Below.size (by assumption)) | (simp; done) | (simp; omega))) | (with_reducible refine Below.setCell ?_ ?side _; case side => (first | omega | (with_reducible exact Below.size (by assumption)) | (simp; done) | (simp; omega))) | with_reducible refine Below.drew ?_ | with_reducible refine below_drewN ?_ _ | (with_reducible refine below_step (by assumption) ?side ?_; case side => (first | omega | (with_reducible exact Below.size (by assumption)) | (simp; done) | (simp; omega))))) hg7 (by simp only [World.size_alloc]; omega) (own_ge HOq.out)); have HO7 := Lib.hid hown7; clear hown7 hg7 hat7)))
                  go_roundw
                  case rel => exact ⟨k + 1, by first | omega | (simp only; omega), by go_num, by rw [HFS.out]; simp only [cond_true, List.length_append]; exact HO7, hb9⟩
                  case measure => simp [intOf]; omega
              · obtain rfl : hd.n = k := by omega
                have hqB : decide ((hd.n : Int) < hd.n) = false := by simp
                have hO := HO.out
                rw [show hs.take hd.n = hs by rw [HLN.out]; exact List.take_length] at hO hfl
                obtain ⟨F, hF⟩ : ∃ F, (hs.filter fun v => v != yh) = F := ⟨_, rfl⟩
                rw [hF] at hO hfl
                obtain ⟨Al, cl, rfl, -, hsl⟩ := SlAt.of_own (d := (0 : Int)) encI_len hO rfl
                have HL := Lib.hid (ints_iff.2 hsl)
                have HLA := Lib.hid (fun a e => own_addr hO a e)
                have HF := Lib.hid hF
                obtain ⟨mid, hst, hme, hmg⟩ := (Q2.out.later hb).st
                have hu2 := Q2.out.u2
                have hu3 := Q2.out.u3
                have he2 := Q2.out.he
                have hle2 := hst.le
                obtain ⟨ga, d', e3, hga, hga'⟩ := hst.pcs.own.form (by omega)
                injection e3 with e3a e3b e3c
                subst e3a e3c
                have hgm := hmg ga rfl
                have hge := hu2 ga rfl
                have K4r := Lib.hid (K4.out.below hb K4.out.lt)
                have K5r := Lib.hid (K5.out.below hb K5.out.lt)
                have Q1r := Lib.hid (Q1.out.later hb)
                have HST := Lib.hid hst
                have kc := K5r.out.cell
                obtain ⟨oh, hoh⟩ : ∃ v, (pmAt ms2 p).h = v := ⟨_, rfl⟩
                have hml := hst.pcs.ml
                have q1 : wr.cell? ⟨ga, p * 2 + 1, none⟩ = some (.slice oh.A oh.n oh.c) := (hst.pcs.own.cellAt (p * 2 + 1) (by omega)).trans ((flat_get (d := (⟨0, ⟨none, 0, 0⟩⟩ : Pm)) encP_len ms2 p 1 (by omega) (by omega)).trans (by rw [← hoh]; rfl))
                have f1 := hst.pcs.own.frozenAt (p * 2 + 1)
                have i1 : decide ((p : Int) < np) = true := by simp; omega
                clear HO hO hsl hst hoh hml e3b hF hu2 hu3
                go_wp2_with fail
                go_meet
                have hPS := (HST.out.pcs).setHs (x := ⟨Al, F.length, cl⟩) (q := F) hp HL.out (fun a ha => ⟨by have := (HLA.out a ha).1; omega, by have := (HLA.out a ha).1; omega, (HLA.out a ha).2⟩)
                obtain ⟨_, _, e, hp6⟩ := hPS.at_
                cases e
                have hpps : p < ps.length := by rw [HPL.out]; exact hp
                have hFF : F = (pcAt ps p).hs.filter fun v => v != yh := by rw [← HF.out, ← HHS.out]
                obtain ⟨r1, r2⟩ := (Q1r.out.far (p := ⟨ga, p * 2 + 1, none⟩) (Or.inr (by show e1 ≤ ga; omega)) (.slice Al F.length cl)).read
                refine ⟨K4r.out.far (p := ⟨ga, p * 2 + 1, none⟩) (by show g4 ≠ ga; omega) _, K5r.out.far (p := ⟨ga, p * 2 + 1, none⟩) (by show g5 ≠ ga; omega) _, r1, r2, sl_of_own encB_len (own_set HST.out.bar (fun g hg => by have := HST.out.bm g hg; show g ≠ ga; omega)) HST.out.bl, ⟨_, _, hp6, ?_, ?_, fun k hk => ?_⟩, (b7.trans (hb.mono z7)).setCell (show X.heap.size ≤ ga by omega) _⟩
                · rw [hFF]; exact ckS_read HCK.out hpps
                · rw [hFF]; exact read_ins hpps (fun v hv => has_filter hv)
                · rw [pcAt_set hpps]
                  split
                  · exact hfl
                  · exact H3.out k hk
      case rest =>
        obtain ⟨k4, k5, r1, r2, r3, ⟨ms2', ps2, r4, hck2, hins, h32⟩, b8⟩ := hcut
        obtain ⟨w8, hw8⟩ : ∃ Z, wc = Z := ⟨_, rfl⟩
        rw [hw8] at k4 k5 r1 r2 r3 r4 b8 ⊢
        clear hw8 K4 K5 Q1 Q2 c7_0 c7_1 c7_2 b7 z7
        have K4 := Lib.hid k4
        have K5 := Lib.hid k5
        have kc4 := k4.cell
        have kc5 := k5.cell
        have R1 := Lib.hid r1
        have R2 := Lib.hid r2
        have R3 := Lib.hid r3
        have R4 := Lib.hid r4
        have c8_0 := fun j => (b8.cell (p := ⟨w.heap.size, j, none⟩) n0).trans (P0.out j)
        have c8_1 := fun j => (b8.cell (p := ⟨w.heap.size + 1, j, none⟩) n1).trans (P1.out j)
        have c8_2 := fun j => (b8.cell (p := ⟨w.heap.size + 1 + 1, j, none⟩) n2).trans (P2.out j)
        have z8 := b8.size
        have hwa := WA.out
        have hckA : ckS bs ps kf wa = true := ckS_less HCK.out hwa.1 hwa.2.2
        have hi1 : Hid (∀ V, Below w8.heap.size w8 V → Calls Try.prog 36 #[.agg #[.slice A1 nb c1, .int .i64 kf, .slice A2 np c2, .int .i64 wa], .agg #[.slice Ab nb cb, .int .i64 kf, .slice Ap np cp, .int .i64 wrg], .agg #[.int .i64 xa, .int .i64 xb, .int .i64 xr, .int .i64 xl]] V fun e V' => e = .returned (.bool true) ∧ Below V.heap.size V V') := Lib.hid fun V hV =>
          have hb := D.out V (b8.trans (hV.mono z8))
          inside_c A1 A2 Ab Ap nb c1 cb np c2 cp kf wa wrg xa xb xr xl bs ms1 ms ps ps V (R1.out.later hV) (R2.out.later hV) (HBI.out.later hb) (HPI.out.later hb) hn4 hp5 H3.out H3.out hckA HCK.out (less_ins hwa.2.1)
        have hi2 : Hid (∀ V, Below w8.heap.size w8 V → Calls Try.prog 36 #[.agg #[.slice A3 nb c3, .int .i64 kf, .slice A4 np c4, .int .i64 wrg], .agg #[.slice Ab nb cb, .int .i64 kf, .slice Ap np cp, .int .i64 wrg], .agg #[.int .i64 xa, .int .i64 xb, .int .i64 xr, .int .i64 xl]] V fun e V' => e = .returned (.bool true) ∧ Below V.heap.size V V') := Lib.hid fun V hV =>
          have hb := D.out V (b8.trans (hV.mono z8))
          inside_c A3 A4 Ab Ap nb c3 cb np c4 cp kf wrg wrg xa xb xr xl bs ms2' ms ps2 ps V (R3.out.later hV) (R4.out.later hV) (HBI.out.later hb) (HPI.out.later hb) hn4 hp5 h32 H3.out hck2 HCK.out hins
        clear r1 r2 r3 r4 k4 k5 hck2 hins h32 hckA hwa
        go_wp2_with fail
        refine (hi1.out _ (Below.refl _ _)).mono ?_
        rintro e w9 ⟨rfl, hb9⟩
        have b9 : Below X.heap.size X w9 := b8.trans (hb9.mono z8)
        have kd5 := (K5.out.below hb9 K5.out.lt).cell
        clear kc4 kc5 c8_0 c8_1 c8_2
        have c9_0 := fun j => (b9.cell (p := ⟨w.heap.size, j, none⟩) n0).trans (P0.out j)
        have c9_1 := fun j => (b9.cell (p := ⟨w.heap.size + 1, j, none⟩) n1).trans (P1.out j)
        have c9_2 := fun j => (b9.cell (p := ⟨w.heap.size + 1 + 1, j, none⟩) n2).trans (P2.out j)
        have z9 := b9.size
        go_wp2_with fail
        refine (hi2.out _ hb9).mono ?_
        rintro e w10 ⟨rfl, hb10⟩
        have b10 : Below X.heap.size X w10 := b9.trans (hb10.mono z9)
        have z10 := b10.size
        go_wp2_with fail
        refine (hwk.out _).mono ?_
        rintro e w99 ⟨rfl, hb99⟩
        go_wp2
        go_ret
        exact ⟨rfl, D.out _ (b10.trans (hb99.mono z10))⟩

end Go.Proofs.Ytmopnbijfcamjaa
