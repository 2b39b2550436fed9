/- RepairsGood (layer 7): the walk. -/
import Derived.Test.YthjjakhmbgnnnaaRk7
import Derived.Test.YthjjakhmbgnnnaaCp7
namespace Go.Proofs.Ythjjakhmbgnnnaa
open Go.RowKit
open Go.Sort (grow)
set_option linter.unusedVariables false

set_option maxRecDepth 100000 in
set_option maxHeartbeats 6400000 in
theorem GoodLaw_c (A B : Option Addr) (n c m d : Nat) (q : Cb) (ls : List Sp) (l : List Int) (w : World) (hq : CbOk q) (HL : SpsAt w A n ls) (hn : n ≤ 9223372036854775807) (HX : IntsAt w B m l) (hm : m ≤ 9223372036854775807) :
    Calls Try.prog 8 #[.agg #[.slice A n c, .int .i64 q.need, .int .i64 q.gap, .int .i64 q.doubt, .int .i64 q.joins, .int .i64 q.least], .slice B m d] w
      fun e w' => e = .returned (.bool true) ∧ Below w.heap.size w w' := by
  have hwk := Lib.hid works_c
  have HLI := Lib.hid HL
  have HXI := Lib.hid HX
  have HQ := Lib.hid hq
  clear HL HX hq
  by_cases hn1 : 40 < n
  · have hB : decide ((40 : Int) < n) = true := by simp; omega
    go_enter Try.func8, Try.ntmps8
    go_wp2_with fail
    obtain ⟨X, hX⟩ : ∃ X, w.alloc (.cells #[.slice A n c, .int .i64 q.need, .int .i64 q.gap, .int .i64 q.doubt, .int .i64 q.joins, .int .i64 q.least] 24) = X := ⟨_, rfl⟩
    rw [hX]
    have BX : Below w.heap.size w X := (al1 hX).1
    have zX : X.heap.size = w.heap.size + 1 := (al1 hX).2
    have P0 := Lib.hid (al1_0 hX).2.1
    have zw : w.heap.size ≤ X.heap.size := by omega
    have n0 : w.heap.size < X.heap.size := by omega
    clear hX
    refine (hwk.out _).mono ?_
    rintro e w99 ⟨rfl, hb99⟩
    go_wp2
    go_ret
    exact ⟨rfl, BX.trans (hb99.mono zw)⟩
  have hnB : decide ((40 : Int) < n) = false := by simp; omega
  by_cases hm1 : 40 < m
  · have hB : decide ((40 : Int) < m) = true := by simp; omega
    go_enter Try.func8, Try.ntmps8
    go_wp2_with fail
    obtain ⟨X, hX⟩ : ∃ X, w.alloc (.cells #[.slice A n c, .int .i64 q.need, .int .i64 q.gap, .int .i64 q.doubt, .int .i64 q.joins, .int .i64 q.least] 24) = X := ⟨_, rfl⟩
    rw [hX]
    have BX : Below w.heap.size w X := (al1 hX).1
    have zX : X.heap.size = w.heap.size + 1 := (al1 hX).2
    have P0 := Lib.hid (al1_0 hX).2.1
    have zw : w.heap.size ≤ X.heap.size := by omega
    have n0 : w.heap.size < X.heap.size := by omega
    clear hX
    refine (hwk.out _).mono ?_
    rintro e w99 ⟨rfl, hb99⟩
    go_wp2
    go_ret
    exact ⟨rfl, BX.trans (hb99.mono zw)⟩
  have hmB : decide ((40 : Int) < m) = false := by simp; omega
  have hn40 : n ≤ 40 := by omega
  have hm40 : m ≤ 40 := by omega
  clear hn1 hm1 hn hm
  go_enter Try.func8, Try.ntmps8
  go_wp2_with fail
  obtain ⟨X, hX⟩ : ∃ X, w.alloc (.cells #[.slice A n c, .int .i64 q.need, .int .i64 q.gap, .int .i64 q.doubt, .int .i64 q.joins, .int .i64 q.least] 24) = X := ⟨_, rfl⟩
  rw [hX]
  have BX : Below w.heap.size w X := (al1 hX).1
  have zX : X.heap.size = w.heap.size + 1 := (al1 hX).2
  have P0 := Lib.hid (al1_0 hX).2.1
  have zw : w.heap.size ≤ X.heap.size := by omega
  have n0 : w.heap.size < X.heap.size := by omega
  clear hX
  refine (Copy_c A n c q ls X hn40 (HLI.out.later BX)).mono ?_
  rintro e w1 ⟨A1, k1, rfl, hO, hb1⟩
  have HO := Lib.hid hO
  have b1 := Lib.hid hb1
  have z1 := hb1.size
  clear hO hb1
  go_wp2_with (at_builtin; go_must (refine wpList_append_T _ (d := (0 : Int)) rfl (.tmp 27) (.tmp 28) _ rfl w1.heap.size _ 1 8 intE encI_len encI_one (.slice (some ⟨w1.heap.size, 0, none⟩) 0 0) (some w1.heap.size) 0 [] rfl rfl ?ow B m d l rfl ?sl (by omega) ?sz ?_; (case ow => exact own_empty (Nat.le_refl _) rfl); (case sz => (simp; done)); (case sl => exact ints_iff.1 (HXI.out.later (by have := BX.trans (b1.out.mono zw); have := this.size; (repeat first | with_reducible assumption | with_reducible exact Below.refl _ _ | (with_reducible refine Below.alloc ?_ ?side _; case side => (first | omega | (with_reducible exact Below.size (by assumption)) | (simp; done) | (simp; omega))) | (with_reducible refine Below.setCell ?_ ?side _; case side => (first | omega | (with_reducible exact Below.size (by assumption)) | (simp; done) | (simp; omega))) | with_reducible refine Below.drew ?_ | with_reducible refine below_drewN ?_ _ | (with_reducible refine below_step (by assumption) ?side ?_; case side => (first | omega | (with_reducible exact Below.size (by assumption)) | (simp; done) | (simp; omega))))))); (rintro v2 w2 ho2 hg2 ha2); (rw [Nat.zero_add, List.nil_append] at ho2); (obtain ⟨B2, d2, rfl, -, hs2⟩ := SlAt.of_own (d := (0 : Int)) encI_len ho2 HXI.out.1); (have hb2 : Below w1.heap.size w1 w2 := (Below.grown (by (repeat first | with_reducible assumption | with_reducible exact Below.refl _ _ | (with_reducible refine Below.alloc ?_ ?side _; case side => (first | omega | (with_reducible exact Below.size (by assumption)) | (simp; done) | (simp; omega))) | (with_reducible refine Below.setCell ?_ ?side _; case side => (first | omega | (with_reducible exact Below.size (by assumption)) | (simp; done) | (simp; omega))) | with_reducible refine Below.drew ?_ | with_reducible refine below_drewN ?_ _ | (with_reducible refine below_step (by assumption) ?side ?_; case side => (first | omega | (with_reducible exact Below.size (by assumption)) | (simp; done) | (simp; omega))))) hg2 (by simp) (fun k hk => (by cases hk; omega)))); (have HI2 := Lib.hid (ints_iff.2 hs2)); (have b2 := Lib.hid hb2); (clear ho2 hg2 ha2 hs2 hb2)))
  go_name_world Y hY
  have bY := (al1 hY).1
  have N1 := (al1_0 hY).1
  have C1 := Lib.hid (al1_0 hY).2.1
  have BXY : Below X.heap.size X Y := b1.out.trans ((b2.out.trans (bY.mono b2.out.size)).mono z1)
  have C0 := Lib.hid (fun j => (BXY.cell (p := ⟨w.heap.size, j, none⟩) n0).trans (P0.out j))
  have N0 : w.heap.size < Y.heap.size := Nat.lt_of_lt_of_le n0 BXY.size
  have BW : Below w.heap.size w Y := BX.trans (BXY.mono zw)
  have zc := BW.size
  have SPO : SpsAt Y A1 n ls := (sps_iff.2 (sl_of_own encS_len HO.out HLI.out.1)).later (b2.out.trans (bY.mono b2.out.size))
  have SIO : IntsAt Y B2 m l := HI2.out.later bY
  have SPC : SpsAt Y A n ls := HLI.out.later BW
  have SIC : IntsAt Y B m l := HXI.out.later BW
  have b0 : Below Y.heap.size Y Y := Below.refl _ _
  have hco : ∀ V, Below Y.heap.size Y V → Calls Try.prog 30 #[.agg #[.slice A1 n k1, .int .i64 q.need, .int .i64 q.gap, .int .i64 q.doubt, .int .i64 q.joins, .int .i64 q.least]] V fun e V' => e = .returned (.int .i64 (erC (ckC n ls q))) ∧ Below V.heap.size V V' := fun V hV => check_c A1 n k1 q ls V hn40 HQ.out (SPO.later hV)
  have hcc : ∀ V, Below Y.heap.size Y V → Calls Try.prog 31 #[.agg #[.slice A n c, .int .i64 q.need, .int .i64 q.gap, .int .i64 q.doubt, .int .i64 q.joins, .int .i64 q.least]] V fun e V' => e = .returned (.int .i64 (erC (ckC n ls q))) ∧ Below V.heap.size V V' := fun V hV => refCheck_c A n c q ls V hn40 (SPC.later hV)
  have hgo : ∀ V, Below Y.heap.size Y V → Calls Try.prog 28 #[.agg #[.slice A1 n k1, .int .i64 q.need, .int .i64 q.gap, .int .i64 q.doubt, .int .i64 q.joins, .int .i64 q.least], .slice B2 m d2] V fun e V' => e = .returned (.tuple #[.bool (gvG n m ls q l), .int .i64 (gvE n m ls q l)]) ∧ Below V.heap.size V V' := fun V hV =>
    Good_c A1 B2 n k1 m d2 q ls l V hn40 hm40 HQ.out (SPO.later hV) (SIO.later hV)
  have hgc : ∀ V, Below Y.heap.size Y V → Calls Try.prog 32 #[.agg #[.slice A n c, .int .i64 q.need, .int .i64 q.gap, .int .i64 q.doubt, .int .i64 q.joins, .int .i64 q.least], .slice B m d] V fun e V' => e = .returned (.tuple #[.bool (gvG n m ls q l), .int .i64 (gvE n m ls q l)]) ∧ Below V.heap.size V V' := fun V hV =>
    refGood_c A B n c m d q ls l V hn40 hm40 (SPC.later hV) (SIC.later hV)
  have hso : ∀ V, Below Y.heap.size Y V → Calls Try.prog 33 #[.agg #[.slice A1 n k1, .int .i64 q.need, .int .i64 q.gap, .int .i64 q.doubt, .int .i64 q.joins, .int .i64 q.least], .slice B2 m d2] V fun e V' => e = .returned (.tuple #[.int .i64 (gvS n m ls q l), .int .i64 (gvE n m ls q l)]) ∧ Below V.heap.size V V' := fun V hV =>
    Shackles_c A1 B2 n k1 m d2 q ls l V hn40 hm40 HQ.out (SPO.later hV) (SIO.later hV)
  have hsc : ∀ V, Below Y.heap.size Y V → Calls Try.prog 34 #[.agg #[.slice A n c, .int .i64 q.need, .int .i64 q.gap, .int .i64 q.doubt, .int .i64 q.joins, .int .i64 q.least], .slice B m d] V fun e V' => e = .returned (.tuple #[.int .i64 (gvS n m ls q l), .int .i64 (gvE n m ls q l)]) ∧ Below V.heap.size V V' := fun V hV =>
    refShackles_c A B n c m d q ls l V hn40 hm40 (SPC.later hV) (SIC.later hV)
  have hsm : ∀ V, Below Y.heap.size Y V → Calls Try.prog 25 #[.agg #[.slice A1 n k1, .int .i64 q.need, .int .i64 q.gap, .int .i64 q.doubt, .int .i64 q.joins, .int .i64 q.least], .agg #[.slice A n c, .int .i64 q.need, .int .i64 q.gap, .int .i64 q.doubt, .int .i64 q.joins, .int .i64 q.least]] V fun e V' => e = .returned (.bool true) ∧ Below V.heap.size V V' := fun V hV => same_c A1 A n k1 c q ls V hn40 (SPO.later hV) (SPC.later hV)
  have hsi : ∀ V, Below Y.heap.size Y V → Calls Try.prog 35 #[.slice B2 m d2, .slice B m d] V fun e V' => e = .returned (.bool true) ∧ Below V.heap.size V V' := fun V hV => by
    have := SameInts_c B2 B m m d2 d l l V hm40 hm40 (SIO.later hV) (SIC.later hV)
    rwa [show (m == m && allN m fun k => iAt l k == iAt l k) = true by rw [allN_iff.2 fun k _ => by simp]; simp] at this
  obtain ⟨E, hE⟩ : ∃ E, erC (ckC n ls q) = E := ⟨_, rfl⟩
  obtain ⟨G, hG⟩ : ∃ E, gvG n m ls q l = E := ⟨_, rfl⟩
  obtain ⟨F, hF⟩ : ∃ E, gvE n m ls q l = E := ⟨_, rfl⟩
  obtain ⟨S, hS⟩ : ∃ E, gvS n m ls q l = E := ⟨_, rfl⟩
  rw [hE] at hco hcc
  rw [hG, hF] at hgo hgc
  rw [hS, hF] at hso hsc
  replace hco := Lib.hid hco
  replace hcc := Lib.hid hcc
  replace hgo := Lib.hid hgo
  replace hgc := Lib.hid hgc
  replace hso := Lib.hid hso
  replace hsc := Lib.hid hsc
  replace hsm := Lib.hid hsm
  replace hsi := Lib.hid hsi
  have e1 : (E != E) = false := by simp
  have e2 : (G == G) = true := by simp
  have e3 : (F == F) = true := by simp
  have e4 : (S == S) = true := by simp
  clear hY bY BXY SPO SIO SPC SIC hE hG hF hS b1 b2 HO HI2 BX z1
  have c0_0 := fun j => (b0.cell (p := ⟨w.heap.size, j, none⟩) N0).trans (C0.out j)
  have c0_1 := fun j => (b0.cell (p := ⟨w2.heap.size, j, none⟩) N1).trans (C1.out j)
  have z0 := b0.size
  have hcq := fun p : Regrown => (bcell (below_regrown Y p.d p.os)).1
  refine wp_region_quiet_below (by kernel_rfl) (by kernel_rfl) ?_
  repeat (go_big_quiet_step ((first | (go_at_call 30; exact Calls.regrown_of (hco.out _ (below_regrown _ _ _))) | (go_at_call 31; exact Calls.regrown_of (hcc.out _ (below_regrown _ _ _))))))
  refine wpQuiet_nil ?_
  intro wq hq
  obtain ⟨pq, hq⟩ := hq
  have hbq : Below Y.heap.size Y wq := by rw [hq]; exact below_regrown _ _ _
  clear hq hcq pq
  obtain ⟨hcq, hfq⟩ := bcell hbq
  have zq := hbq.size
  obtain ⟨w3, rfl⟩ : ∃ w3 : World, w3 = wq := ⟨_, rfl⟩
  have b3 := hbq
  clear hbq hcq hfq c0_0 c0_1
  have c3_0 := fun j => (b3.cell (p := ⟨w.heap.size, j, none⟩) N0).trans (C0.out j)
  have c3_1 := fun j => (b3.cell (p := ⟨w2.heap.size, j, none⟩) N1).trans (C1.out j)
  have z3 := b3.size
  go_wp2_with fail
  refine (hgo.out _ b3).mono ?_
  rintro e w4 ⟨rfl, hb4⟩
  have b4 : Below Y.heap.size Y w4 := b3.trans (hb4.mono z3)
  clear hb4 c3_0 c3_1 b3
  have c4_0 := fun j => (b4.cell (p := ⟨w.heap.size, j, none⟩) N0).trans (C0.out j)
  have c4_1 := fun j => (b4.cell (p := ⟨w2.heap.size, j, none⟩) N1).trans (C1.out j)
  have z4 := b4.size
  go_wp2_with fail
  refine (hgc.out _ b4).mono ?_
  rintro e w5 ⟨rfl, hb5⟩
  have b5 : Below Y.heap.size Y w5 := b4.trans (hb5.mono z4)
  clear hb5 c4_0 c4_1 b4
  have c5_0 := fun j => (b5.cell (p := ⟨w.heap.size, j, none⟩) N0).trans (C0.out j)
  have c5_1 := fun j => (b5.cell (p := ⟨w2.heap.size, j, none⟩) N1).trans (C1.out j)
  have z5 := b5.size
  go_wp2_with fail
  refine (hso.out _ b5).mono ?_
  rintro e w6 ⟨rfl, hb6⟩
  have b6 : Below Y.heap.size Y w6 := b5.trans (hb6.mono z5)
  clear hb6 c5_0 c5_1 b5
  have c6_0 := fun j => (b6.cell (p := ⟨w.heap.size, j, none⟩) N0).trans (C0.out j)
  have c6_1 := fun j => (b6.cell (p := ⟨w2.heap.size, j, none⟩) N1).trans (C1.out j)
  have z6 := b6.size
  go_wp2_with fail
  refine (hsc.out _ b6).mono ?_
  rintro e w7 ⟨rfl, hb7⟩
  have b7 : Below Y.heap.size Y w7 := b6.trans (hb7.mono z6)
  clear hb7 c6_0 c6_1 b6
  have c7_0 := fun j => (b7.cell (p := ⟨w.heap.size, j, none⟩) N0).trans (C0.out j)
  have c7_1 := fun j => (b7.cell (p := ⟨w2.heap.size, j, none⟩) N1).trans (C1.out j)
  have z7 := b7.size
  go_wp2_with fail
  refine (hsm.out _ b7).mono ?_
  rintro e w8 ⟨rfl, hb8⟩
  have b8 : Below Y.heap.size Y w8 := b7.trans (hb8.mono z7)
  clear hb8 c7_0 c7_1 b7
  have c8_0 := fun j => (b8.cell (p := ⟨w.heap.size, j, none⟩) N0).trans (C0.out j)
  have c8_1 := fun j => (b8.cell (p := ⟨w2.heap.size, j, none⟩) N1).trans (C1.out j)
  have z8 := b8.size
  go_wp2_with fail
  refine (hsi.out _ b8).mono ?_
  rintro e w9 ⟨rfl, hb9⟩
  have b9 : Below Y.heap.size Y w9 := b8.trans (hb9.mono z8)
  clear hb9 c8_0 c8_1 b8
  have c9_0 := fun j => (b9.cell (p := ⟨w.heap.size, j, none⟩) N0).trans (C0.out j)
  have c9_1 := fun j => (b9.cell (p := ⟨w2.heap.size, j, none⟩) N1).trans (C1.out j)
  have z9 := b9.size
  go_wp2_with fail
  refine (hwk.out _).mono ?_
  rintro e w99 ⟨rfl, hb99⟩
  go_wp2
  go_ret
  exact ⟨rfl, BW.trans (Below.mono (b9.trans (hb99.mono z9)) zc)⟩

end Go.Proofs.Ythjjakhmbgnnnaa
