/- Fits and Fewest of the specification (layer 1). -/
import Derived.Test.YtmopnbijfcamjaaRf5
namespace Go.Proofs.Ytmopnbijfcamjaa
open Go.RowKit
open Go.Sort (grow)
set_option linter.unusedVariables false

theorem fit_is {bs : List Br} {ps : List Pc} {kf wr : Int} {ls : List Int} (h : ckS bs ps kf wr = true) : fitP bs ps kf wr ls = bif isSw bs.length ps.length ls then (isT bs ps kf wr ls, 0) else (false, 1) := by
  unfold fitP
  have e0 : (ls.length == ps.length && !badI bs.length ls) = isSw bs.length ps.length ls := by unfold isSw; rw [Bool.and_comm]
  rw [h, e0]
  cases e : isSw bs.length ps.length ls
  · rfl
  · have : ((swA bs ps kf wr).any fun x => eqI x.of ls) = isT bs ps kf wr ls := by
      rw [Bool.eq_iff_iff, isT_iff, List.any_eq_true, swA_ok h (ckS_vals h).2.2.2.1.1]
      constructor
      · rintro ⟨x, hx, hq⟩
        obtain ⟨l, hl, rfl⟩ := List.mem_map.1 hx
        exact ⟨l, (eqI_iff.1 hq).symm, hl⟩
      · rintro ⟨l, rfl, hl⟩
        exact ⟨_, List.mem_map.2 ⟨l, hl, rfl⟩, eqI_iff.2 rfl⟩
    rw [this]; rfl
def FwInv (bs : List Br) (ps : List Pc) (T : List (List Nat)) (k n : Nat) : Prop := (n = ps.length ∨ ∃ j, j < k ∧ wgB bs ps (lAt T j) = n) ∧ n ≤ ps.length ∧ ∀ j, j < k → n ≤ wgB bs ps (lAt T j)
theorem FwInv.step {bs : List Br} {ps : List Pc} {T : List (List Nat)} {k n n' : Nat} (h : FwInv bs ps T k n) (hn : min (n : Int) (wgB bs ps (lAt T k) : Nat) = n') : FwInv bs ps T (k + 1) n' := by
  obtain ⟨h1, h2, h3⟩ := h
  have a1 : n' ≤ n := by clear h1 h3; omega
  have a2 : n' ≤ wgB bs ps (lAt T k) := by clear h1 h3; omega
  have a3 : n' = n ∨ n' = wgB bs ps (lAt T k) := by clear h1 h3; omega
  clear hn
  refine ⟨?_, Nat.le_trans a1 h2, fun j hj => ?_⟩
  · rcases a3 with e | e
    · rcases h1 with h1 | ⟨j, hj, h1⟩
      · exact .inl (e.trans h1)
      · exact .inr ⟨j, Nat.lt_succ_of_lt hj, h1.trans e.symm⟩
    · exact .inr ⟨k, Nat.lt_succ_self k, e.symm⟩
  · rcases Nat.lt_succ_iff_lt_or_eq.1 hj with h' | rfl
    · exact Nat.le_trans a1 (h3 j h')
    · exact a2
theorem few_end {bs : List Br} {ps : List Pc} {kf wr : Int} {n : Nat} (h : ckS bs ps kf wr = true) (hi : FwInv bs ps (trL bs ps kf 8) (trL bs ps kf 8).length n) : (trL bs ps kf 8 = [] ∧ fewP bs ps kf wr = (0, 3)) ∨ (trL bs ps kf 8 ≠ [] ∧ fewP bs ps kf wr = ((n : Int), 0)) := by
  rcases few_ok h with ⟨e, h2⟩ | ⟨r, e, ⟨l, hl, h1⟩, h2⟩
  · exact .inl ⟨h2, e⟩
  · refine .inr ⟨fun e' => (by rw [e'] at hl; cases hl), ?_⟩
    rw [e]
    obtain ⟨i1, i2, i3⟩ := hi
    obtain ⟨i, hi, rfl⟩ := List.getElem_of_mem hl
    have a2 := i3 i hi
    have e : lAt (trL bs ps kf 8) i = (trL bs ps kf 8)[i] := by unfold lAt; rw [List.getD_eq_getElem?_getD, List.getElem?_eq_getElem hi]; rfl
    rw [e] at a2
    have : r ≤ n := by
      rcases i1 with i1 | ⟨j, hj, i1⟩
      · have := wgB_len (bs := bs) (ps := ps) (l := (trL bs ps kf 8)[i])
        have := (trL_mem.1 hl).1.1
        omega
      · have := h2 _ (lAt_mem hj); omega
    rw [show n = r by omega]
section
variable (Ab Ap : Option Addr) (nb cb np cp : Nat) (kf wrg : Int) (bs : List Br) (ms : List Pm) (ps : List Pc) (w : World)
set_option maxRecDepth 100000 in
set_option maxHeartbeats 1600000 in
theorem refFits_c (As : Option Addr) (ns cs : Nat) (ls : List Int) (h1 : nb ≤ 40) (h2 : np ≤ 40) (h4 : ns ≤ 40) (h3 : ∀ k, k < np → (pcAt ps k).hs.length ≤ 40) (HB : BrsAt w Ab nb bs) (HP : PcsAt w Ap np ms ps) (HS : IntsAt w As ns ls) :
    Calls Try.prog 46 #[.agg #[.slice Ab nb cb, .int .i64 kf, .slice Ap np cp, .int .i64 wrg], .slice As ns cs] w fun e w' => e = .returned (.tuple #[.bool (fitP bs ps kf wrg ls).1, .int .i64 (fitP bs ps kf wrg ls).2]) ∧ Below w.heap.size w w' := by
  have hcc : ∀ V, Below w.heap.size w V → Calls Try.prog 44 #[.agg #[.slice Ab nb cb, .int .i64 kf, .slice Ap np cp, .int .i64 wrg]] V fun e V' => e = .returned (.int .i64 (erS (ckS bs ps kf wrg))) ∧ Below V.heap.size V V' := fun V hV =>
    refCheck_c Ab Ap nb cb np cp kf wrg bs ms ps V h1 h2 h3 (HB.later hV) (HP.later hV)
  cases ek : ckS bs ps kf wrg
  · rw [ek, show erS false = 10 from rfl] at hcc
    have e1 : fitP bs ps kf wrg ls = (false, 10) := by unfold fitP; rw [ek]; rfl
    rw [e1]
    replace hcc := Lib.hid hcc
    clear HB HP HS ek e1 h3
    go_enter Try.func46, Try.ntmps46
    go_wp2_with fail
    obtain ⟨W, hW⟩ : ∃ W, w.alloc (.cells #[.slice (Ab) nb cb, .int .i64 kf, .slice (Ap) np cp, .int .i64 wrg] 25) = W := ⟨_, rfl⟩
    have B0 : Below w.heap.size w W := by rw [← hW]; exact (Below.refl _ _).alloc (Nat.le_refl _) _
    have c0 := Lib.hid (al1_0 hW).2.1
    have l0 := (al1_0 hW).1
    rw [hW]
    clear hW
    have zW := B0.size
    refine (hcc.out _ B0).mono ?_
    rintro e w1 ⟨rfl, hb1⟩
    have B1 : Below w.heap.size w w1 := B0.trans (hb1.mono zW)
    have c1 := fun j => (hb1.cell (p := ⟨w.heap.size, j, none⟩) l0).trans (c0.out j)
    have z1 := hb1.size
    have l1 : w.heap.size < w1.heap.size := by omega
    go_wp2_with fail
    exact bodyPost_ret (v := .tuple #[.bool false, .int .i64 10]) (by simp [results, Try.results46, go_sem]) rfl ⟨rfl, by (repeat first | with_reducible assumption | with_reducible exact Below.refl _ _ | (with_reducible refine Below.alloc ?_ ?side _; case side => (first | omega | (with_reducible exact Below.size (by assumption)) | (simp; done) | (simp; omega))) | (with_reducible refine Below.setCell ?_ ?side _; case side => (first | omega | (with_reducible exact Below.size (by assumption)) | (simp; done) | (simp; omega))) | with_reducible refine Below.drew ?_ | with_reducible refine below_drewN ?_ _ | (with_reducible refine below_step (by assumption) ?side ?_; case side => (first | omega | (with_reducible exact Below.size (by assumption)) | (simp; done) | (simp; omega))))⟩
  rw [ek, show erS true = 0 from rfl] at hcc
  replace hcc := Lib.hid hcc
  have hsw : ∀ V, Below w.heap.size w V → Calls Try.prog 67 #[.agg #[.slice Ab nb cb, .int .i64 kf, .slice Ap np cp, .int .i64 wrg], .slice As ns cs] V fun e V' => e = .returned (.bool (isSw nb np ls)) ∧ Below V.heap.size V V' := fun V hV =>
    IsSawing_c Ab Ap As nb cb np cp ns cs kf wrg ls V h1 h2 h4 (HS.later hV)
  have hit : ∀ V, Below w.heap.size w V → Calls Try.prog 27 #[.agg #[.slice Ab nb cb, .int .i64 kf, .slice Ap np cp, .int .i64 wrg], .slice As ns cs] V fun e V' => e = .returned (.bool (isT bs ps kf wrg ls)) ∧ Below V.heap.size V V' := fun V hV =>
    refTruth_c Ab Ap As nb cb np cp ns cs kf wrg bs ms ps V ls h4 h3 ek (HB.later hV) (HP.later hV) (HS.later hV)
  rw [fit_is ek, HB.1, HP.pl]
  obtain ⟨T, hT⟩ : ∃ T, isT bs ps kf wrg ls = T := ⟨_, rfl⟩
  rw [hT] at hit ⊢
  replace hit := Lib.hid hit
  clear HB HP HS ek h3 hT
  cases e1 : isSw nb np ls
  · rw [e1] at hsw
    replace hsw := Lib.hid hsw
    clear e1
    go_enter Try.func46, Try.ntmps46
    go_wp2_with fail
    obtain ⟨W, hW⟩ : ∃ W, w.alloc (.cells #[.slice (Ab) nb cb, .int .i64 kf, .slice (Ap) np cp, .int .i64 wrg] 25) = W := ⟨_, rfl⟩
    have B0 : Below w.heap.size w W := by rw [← hW]; exact (Below.refl _ _).alloc (Nat.le_refl _) _
    have c0 := Lib.hid (al1_0 hW).2.1
    have l0 := (al1_0 hW).1
    rw [hW]
    clear hW
    have zW := B0.size
    refine (hcc.out _ B0).mono ?_
    rintro e w1 ⟨rfl, hb1⟩
    have B1 : Below w.heap.size w w1 := B0.trans (hb1.mono zW)
    have c1 := fun j => (hb1.cell (p := ⟨w.heap.size, j, none⟩) l0).trans (c0.out j)
    have z1 := hb1.size
    have l1 : w.heap.size < w1.heap.size := by omega
    go_wp2_with fail
    refine (hsw.out _ B1).mono ?_
    rintro e w2 ⟨rfl, hb2⟩
    go_wp2_with fail
    exact bodyPost_ret (v := .tuple #[.bool false, .int .i64 1]) (by simp [results, Try.results46, go_sem]) rfl ⟨rfl, by (repeat first | with_reducible assumption | with_reducible exact Below.refl _ _ | (with_reducible refine Below.alloc ?_ ?side _; case side => (first | omega | (with_reducible exact Below.size (by assumption)) | (simp; done) | (simp; omega))) | (with_reducible refine Below.setCell ?_ ?side _; case side => (first | omega | (with_reducible exact Below.size (by assumption)) | (simp; done) | (simp; omega))) | with_reducible refine Below.drew ?_ | with_reducible refine below_drewN ?_ _ | (with_reducible refine below_step (by assumption) ?side ?_; case side => (first | omega | (with_reducible exact Below.size (by assumption)) | (simp; done) | (simp; omega))))⟩
  · rw [e1] at hsw
    replace hsw := Lib.hid hsw
    clear e1
    go_enter Try.func46, Try.ntmps46
    go_wp2_with fail
    obtain ⟨W, hW⟩ : ∃ W, w.alloc (.cells #[.slice (Ab) nb cb, .int .i64 kf, .slice (Ap) np cp, .int .i64 wrg] 25) = W := ⟨_, rfl⟩
    have B0 : Below w.heap.size w W := by rw [← hW]; exact (Below.refl _ _).alloc (Nat.le_refl _) _
    have c0 := Lib.hid (al1_0 hW).2.1
    have l0 := (al1_0 hW).1
    rw [hW]
    clear hW
    have zW := B0.size
    refine (hcc.out _ B0).mono ?_
    rintro e w1 ⟨rfl, hb1⟩
    have B1 : Below w.heap.size w w1 := B0.trans (hb1.mono zW)
    have c1 := fun j => (hb1.cell (p := ⟨w.heap.size, j, none⟩) l0).trans (c0.out j)
    have z1 := hb1.size
    have l1 : w.heap.size < w1.heap.size := by omega
    go_wp2_with fail
    refine (hsw.out _ B1).mono ?_
    rintro e w2 ⟨rfl, hb2⟩
    have c2 := fun j => (hb2.cell (p := ⟨w.heap.size, j, none⟩) l1).trans (c1 j)
    have B2 : Below w.heap.size w w2 := B1.trans (hb2.mono B1.size)
    go_wp2_with fail
    refine (hit.out _ B2).mono ?_
    rintro e w3 ⟨rfl, hb3⟩
    have B3 : Below w.heap.size w w3 := B2.trans (hb3.mono B2.size)
    go_wp2_with fail
    exact bodyPost_ret (v := .tuple #[.bool T, .int .i64 0]) (by simp [results, Try.results46, go_sem]) rfl ⟨rfl, by (repeat first | with_reducible assumption | with_reducible exact Below.refl _ _ | (with_reducible refine Below.alloc ?_ ?side _; case side => (first | omega | (with_reducible exact Below.size (by assumption)) | (simp; done) | (simp; omega))) | (with_reducible refine Below.setCell ?_ ?side _; case side => (first | omega | (with_reducible exact Below.size (by assumption)) | (simp; done) | (simp; omega))) | with_reducible refine Below.drew ?_ | with_reducible refine below_drewN ?_ _ | (with_reducible refine below_step (by assumption) ?side ?_; case side => (first | omega | (with_reducible exact Below.size (by assumption)) | (simp; done) | (simp; omega))))⟩
set_option maxRecDepth 100000 in
set_option maxHeartbeats 3200000 in
theorem refFewest_c (h1 : nb ≤ 40) (h2 : np ≤ 40) (h3 : ∀ k, k < np → (pcAt ps k).hs.length ≤ 40) (hsm : ckS bs ps kf wrg = true → nb ≤ 4 ∧ np ≤ 5) (HB : BrsAt w Ab nb bs) (HP : PcsAt w Ap np ms ps) :
    Calls Try.prog 47 #[.agg #[.slice Ab nb cb, .int .i64 kf, .slice Ap np cp, .int .i64 wrg]] w fun e w' => e = .returned (.tuple #[.int .i64 (fewP bs ps kf wrg).1, .int .i64 (fewP bs ps kf wrg).2]) ∧ Below w.heap.size w w' := by
  have hcc : ∀ V, Below w.heap.size w V → Calls Try.prog 44 #[.agg #[.slice Ab nb cb, .int .i64 kf, .slice Ap np cp, .int .i64 wrg]] V fun e V' => e = .returned (.int .i64 (erS (ckS bs ps kf wrg))) ∧ Below V.heap.size V V' := fun V hV =>
    refCheck_c Ab Ap nb cb np cp kf wrg bs ms ps V h1 h2 h3 (HB.later hV) (HP.later hV)
  cases ek : ckS bs ps kf wrg
  · rw [ek, show erS false = 10 from rfl] at hcc
    have e1 : fewP bs ps kf wrg = (0, 10) := by unfold fewP; rw [ek]; rfl
    rw [e1]
    replace hcc := Lib.hid hcc
    clear HB HP ek e1 h3
    go_enter Try.func47, Try.ntmps47
    go_wp2_with fail
    obtain ⟨W, hW⟩ : ∃ W, w.alloc (.cells #[.slice (Ab) nb cb, .int .i64 kf, .slice (Ap) np cp, .int .i64 wrg] 25) = W := ⟨_, rfl⟩
    have B0 : Below w.heap.size w W := by rw [← hW]; exact (Below.refl _ _).alloc (Nat.le_refl _) _
    have c0 := Lib.hid (al1_0 hW).2.1
    have l0 := (al1_0 hW).1
    rw [hW]
    clear hW
    have zW := B0.size
    refine (hcc.out _ B0).mono ?_
    rintro e w1 ⟨rfl, hb1⟩
    have B1 : Below w.heap.size w w1 := B0.trans (hb1.mono zW)
    have c1 := fun j => (hb1.cell (p := ⟨w.heap.size, j, none⟩) l0).trans (c0.out j)
    have z1 := hb1.size
    have l1 : w.heap.size < w1.heap.size := by omega
    go_wp2_with fail
    exact bodyPost_ret (v := .tuple #[.int .i64 0, .int .i64 10]) (by simp [results, Try.results47, go_sem]) rfl ⟨rfl, by (repeat first | with_reducible assumption | with_reducible exact Below.refl _ _ | (with_reducible refine Below.alloc ?_ ?side _; case side => (first | omega | (with_reducible exact Below.size (by assumption)) | (simp; done) | (simp; omega))) | (with_reducible refine Below.setCell ?_ ?side _; case side => (first | omega | (with_reducible exact Below.size (by assumption)) | (simp; done) | (simp; omega))) | with_reducible refine Below.drew ?_ | with_reducible refine below_drewN ?_ _ | (with_reducible refine below_step (by assumption) ?side ?_; case side => (first | omega | (with_reducible exact Below.size (by assumption)) | (simp; done) | (simp; omega))))⟩
  rw [ek, show erS true = 0 from rfl] at hcc
  replace hcc := Lib.hid hcc
  obtain ⟨hn4, hp5⟩ := hsm ek
  have hbl := HB.1
  have hpl := HP.pl
  have hall : ∀ V, Below w.heap.size w V → Calls Try.prog 79 #[.agg #[.slice Ab nb cb, .int .i64 kf, .slice Ap np cp, .int .i64 wrg], .slice none 0 0] V (AllRet none (trL bs ps kf 8) V) := fun V hV => by
    rw [← allF_tr, hpl]
    exact refall_c Ab Ap nb cb np cp kf wrg bs ms ps hn4 hp5 ek np none 0 0 [] V (HB.later hV) (HP.later hV) ⟨rfl, fun h => absurd h (by omega)⟩ (fun a h => by cases h) (by omega)
  have hwr : ∀ (A : Option Addr) (c : Nat) (l : List Nat) V, l ∈ trL bs ps kf 8 → Below w.heap.size w V → IntsAt V A l.length (toI l) → Calls Try.prog 49 #[.agg #[.slice Ab nb cb, .int .i64 kf, .slice Ap np cp, .int .i64 wrg], .slice A l.length c] V fun e V' => e = .returned (.int .i64 (wgB bs ps l : Nat)) ∧ Below V.heap.size V V' := fun A c l V hl hV hI => by
    obtain ⟨⟨k1, k2⟩, -⟩ := trL_mem.1 hl
    rw [hbl] at k2
    exact refWrongs_c Ab Ap A nb cb np cp l.length c kf wrg bs ms ps l V h2 k2 h3 (HB.later hV) (HP.later hV) hI (by omega)
  have hle := trL_le (bs := bs) (ps := ps) (kf := kf) (wr := 8) (by omega) (by omega)
  have hfe := fun n => few_end (n := n) ek
  obtain ⟨T, hT⟩ : ∃ T, trL bs ps kf 8 = T := ⟨_, rfl⟩
  rw [hT] at hall hwr hle hfe
  obtain ⟨R, hR⟩ : ∃ R, fewP bs ps kf wrg = R := ⟨_, rfl⟩
  rw [hR] at hfe ⊢
  replace hall := Lib.hid hall
  replace hwr := Lib.hid hwr
  obtain ⟨m, hm⟩ : ∃ m, T.length = m := ⟨_, rfl⟩
  rw [hm] at hle hfe
  have HM := Lib.hid hm
  have HFE := Lib.hid hfe
  have HPL := Lib.hid hpl
  clear HB HP ek h3 hT hbl hpl hR hfe
  by_cases e : T = []
  · obtain rfl : m = 0 := by rw [← hm, e]; rfl
    have hE : Hid (R = (0, 3)) := Lib.hid (by
      rcases HFE.out ps.length ⟨.inl rfl, Nat.le_refl _, fun j hj => absurd hj (by omega)⟩ with ⟨-, h⟩ | ⟨h, -⟩
      · exact h
      · exact absurd e h)
    clear e hm
    go_enter Try.func47, Try.ntmps47
    go_wp2_with fail
    obtain ⟨W, hW⟩ : ∃ W, w.alloc (.cells #[.slice (Ab) nb cb, .int .i64 kf, .slice (Ap) np cp, .int .i64 wrg] 25) = W := ⟨_, rfl⟩
    have B0 : Below w.heap.size w W := by rw [← hW]; exact (Below.refl _ _).alloc (Nat.le_refl _) _
    have c0 := Lib.hid (al1_0 hW).2.1
    have l0 := (al1_0 hW).1
    rw [hW]
    clear hW
    have zW := B0.size
    refine (hcc.out _ B0).mono ?_
    rintro e w1 ⟨rfl, hb1⟩
    have B1 : Below w.heap.size w w1 := B0.trans (hb1.mono zW)
    have c1 := fun j => (hb1.cell (p := ⟨w.heap.size, j, none⟩) l0).trans (c0.out j)
    have z1 := hb1.size
    have l1 : w.heap.size < w1.heap.size := by omega
    go_wp2_with fail
    refine (hall.out _ B1).mono ?_
    rintro e w2 ⟨A2, c2, hs2, rfl, -, -, hb2⟩
    rw [HM.out]
    go_wp2_with fail
    exact bodyPost_ret (v := .tuple #[.int .i64 0, .int .i64 3]) (by simp [results, Try.results47, go_sem]) rfl ⟨by rw [hE.out], by (repeat first | with_reducible assumption | with_reducible exact Below.refl _ _ | (with_reducible refine Below.alloc ?_ ?side _; case side => (first | omega | (with_reducible exact Below.size (by assumption)) | (simp; done) | (simp; omega))) | (with_reducible refine Below.setCell ?_ ?side _; case side => (first | omega | (with_reducible exact Below.size (by assumption)) | (simp; done) | (simp; omega))) | with_reducible refine Below.drew ?_ | with_reducible refine below_drewN ?_ _ | (with_reducible refine below_step (by assumption) ?side ?_; case side => (first | omega | (with_reducible exact Below.size (by assumption)) | (simp; done) | (simp; omega))))⟩
  have hFE : Hid (∀ n, FwInv bs ps T m n → R = ((n : Int), 0)) := Lib.hid fun n h => by
    rcases HFE.out n h with ⟨h, -⟩ | ⟨-, h⟩
    · exact absurd h e
    · exact h
  have hpos := List.length_pos_iff.2 e
  rw [hm] at hpos
  have q0 : ((m : Int) == 0) = false := by rw [beq_eq_false_iff_ne]; omega
  clear e hm HFE
  go_enter Try.func47, Try.ntmps47
  go_wp2_with fail
  obtain ⟨W, hW⟩ : ∃ W, w.alloc (.cells #[.slice (Ab) nb cb, .int .i64 kf, .slice (Ap) np cp, .int .i64 wrg] 25) = W := ⟨_, rfl⟩
  have B0 : Below w.heap.size w W := by rw [← hW]; exact (Below.refl _ _).alloc (Nat.le_refl _) _
  have c0 := Lib.hid (al1_0 hW).2.1
  have l0 := (al1_0 hW).1
  rw [hW]
  clear hW
  have zW := B0.size
  refine (hcc.out _ B0).mono ?_
  rintro e w1 ⟨rfl, hb1⟩
  have B1 : Below w.heap.size w w1 := B0.trans (hb1.mono zW)
  have c1 := fun j => (hb1.cell (p := ⟨w.heap.size, j, none⟩) l0).trans (c0.out j)
  have z1 := hb1.size
  have l1 : w.heap.size < w1.heap.size := by omega
  go_wp2_with fail
  refine (hall.out _ B1).mono ?_
  rintro e w2 ⟨A2, c2, hs2, rfl, hss, -, hb2⟩
  rw [HM.out] at hss
  have HSS := Lib.hid hss
  have B2 : Below w.heap.size w w2 := B1.trans (hb2.mono B1.size)
  have C2 := fun j => (hb2.cell (p := ⟨w.heap.size, j, none⟩) l1).trans (c1 j)
  have z2 := hb2.size
  clear hss hb2 c1
  rw [HM.out]
  go_wp2_with fail
  replace C2 := Lib.hid C2
  clear q0 hpos
  go_loopw [6, 7] (fun v i (wr : World) => ∃ (k n : Nat), k ≤ m ∧ i = .int .i64 k ∧ v = .int .i64 n ∧ Hid (FwInv bs ps T k n) ∧ Below w2.heap.size w2 wr) (fun _ i _ => m - (intOf i).toNat)
  case atStart => exact ⟨0, np, by omega, rfl, rfl, Lib.hid ⟨.inl HPL.out.symm, Nat.le_of_eq HPL.out.symm, fun j hj => absurd hj (by omega)⟩, Below.refl _ _⟩
  case round =>
    obtain ⟨k, n, hk, rfl, rfl, HI, hb⟩ := hrel
    have zb := hb.size
    have l2 : w.heap.size < w2.heap.size := by omega
    have cc := fun j => (hb.cell (p := ⟨w.heap.size, j, none⟩) l2).trans (C2.out j)
    have hbw : Below w.heap.size w wr := B2.trans (hb.mono (by omega))
    have m0 : w.heap.size < wr.heap.size := by omega
    by_cases hlt : k < m
    · have hqB : decide ((k : Int) < m) = true := by simp; omega
      obtain ⟨b1, o1, rfl, hb1, x1, i1⟩ := (HSS.out.later hb).get hlt
      rw [xAt_map] at i1
      have hmem := lAt_mem (L := T) (k := k) (by rw [HM.out]; exact hlt)
      obtain ⟨n', hn'⟩ : ∃ n' : Nat, min (n : Int) (wgB bs ps (lAt T k) : Nat) = n' := ⟨min n (wgB bs ps (lAt T k)), by omega⟩
      have HST := Lib.hid (HI.out.step hn')
      obtain ⟨l, hl⟩ : ∃ l, lAt T k = l := ⟨_, rfl⟩
      obtain ⟨h, hh⟩ : ∃ h, hAt hs2 k = h := ⟨_, rfl⟩
      rw [hl] at i1 hmem hn'
      rw [hh] at x1 i1
      have hnn : l.length = h.n := by rw [← toI_len]; exact i1.1
      have hw := fun V hV hI => hwr.out h.A h.c l V hmem hV hI
      rw [hnn] at hw
      obtain ⟨g, hg⟩ : ∃ g : Nat, wgB bs ps l = g := ⟨_, rfl⟩
      rw [hg] at hw hn'
      have HW2 : Hid (∀ V, Below wr.heap.size wr V → Calls Try.prog 49 #[.agg #[.slice Ab nb cb, .int .i64 kf, .slice Ap np cp, .int .i64 wrg], .slice h.A h.n h.c] V fun e V' => e = .returned (.int .i64 g) ∧ Below V.heap.size V V') := Lib.hid fun V hV => hw V (hbw.trans (hV.mono hbw.size)) (i1.later hV)
      clear hl hh hg hmem hw i1 hnn
      go_upto_region 11 with (fail)
      have hcq := fun p : Regrown => (bcell (below_regrown wr p.d p.os)).1
      refine wp_region_quiet_below (by kernel_rfl) (by kernel_rfl) ?_
      repeat (go_big_quiet_step ((go_at_call 49; exact Calls.regrown_of (HW2.out _ (below_regrown _ _ _)))))
      refine wpQuiet_nil ?_
      intro wq hq
      obtain ⟨pq, hq⟩ := hq
      have hbq : Below wr.heap.size wr wq := by rw [hq]; exact below_regrown _ _ _
      clear hq hcq pq
      obtain ⟨hcq, hfq⟩ := bcell hbq
      have zq := hbq.size
      go_wp2_with fail
      go_roundw
      case rel => exact ⟨k + 1, n', by omega, by go_num, rfl, HST, by (repeat first | with_reducible assumption | with_reducible exact Below.refl _ _ | (with_reducible refine Below.alloc ?_ ?side _; case side => (first | omega | (with_reducible exact Below.size (by assumption)) | (simp; done) | (simp; omega))) | (with_reducible refine Below.setCell ?_ ?side _; case side => (first | omega | (with_reducible exact Below.size (by assumption)) | (simp; done) | (simp; omega))) | with_reducible refine Below.drew ?_ | with_reducible refine below_drewN ?_ _ | (with_reducible refine below_step (by assumption) ?side ?_; case side => (first | omega | (with_reducible exact Below.size (by assumption)) | (simp; done) | (simp; omega))))⟩
      case measure => simp [intOf]; omega
    · obtain rfl : k = m := by omega
      have hqB : decide (((k : Nat) : Int) < k) = false := by simp
      have hE := Lib.hid (hFE.out n HI.out)
      clear HI hFE
      go_wp2_with fail
      exact bodyPost_ret (v := .tuple #[.int .i64 n, .int .i64 0]) (by simp [results, Try.results47, go_sem]) rfl ⟨by rw [hE.out], by (repeat first | with_reducible assumption | with_reducible exact Below.refl _ _ | (with_reducible refine Below.alloc ?_ ?side _; case side => (first | omega | (with_reducible exact Below.size (by assumption)) | (simp; done) | (simp; omega))) | (with_reducible refine Below.setCell ?_ ?side _; case side => (first | omega | (with_reducible exact Below.size (by assumption)) | (simp; done) | (simp; omega))) | with_reducible refine Below.drew ?_ | with_reducible refine below_drewN ?_ _ | (with_reducible refine below_step (by assumption) ?side ?_; case side => (first | omega | (with_reducible exact Below.size (by assumption)) | (simp; done) | (simp; omega))))⟩
end

end Go.Proofs.Ytmopnbijfcamjaa
