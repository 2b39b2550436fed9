/- IsSawing of the specification (layer 1). -/
import Derived.Test.YtdhlnlmhdacblaaTs14
import Derived.Test.YtdhlnlmhdacblaaTs16
import Derived.Test.YtdhlnlmhdacblaaTs17
namespace Go.Proofs.Ytdhlnlmhdacblaa
open Go.RowKit
open Go.Sort (grow)
set_option linter.unusedVariables false
set_option linter.unusedSimpArgs false

def isSw (nb np : Nat) (ls : List Int) : Bool := !badI nb ls && ls.length == np
theorem take_snoc {l : List Nat} {k : Nat} (h : k < l.length) : l.take (k + 1) = l.take k ++ [gN l k] := by
  unfold gN
  rw [List.take_add_one, List.getD_eq_getElem?_getD, List.getElem?_eq_getElem h]; rfl
set_option maxRecDepth 100000 in
set_option maxHeartbeats 1600000 in
theorem RestOf_c (Ab Ap As : Option Addr) (nb cb np cp ns cs b : Nat) (kf wrg : Int) (bs : List Br) (ms : List Pm) (ps : List Pc) (l : List Nat) (w : World) (hck : ckS bs ps kf wrg = true) (HB : BrsAt w Ab nb bs) (HP : PcsAt w Ap np ms ps) (HS : IntsAt w As ns (toI l)) (hb : b < nb) (hl : ns ≤ np) :
    Calls Try.prog 28 #[.agg #[.slice Ab nb cb, .int .i64 kf, .slice Ap np cp, .int .i64 wrg], .slice As ns cs, .int .i64 b] w fun e w' => e = .returned (.int .i64 (rsB bs ps kf l b)) ∧ Below w.heap.size w w' := by
  have hns : l.length = ns := by rw [← toI_len]; exact HS.1
  have HSI := Lib.hid HS
  have HBI := Lib.hid HB
  have HPI := Lib.hid HP
  have hv := ckS_vals hck
  have hpl := HP.pl
  have hbl := HB.1
  have h2 : np ≤ 8 := by rw [← hpl]; exact hv.2.1
  have h1 : nb ≤ 6 := by rw [← hbl]; exact hv.1
  have hkf := hv.2.2.1
  have hL := (hv.2.2.2.2.1 b (by rw [hbl]; exact hb)).2
  have HV := Lib.hid hv.2.2.2.2.2
  have HPL := Lib.hid hpl
  have HNS := Lib.hid hns
  obtain ⟨b0, o0, rfl, hb0, -, x1⟩ := HB.get hb
  obtain ⟨lg, hlg⟩ : ∃ x, (brAt bs b).long = x := ⟨_, rfl⟩
  rw [hlg] at x1 hL
  obtain ⟨R, hR⟩ : ∃ R, rsB bs ps kf l b = R := ⟨_, rfl⟩
  have HR : Hid (R = lg - smB ps l b - kf * ((l.count b - 1 : Nat) : Int)) := Lib.hid (by rw [← hR, ← hlg]; rfl)
  rw [hR]
  clear hR hlg HS HB HP hv hpl hbl hns
  have hqN : decide ((b : Int) < nb) = true := by simp; omega
  go_enter Try.func28, Try.ntmps28
  go_wp2_with fail
  obtain ⟨W, hW⟩ : ∃ W, w.alloc (.cells #[.slice (some ⟨b0, o0, none⟩) nb cb, .int .i64 kf, .slice Ap np cp, .int .i64 wrg] 25) = W := ⟨_, rfl⟩
  have B0 : Below w.heap.size w W := by rw [← hW]; exact (Below.refl _ _).alloc (Nat.le_refl _) _
  have c0 := Lib.hid (al1_0 hW).2.1
  have l0 := (al1_0 hW).1
  rw [hW]
  clear hW
  have zW := B0.size
  go_loopw [7, 8, 9] (fun r c i (wr : World) => ∃ (k m : Nat) (z : Int), k ≤ ns ∧ i = .int .i64 k ∧ r = .int .i64 z ∧ c = .int .i64 m ∧ Hid (z = lg - smB ps (l.take k) b ∧ m = (l.take k).count b) ∧ (-999 * (k : Int) ≤ z ∧ z ≤ 999) ∧ m ≤ k ∧ Below W.heap.size W wr) (fun _ _ i _ => ns - (intOf i).toNat)
  case atStart => exact ⟨0, 0, lg, by omega, rfl, rfl, rfl, Lib.hid (by simp [smB]), by omega, by omega, Below.refl _ _⟩
  case round =>
    obtain ⟨k, m, z, hk, rfl, rfl, rfl, H1, hz, hm, hbb⟩ := hrel
    have cc := fun j => (hbb.cell (p := ⟨w.heap.size, j, none⟩) l0).trans (c0.out j)
    have hbw : Below w.heap.size w wr := B0.trans (hbb.mono zW)
    by_cases hlt : k < ns
    · have hqB : decide ((k : Int) < ns) = true := by simp; omega
      have hqP : decide ((k : Int) < np) = true := by simp; omega
      obtain ⟨g, o, rfl, hg, x0⟩ := (HSI.out.later hbw).get hlt
      obtain ⟨bp, op, rfl, hbp, y0, -, -⟩ := (HPI.out.later hbw).get (show k < np by omega)
      have hpb := (HV.out k (by rw [HPL.out]; omega)).1
      obtain ⟨pl, hpl⟩ : ∃ x, (pcAt ps k).long = x := ⟨_, rfl⟩
      rw [hpl] at y0 hpb
      rw [toI_at] at x0
      have hsn := take_snoc (l := l) (k := k) (by rw [HNS.out]; exact hlt)
      have hlen : (l.take k).length = k := by rw [List.length_take, HNS.out]; omega
      have hsm := smB_snoc (ps := ps) (a := l.take k) (b := b) (c := gN l k) (by rw [hlen, HPL.out]; omega)
      rw [← hsn, hlen, hpl] at hsm
      have hct := count_snoc (a := l.take k) (b := b) (c := gN l k)
      rw [← hsn] at hct
      cases e1 : (gN l k == b)
      · have e2 : ((gN l k : Int) == (b : Int)) = false := by
          rw [beq_eq_false_iff_ne] at e1 ⊢; omega
        rw [e1] at hsm hct
        have HN := Lib.hid (show z = lg - smB ps (l.take (k + 1)) b ∧ m = (l.take (k + 1)).count b by
          rw [hsm, hct]
          have := H1.out
          simp only [cond_false]
          omega)
        clear hsm hct hsn hlen e1 hpl
        go_wp2_with fail
        go_roundw
        case rel => exact ⟨k + 1, m, z, by omega, by go_num, rfl, rfl, HN, by omega, by omega, by (repeat first | with_reducible assumption | with_reducible exact Below.refl _ _ | (with_reducible refine Below.alloc ?_ ?side _; case side => (first | omega | (with_reducible exact Below.size (by assumption)) | (simp; done) | (simp; omega))) | (with_reducible refine Below.setCell ?_ ?side _; case side => (first | omega | (with_reducible exact Below.size (by assumption)) | (simp; done) | (simp; omega))) | with_reducible refine Below.drew ?_ | with_reducible refine below_drewN ?_ _ | (with_reducible refine below_step (by assumption) ?side ?_; case side => (first | omega | (with_reducible exact Below.size (by assumption)) | (simp; done) | (simp; omega))))⟩
        case measure => simp [intOf]; omega
      · have e2 : ((gN l k : Int) == (b : Int)) = true := by
          rw [beq_iff_eq] at e1 ⊢; omega
        rw [e1] at hsm hct
        have HN := Lib.hid (show z - pl = lg - smB ps (l.take (k + 1)) b ∧ m + 1 = (l.take (k + 1)).count b by
          rw [hsm, hct]
          have := H1.out
          simp only [cond_true]
          omega)
        have hs1 : IntKind.i64.wrap (z - pl) = z - pl := IntWalk.i64_in _ (by omega)
        clear hsm hct hsn hlen e1 hpl
        go_wp2_with fail
        go_roundw
        case rel => exact ⟨k + 1, m + 1, z - pl, by omega, by go_num, by go_num, by go_num, HN, by omega, by omega, by (repeat first | with_reducible assumption | with_reducible exact Below.refl _ _ | (with_reducible refine Below.alloc ?_ ?side _; case side => (first | omega | (with_reducible exact Below.size (by assumption)) | (simp; done) | (simp; omega))) | (with_reducible refine Below.setCell ?_ ?side _; case side => (first | omega | (with_reducible exact Below.size (by assumption)) | (simp; done) | (simp; omega))) | with_reducible refine Below.drew ?_ | with_reducible refine below_drewN ?_ _ | (with_reducible refine below_step (by assumption) ?side ?_; case side => (first | omega | (with_reducible exact Below.size (by assumption)) | (simp; done) | (simp; omega))))⟩
        case measure => simp [intOf]; omega
    · obtain rfl : ns = k := by omega
      have hqB : decide (((ns : Nat) : Int) < ns) = false := by simp
      have hE : Hid (z - kf * max 0 ((m : Int) - 1) = R) := Lib.hid (by
        have h := H1.out
        rw [show l.take ns = l by rw [← HNS.out]; exact List.take_length] at h
        rw [HR.out, ← h.2, h.1]
        have : max 0 ((m : Int) - 1) = ((m - 1 : Nat) : Int) := by omega
        rw [this])
      have hq : max 0 ((m : Int) - 1) ≤ 8 ∧ 0 ≤ max 0 ((m : Int) - 1) := by omega
      have hp1 : 0 ≤ kf * max 0 ((m : Int) - 1) := Int.mul_nonneg hkf.1 hq.2
      have hp2 : kf * max 0 ((m : Int) - 1) ≤ 20 * 8 := Int.mul_le_mul hkf.2 hq.1 hq.2 (by omega)
      have hs1 : IntKind.i64.wrap ((m : Int) - 1) = (m : Int) - 1 := IntWalk.i64_in _ (by omega)
      obtain ⟨mx, hmx⟩ : ∃ v, max 0 ((m : Int) - 1) = v := ⟨_, rfl⟩
      rw [hmx] at hE hq hp1 hp2
      have hs2 : IntKind.i64.wrap (kf * mx) = kf * mx := IntWalk.i64_in _ (by omega)
      have hs3 : IntKind.i64.wrap (z - kf * mx) = z - kf * mx := IntWalk.i64_in _ (by omega)
      clear H1
      go_wp2_with fail
      go_ret
      exact ⟨by rw [← hE.out]; rfl, by (repeat first | with_reducible assumption | with_reducible exact Below.refl _ _ | (with_reducible refine Below.alloc ?_ ?side _; case side => (first | omega | (with_reducible exact Below.size (by assumption)) | (simp; done) | (simp; omega))) | (with_reducible refine Below.setCell ?_ ?side _; case side => (first | omega | (with_reducible exact Below.size (by assumption)) | (simp; done) | (simp; omega))) | with_reducible refine Below.drew ?_ | with_reducible refine below_drewN ?_ _ | (with_reducible refine below_step (by assumption) ?side ?_; case side => (first | omega | (with_reducible exact Below.size (by assumption)) | (simp; done) | (simp; omega))))⟩

theorem toI_has {l : List Nat} {b : Nat} : hasI (toI l) (b : Int) = decide (0 < l.count b) := by
  rw [Bool.eq_iff_iff, hasI_mem, decide_eq_true_eq, List.count_pos_iff]
  unfold toI
  rw [List.mem_map]
  constructor
  · rintro ⟨a, ha, e⟩
    have : a = b := by omega
    subst this; exact ha
  · exact fun h => ⟨b, h, rfl⟩
theorem gN_take {l : List Nat} {j k : Nat} (h : j < k) : gN (l.take k) j = gN l j := by
  unfold gN
  rw [List.getD_eq_getElem?_getD, List.getD_eq_getElem?_getD, List.getElem?_take, if_pos h]
theorem wgB_len {bs : List Br} {ps : List Pc} {l : List Nat} : wgB bs ps l ≤ l.length := by
  unfold wgB
  refine Nat.le_trans List.countP_le_length ?_
  rw [List.length_zip]; omega
theorem usL_succ {l : List Nat} {k : Nat} : usL (k + 1) l = usL k l + (bif decide (0 < l.count k) then 1 else 0) := by
  unfold usL
  rw [List.range_succ, List.countP_append, List.countP_singleton]
  cases decide (0 < l.count k) <;> rfl
/-- one more piece of a length could be cut from some bar -/
def hrB (bs : List Br) (ps : List Pc) (kf lg : Int) (l : List Nat) : Bool := anyN bs.length fun k => fitS kf (swOf bs ps kf l) k lg
theorem fitS_of {bs : List Br} {ps : List Pc} {kf lg : Int} {l : List Nat} {k : Nat} (h : k < bs.length) : fitS kf (swOf bs ps kf l) k lg = decide ((bif decide (0 < l.count k) then lg + kf else lg) ≤ rsB bs ps kf l k) := by
  unfold fitS
  simp only [swOf, iAt_mapR h]
  have : decide ((0 : Int) < (l.count k : Int)) = decide (0 < l.count k) := by rw [Bool.eq_iff_iff, decide_eq_true_eq, decide_eq_true_eq]; omega
  rw [this]
section
variable (Ab Ap As : Option Addr) (nb cb np cp ns cs : Nat) (kf wrg : Int) (bs : List Br) (ms : List Pm) (ps : List Pc) (l : List Nat) (w : World)
set_option maxRecDepth 100000 in
set_option maxHeartbeats 1600000 in
theorem reffits_c (hck : ckS bs ps kf wrg = true) (HB : BrsAt w Ab nb bs) (HP : PcsAt w Ap np ms ps) (HS : IntsAt w As ns (toI l)) (hl : ns ≤ np) :
    Calls Try.prog 85 #[.agg #[.slice Ab nb cb, .int .i64 kf, .slice Ap np cp, .int .i64 wrg], .slice As ns cs] w fun e w' => e = .returned (.bool (fitB bs ps kf l)) ∧ Below w.heap.size w w' := by
  have hre : Hid (∀ b, b < nb → ∀ V, Below w.heap.size w V → Calls Try.prog 28 #[.agg #[.slice Ab nb cb, .int .i64 kf, .slice Ap np cp, .int .i64 wrg], .slice As ns cs, .int .i64 b] V fun e V' => e = .returned (.int .i64 (rsB bs ps kf l b)) ∧ Below V.heap.size V V') := Lib.hid fun b hb V hV =>
    RestOf_c Ab Ap As nb cb np cp ns cs b kf wrg bs ms ps l V hck (HB.later hV) (HP.later hV) (HS.later hV) hb hl
  have h1 : nb ≤ 6 := by rw [← HB.1]; exact (ckS_vals hck).1
  obtain ⟨R, hR⟩ : ∃ R, fitB bs ps kf l = R := ⟨_, rfl⟩
  have HR : Hid (R = allN nb fun b => decide (0 ≤ rsB bs ps kf l b)) := Lib.hid (by rw [← hR]; unfold fitB; rw [HB.1])
  rw [hR]
  clear hR HB HP HS hck
  go_enter Try.func85, Try.ntmps85
  go_wp2_with fail
  obtain ⟨W, hW⟩ : ∃ W, w.alloc (.cells #[.slice (Ab) nb cb, .int .i64 kf, .slice (Ap) np cp, .int .i64 wrg] 25) = W := ⟨_, rfl⟩
  have B0 : Below w.heap.size w W := by rw [← hW]; exact (Below.refl _ _).alloc (Nat.le_refl _) _
  have c0 := Lib.hid (al1_0 hW).2.1
  have l0 := (al1_0 hW).1
  rw [hW]
  clear hW
  have zW := B0.size
  go_loopw [5] (fun i (wr : World) => ∃ k : Nat, k ≤ nb ∧ i = .int .i64 k ∧ Hid (∀ j, j < k → decide (0 ≤ rsB bs ps kf l j) = true) ∧ Below W.heap.size W wr) (fun i _ => nb - (intOf i).toNat)
  case atStart => exact ⟨0, by omega, rfl, fun j hj => absurd hj (by omega), Below.refl _ _⟩
  case round =>
    obtain ⟨k, hk, rfl, H1, hb⟩ := hrel
    have cc := fun j => (hb.cell (p := ⟨w.heap.size, j, none⟩) l0).trans (c0.out j)
    have hbw : Below w.heap.size w wr := B0.trans (hb.mono zW)
    by_cases hlt : k < nb
    · have hqB : decide ((k : Int) < nb) = true := by simp; omega
      have hc := hre.out k hlt wr hbw
      obtain ⟨r, hr⟩ : ∃ r, rsB bs ps kf l k = r := ⟨_, rfl⟩
      rw [hr] at hc
      replace hc := Lib.hid hc
      by_cases e1 : r < 0
      · have hE : Hid (R = false) := Lib.hid (by
          rw [HR.out, allN_no hlt (by rw [hr]; simp; omega)])
        have e2 : decide (r < 0) = true := by simpa using e1
        clear hr e1
        go_wp2_with (go_at_call 28; refine hc.out.mono ?_; rintro e w1 ⟨rfl, hb1⟩)
        go_ret
        exact ⟨by rw [hE.out]; rfl, by (repeat first | with_reducible assumption | with_reducible exact Below.refl _ _ | (with_reducible refine Below.alloc ?_ ?side _; case side => (first | omega | (with_reducible exact Below.size (by assumption)) | (simp; done) | (simp; omega))) | (with_reducible refine Below.setCell ?_ ?side _; case side => (first | omega | (with_reducible exact Below.size (by assumption)) | (simp; done) | (simp; omega))) | with_reducible refine Below.drew ?_ | with_reducible refine below_drewN ?_ _ | (with_reducible refine below_step (by assumption) ?side ?_; case side => (first | omega | (with_reducible exact Below.size (by assumption)) | (simp; done) | (simp; omega))))⟩
      · have hK : Hid (decide (0 ≤ rsB bs ps kf l k) = true) := Lib.hid (by rw [hr]; simp; omega)
        have e2 : decide (r < 0) = false := by simpa using e1
        clear hr e1
        go_wp2_with (go_at_call 28; refine hc.out.mono ?_; rintro e w1 ⟨rfl, hb1⟩)
        go_roundw
        case rel => exact ⟨k + 1, by omega, by go_num, fun j hj => by
          rcases Nat.lt_succ_iff_lt_or_eq.1 hj with h | rfl
          · exact H1.out j h
          · exact hK.out, by have := hb.size; (repeat first | with_reducible assumption | with_reducible exact Below.refl _ _ | (with_reducible refine Below.alloc ?_ ?side _; case side => (first | omega | (with_reducible exact Below.size (by assumption)) | (simp; done) | (simp; omega))) | (with_reducible refine Below.setCell ?_ ?side _; case side => (first | omega | (with_reducible exact Below.size (by assumption)) | (simp; done) | (simp; omega))) | with_reducible refine Below.drew ?_ | with_reducible refine below_drewN ?_ _ | (with_reducible refine below_step (by assumption) ?side ?_; case side => (first | omega | (with_reducible exact Below.size (by assumption)) | (simp; done) | (simp; omega))))⟩
        case measure => simp [intOf]; omega
    · obtain rfl : nb = k := by omega
      have hqB : decide (((nb : Nat) : Int) < nb) = false := by simp
      have hE : Hid (R = true) := Lib.hid (by rw [HR.out]; exact allN_iff.2 H1.out)
      clear H1
      go_wp2_with fail
      go_ret
      exact ⟨by rw [hE.out]; rfl, by (repeat first | with_reducible assumption | with_reducible exact Below.refl _ _ | (with_reducible refine Below.alloc ?_ ?side _; case side => (first | omega | (with_reducible exact Below.size (by assumption)) | (simp; done) | (simp; omega))) | (with_reducible refine Below.setCell ?_ ?side _; case side => (first | omega | (with_reducible exact Below.size (by assumption)) | (simp; done) | (simp; omega))) | with_reducible refine Below.drew ?_ | with_reducible refine below_drewN ?_ _ | (with_reducible refine below_step (by assumption) ?side ?_; case side => (first | omega | (with_reducible exact Below.size (by assumption)) | (simp; done) | (simp; omega))))⟩
set_option maxRecDepth 100000 in
set_option maxHeartbeats 1600000 in
theorem refWrong_c (q : Nat) (hbl : ∀ b ∈ l, b < nb) (h3 : ∀ k, k < np → (pcAt ps k).hs.length ≤ 40) (HB : BrsAt w Ab nb bs) (HP : PcsAt w Ap np ms ps) (HS : IntsAt w As ns (toI l)) (hl : ns ≤ np) (hq : q < ns) :
    Calls Try.prog 86 #[.agg #[.slice Ab nb cb, .int .i64 kf, .slice Ap np cp, .int .i64 wrg], .slice As ns cs, .int .i64 q] w fun e w' => e = .returned (.bool (wrB bs ps q (gN l q))) ∧ Below w.heap.size w w' := by
  have hqp : q < np := by omega
  have hns : l.length = ns := by rw [← toI_len]; exact HS.1
  have hgb := hbl _ (gN_lt (l := l) (p := q) (by omega))
  have hin : ∀ W, Below w.heap.size w W → Calls Try.prog 100 #[.slice (pmAt ms q).h.A (pmAt ms q).h.n (pmAt ms q).h.c, .int .i64 (brAt bs (gN l q)).heat] W fun e w' => e = .returned (.bool (hasI (pcAt ps q).hs (brAt bs (gN l q)).heat)) ∧ W = w' := fun W hW => by
    have e0 : hasI (pcAt ps q).hs (brAt bs (gN l q)).heat = anyN (pmAt ms q).h.n fun k => iAt (pcAt ps q).hs k == (brAt bs (gN l q)).heat := by unfold hasI; rw [HP.len hqp]
    rw [e0]
    exact In_c _ _ _ _ _ W (by rw [HP.len hqp]; exact h3 q hqp) ((HP.later hW).inn q hqp)
  obtain ⟨bp, op, rfl, hbp, -, x1, -⟩ := HP.get hqp
  obtain ⟨g, o, rfl, hg, y1⟩ := HS.get hq
  obtain ⟨b0, o0, rfl, hb0, z1, -⟩ := HB.get hgb
  rw [toI_at] at y1
  unfold wrB
  obtain ⟨hd, hhd⟩ : ∃ h, (pmAt ms q).h = h := ⟨_, rfl⟩
  obtain ⟨v, hv⟩ : ∃ v, (brAt bs (gN l q)).heat = v := ⟨_, rfl⟩
  obtain ⟨m, hm⟩ : ∃ m, gN l q = m := ⟨_, rfl⟩
  rw [hm] at hv hin y1 z1 hgb ⊢
  rw [hv] at hin z1 ⊢
  rw [hhd] at hin x1
  obtain ⟨R, hR⟩ : ∃ R, hasI (pcAt ps q).hs v = R := ⟨_, rfl⟩
  rw [hR] at hin ⊢
  replace hin := Lib.hid hin
  have i1 : decide ((q : Int) < np) = true := by simp; omega
  have i2 : decide ((q : Int) < ns) = true := by simp; omega
  have i3 : decide ((m : Int) < nb) = true := by simp; omega
  clear hR hm hv hhd HB HP HS h3 hbl hns
  go_enter Try.func86, Try.ntmps86
  go_wp2_with fail
  obtain ⟨W, hW⟩ : ∃ W, w.alloc (.cells #[.slice (some ⟨b0, o0, none⟩) nb cb, .int .i64 kf, .slice (some ⟨bp, op, none⟩) np cp, .int .i64 wrg] 25) = W := ⟨_, rfl⟩
  have B0 : Below w.heap.size w W := by rw [← hW]; exact (Below.refl _ _).alloc (Nat.le_refl _) _
  have c0 := Lib.hid (al1_0 hW).2.1
  have l0 := (al1_0 hW).1
  rw [hW]
  clear hW
  have zW := B0.size
  have cc := c0.out
  have x1' := (B0.cell (p := ⟨bp, op + q * 2 + 1, none⟩) hbp).trans x1
  have y1' := (B0.cell (p := ⟨g, o + q, none⟩) hg).trans y1
  have z1' := (B0.cell (p := ⟨b0, o0 + m * 2, none⟩) hb0).trans z1
  clear x1 y1 z1
  cases R
  all_goals
    go_quiet ((go_at_call 100; exact quiet_left (hin.out _ (by (repeat first | with_reducible assumption | with_reducible exact Below.refl _ _ | (with_reducible refine Below.alloc ?_ ?side _; case side => (first | omega | (with_reducible exact Below.size (by assumption)) | (simp; done) | (simp; omega))) | (with_reducible refine Below.setCell ?_ ?side _; case side => (first | omega | (with_reducible exact Below.size (by assumption)) | (simp; done) | (simp; omega))) | with_reducible refine Below.drew ?_ | with_reducible refine below_drewN ?_ _ | (with_reducible refine below_step (by assumption) ?side ?_; case side => (first | omega | (with_reducible exact Below.size (by assumption)) | (simp; done) | (simp; omega))))))))
    go_wp2_with fail
    go_ret
    exact ⟨rfl, by (repeat first | with_reducible assumption | with_reducible exact Below.refl _ _ | (with_reducible refine Below.alloc ?_ ?side _; case side => (first | omega | (with_reducible exact Below.size (by assumption)) | (simp; done) | (simp; omega))) | (with_reducible refine Below.setCell ?_ ?side _; case side => (first | omega | (with_reducible exact Below.size (by assumption)) | (simp; done) | (simp; omega))) | with_reducible refine Below.drew ?_ | with_reducible refine below_drewN ?_ _ | (with_reducible refine below_step (by assumption) ?side ?_; case side => (first | omega | (with_reducible exact Below.size (by assumption)) | (simp; done) | (simp; omega))))⟩
end

theorem isSw_l {nb np : Nat} {ls : List Int} (h : isSw nb np ls = true) : ∃ l, ls = toI l ∧ l.length = np ∧ ∀ b ∈ l, b < nb := by
  unfold isSw at h
  simp only [Bool.and_eq_true, Bool.not_eq_true', beq_iff_eq] at h
  have h1 : ∀ v ∈ ls, 0 ≤ v ∧ v ≤ (nb : Int) - 1 := fun v hv => by
    obtain ⟨k, hk, rfl⟩ := List.getElem_of_mem hv
    have h0 : anyN ls.length (fun k => !wi (iAt ls k) 0 ((nb : Int) - 1)) = false := h.1
    cases hw : wi (iAt ls k) 0 ((nb : Int) - 1)
    · rw [anyN_yes hk (by simp only [hw]; rfl)] at h0; cases h0
    · rw [← iAt_get hk]; exact wi_true.1 hw
  refine ⟨ls.map Int.toNat, ?_, by simp [h.2], fun b hb => ?_⟩
  · unfold toI
    rw [List.map_map]
    refine (List.map_id ls).symm.trans (List.map_congr_left fun v hv => ?_)
    have := h1 v hv
    simp only [id, Function.comp]
    omega
  · obtain ⟨v, hv, rfl⟩ := List.mem_map.1 hb
    have := h1 v hv
    omega
theorem toI_nat {l : List Nat} : (toI l).map Int.toNat = l := by
  unfold toI
  rw [List.map_map]
  exact (List.map_congr_left fun v _ => by simp).trans (List.map_id l)
theorem isSw_toI {nb np : Nat} {l : List Nat} (h1 : l.length = np) (h2 : ∀ b ∈ l, b < nb) : isSw nb np (toI l) = true := by
  unfold isSw badI
  simp only [Bool.and_eq_true, Bool.not_eq_true', beq_iff_eq, toI_len]
  refine ⟨anyN_no fun k hk => ?_, h1⟩
  rw [toI_at]
  have := h2 _ (gN_lt (l := l) (p := k) hk)
  rw [show wi (gN l k : Int) 0 ((nb : Int) - 1) = true from wi_true.2 (by omega)]
  rfl
/-- what IsTruth of the specification says -/
def isT (bs : List Br) (ps : List Pc) (kf wr : Int) (ls : List Int) : Bool := isSw bs.length ps.length ls && okB bs ps kf wr (ls.map Int.toNat)
theorem isT_iff {bs : List Br} {ps : List Pc} {kf wr : Int} {ls : List Int} : isT bs ps kf wr ls = true ↔ ∃ l, ls = toI l ∧ l ∈ trL bs ps kf wr := by
  unfold isT
  rw [Bool.and_eq_true]
  constructor
  · rintro ⟨h1, h2⟩
    obtain ⟨l, rfl, a, b⟩ := isSw_l h1
    rw [toI_nat] at h2
    exact ⟨l, rfl, trL_mem.2 ⟨⟨a, b⟩, h2⟩⟩
  · rintro ⟨l, rfl, h⟩
    obtain ⟨⟨a, b⟩, c⟩ := trL_mem.1 h
    rw [toI_nat]
    exact ⟨isSw_toI a b, c⟩
section
variable (Ab Ap As : Option Addr) (nb cb np cp ns cs : Nat) (kf wrg : Int) (bs : List Br) (ms : List Pm) (ps : List Pc) (l : List Nat) (w : World)
set_option maxRecDepth 100000 in
set_option maxHeartbeats 1600000 in
theorem refWrongs_c (h2 : np ≤ 40) (hbl : ∀ b ∈ l, b < nb) (h3 : ∀ k, k < np → (pcAt ps k).hs.length ≤ 40) (HB : BrsAt w Ab nb bs) (HP : PcsAt w Ap np ms ps) (HS : IntsAt w As ns (toI l)) (hl : ns ≤ np) :
    Calls Try.prog 69 #[.agg #[.slice Ab nb cb, .int .i64 kf, .slice Ap np cp, .int .i64 wrg], .slice As ns cs] w fun e w' => e = .returned (.int .i64 (wgB bs ps l : Nat)) ∧ Below w.heap.size w w' := by
  have hre : Hid (∀ q, q < ns → ∀ V, Below w.heap.size w V → Calls Try.prog 86 #[.agg #[.slice Ab nb cb, .int .i64 kf, .slice Ap np cp, .int .i64 wrg], .slice As ns cs, .int .i64 q] V fun e V' => e = .returned (.bool (wrB bs ps q (gN l q))) ∧ Below V.heap.size V V') := Lib.hid fun q hq V hV =>
    refWrong_c Ab Ap As nb cb np cp ns cs kf wrg bs ms ps l V q hbl h3 (HB.later hV) (HP.later hV) (HS.later hV) hl hq
  have hns : l.length = ns := by rw [← toI_len]; exact HS.1
  have hpl := HP.pl
  have HNS := Lib.hid hns
  have HPL := Lib.hid hpl
  obtain ⟨R, hR⟩ : ∃ R, wgB bs ps l = R := ⟨_, rfl⟩
  have HR := Lib.hid hR
  rw [hR]
  clear hR HB HP HS hns hpl h3 hbl
  go_enter Try.func69, Try.ntmps69
  go_wp2_with fail
  obtain ⟨W, hW⟩ : ∃ W, w.alloc (.cells #[.slice (Ab) nb cb, .int .i64 kf, .slice (Ap) np cp, .int .i64 wrg] 25) = W := ⟨_, rfl⟩
  have B0 : Below w.heap.size w W := by rw [← hW]; exact (Below.refl _ _).alloc (Nat.le_refl _) _
  have c0 := Lib.hid (al1_0 hW).2.1
  have l0 := (al1_0 hW).1
  rw [hW]
  clear hW
  have zW := B0.size
  go_loopw [5, 6] (fun v i (wr : World) => ∃ (k m : Nat), k ≤ ns ∧ i = .int .i64 k ∧ v = .int .i64 m ∧ Hid (wgB bs ps (l.take k) = m) ∧ m ≤ k ∧ Below W.heap.size W wr) (fun _ i _ => ns - (intOf i).toNat)
  case atStart => exact ⟨0, 0, by omega, rfl, rfl, Lib.hid (by simp [wgB]), by omega, Below.refl _ _⟩
  case round =>
    obtain ⟨k, m, hk, rfl, rfl, H1, hm, hb⟩ := hrel
    have cc := fun j => (hb.cell (p := ⟨w.heap.size, j, none⟩) l0).trans (c0.out j)
    have hbw : Below w.heap.size w wr := B0.trans (hb.mono zW)
    have zr := hb.size
    by_cases hlt : k < ns
    · have hqB : decide ((k : Int) < ns) = true := by simp; omega
      have hc := hre.out k hlt wr hbw
      have hsn := take_snoc (l := l) (k := k) (by rw [HNS.out]; exact hlt)
      have hlen : (l.take k).length = k := by rw [List.length_take, HNS.out]; omega
      have hsm := wgB_snoc (bs := bs) (ps := ps) (a := l.take k) (c := gN l k) (by rw [hlen, HPL.out]; omega)
      rw [← hsn, hlen, H1.out] at hsm
      have HSM := Lib.hid hsm
      clear hsm hsn hlen
      cases e1 : wrB bs ps k (gN l k)
      all_goals
        rw [e1] at hc HSM
        replace hc := Lib.hid hc
        clear e1
        go_wp2_with (go_at_call 86; refine hc.out.mono ?_; rintro e w1 ⟨rfl, hb1⟩)
        go_roundw
        case rel => exact ⟨k + 1, _, by omega, by go_num, by first | rfl | go_num, Lib.hid HSM.out, by first | (show m + 0 ≤ k + 1; omega) | (show m + 1 ≤ k + 1; omega), by (repeat first | with_reducible assumption | with_reducible exact Below.refl _ _ | (with_reducible refine Below.alloc ?_ ?side _; case side => (first | omega | (with_reducible exact Below.size (by assumption)) | (simp; done) | (simp; omega))) | (with_reducible refine Below.setCell ?_ ?side _; case side => (first | omega | (with_reducible exact Below.size (by assumption)) | (simp; done) | (simp; omega))) | with_reducible refine Below.drew ?_ | with_reducible refine below_drewN ?_ _ | (with_reducible refine below_step (by assumption) ?side ?_; case side => (first | omega | (with_reducible exact Below.size (by assumption)) | (simp; done) | (simp; omega))))⟩
        case measure => simp [intOf]; omega
    · obtain rfl : ns = k := by omega
      have hqB : decide (((ns : Nat) : Int) < ns) = false := by simp
      have hE : Hid (m = R) := Lib.hid (by
        rw [← HR.out, ← H1.out, ← HNS.out, List.take_length])
      clear H1
      go_wp2_with fail
      go_ret
      exact ⟨by rw [← hE.out]; rfl, by (repeat first | with_reducible assumption | with_reducible exact Below.refl _ _ | (with_reducible refine Below.alloc ?_ ?side _; case side => (first | omega | (with_reducible exact Below.size (by assumption)) | (simp; done) | (simp; omega))) | (with_reducible refine Below.setCell ?_ ?side _; case side => (first | omega | (with_reducible exact Below.size (by assumption)) | (simp; done) | (simp; omega))) | with_reducible refine Below.drew ?_ | with_reducible refine below_drewN ?_ _ | (with_reducible refine below_step (by assumption) ?side ?_; case side => (first | omega | (with_reducible exact Below.size (by assumption)) | (simp; done) | (simp; omega))))⟩
end

end Go.Proofs.Ytdhlnlmhdacblaa
