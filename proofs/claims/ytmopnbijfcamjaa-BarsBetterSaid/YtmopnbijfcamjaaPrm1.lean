/- BarsRoom (layer 1): the walk. -/
import Derived.Deep.DeepCutAuto
import Derived.Test.YtmopnbijfcamjaaSq2
import Derived.Test.YtmopnbijfcamjaaLw1
import Derived.Test.YtmopnbijfcamjaaEv1
namespace Go.Proofs.Ytmopnbijfcamjaa
open Go.RowKit
open Go.Sort (grow)
set_option linter.unusedVariables false

def upH (k : Nat) : List Int := (List.range k).map fun (j : Nat) => (j : Int)
theorem upH_succ (k : Nat) : upH (k + 1) = upH k ++ [(k : Int)] := by unfold upH; rw [List.range_succ, List.map_append]; rfl
theorem upH_len (k : Nat) : (upH k).length = k := by simp [upH]
theorem BrsAt.set {w : World} {A : Option Addr} {n : Nat} {bs : List Br} (h : BrsAt w A n bs) {p : Addr} (hp : ∀ a, A = some a → a.block ≠ p.block) (u : Value) : BrsAt (w.setCell p u) A n bs := by
  refine ⟨h.1, fun hn => ?_⟩
  obtain ⟨g, off, e, hg, hc⟩ := h.2 hn
  refine ⟨g, off, e, by simpa using hg, fun j hj i v hv => (World.cell?_setCell_other _ _ _ _ (by
    have k1 := hp _ e
    intro e'
    exact k1 (by rw [e']))).trans (hc j hj i v hv)⟩
theorem PcsAt.set {w : World} {A : Option Addr} {n : Nat} {ms : List Pm} {ps : List Pc} (h : PcsAt w A n ms ps) {p : Addr} (hp : ∀ a, A = some a → a.block ≠ p.block)
    (hh : ∀ k, k < n → ∀ a, (pmAt ms k).h.A = some a → a.block ≠ p.block) (u : Value) : PcsAt (w.setCell p u) A n ms ps := by
  refine ⟨⟨h.sl.1, fun hn => ?_⟩, h.pl, h.lg, fun k hk => ⟨(h.inn k hk).1, fun hn => ?_⟩⟩
  · obtain ⟨g, off, e, hg, hc⟩ := h.sl.2 hn
    refine ⟨g, off, e, by simpa using hg, fun j hj i v hv => (World.cell?_setCell_other _ _ _ _ (by
      have k1 := hp _ e
      intro e'
      exact k1 (by rw [e']))).trans (hc j hj i v hv)⟩
  · obtain ⟨g, off, e, hg, hc⟩ := (h.inn k hk).2 hn
    refine ⟨g, off, e, by simpa using hg, fun j hj i v hv => (World.cell?_setCell_other _ _ _ _ (by
      have k1 := hh k hk _ e
      intro e'
      exact k1 (by rw [e']))).trans (hc j hj i v hv)⟩
theorem ng_of {g9 n d9 b s : Nat} {v : Value} (h : (Value.slice (some ⟨g9, 0, none⟩) n d9).ownBlock = v.ownBlock ∨ (Value.slice (some ⟨g9, 0, none⟩) n d9).ownBlock = some s) (h1 : ∀ g, v.ownBlock = some g → g < b) (h2 : b < s) : g9 ≠ b := by
  have e : (Value.slice (some ⟨g9, 0, none⟩) n d9).ownBlock = some g9 := rfl
  rcases h with h | h
  · have := h1 g9 (h.symm.trans e)
    omega
  · have h2 := Option.some.inj (e.symm.trans h)
    omega
set_option maxRecDepth 100000 in
set_option maxHeartbeats 6400000 in
theorem RoomMain_c (Ab Ap : Option Addr) (nb cb np cp : Nat) (kf wrg lg : Int) (bs : List Br) (ms : List Pm) (ps : List Pc) (w : World) (HB : BrsAt w Ab nb bs) (HP : PcsAt w Ap np ms ps) (er : rdyS bs ps kf wrg nb np = true)
    (g1 : ¬ lg < 1) (g2 : ¬ 999 < lg)
    (hrd : Hid (∀ Z, Below w.heap.size w Z → Calls Try.prog 13 #[.agg #[.slice Ab nb cb, .int .i64 kf, .slice Ap np cp, .int .i64 wrg]] Z fun e Z' => e = .returned (.bool true) ∧ Below Z.heap.size Z Z')) :
    Calls Try.prog 4 #[.agg #[.slice Ab nb cb, .int .i64 kf, .slice Ap np cp, .int .i64 wrg], .int .i64 lg] w fun e w' => e = .returned (.bool true) ∧ Below w.heap.size w w' := by
  have hwk := Lib.hid works_c
  obtain ⟨hn4, hp5, h3, hck⟩ := rdyS_ok er
  have h1 : nb ≤ 40 := by omega
  have h2 : np ≤ 40 := by omega
  have HBI := Lib.hid HB
  have HPI := Lib.hid HP
  have H3 := Lib.hid h3
  have HCK := Lib.hid hck
  have hlB : decide (lg < 1) = false := by simpa using g1
  have hlC : decide (999 < lg) = false := by simpa using g2
  clear er HB HP h3 hck
  go_enter Try.func4, Try.ntmps4
  go_wp2_with fail
  obtain ⟨X, hX⟩ : ∃ X, w.alloc (.cells #[.slice Ab nb cb, .int .i64 kf, .slice Ap np cp, .int .i64 wrg] 25) = X := ⟨_, rfl⟩
  rw [hX]
  have BX : Below w.heap.size w X := (al1 hX).1
  have zX : X.heap.size = w.heap.size + 1 := (al1 hX).2
  have P0 := Lib.hid (al1_0 hX).2.1
  have zw : w.heap.size ≤ X.heap.size := by omega
  have n0 : w.heap.size < X.heap.size := by omega
  clear hX
  refine (hrd.out X BX).mono ?_
  rintro e w1 ⟨rfl, b1⟩
  have c1_0 := fun j => (b1.cell (p := ⟨w.heap.size, j, none⟩) n0).trans (P0.out j)
  have z1 := b1.size
  go_wp2_with fail
  refine (Copy_c Ab Ap nb cb np cp kf wrg bs ms ps w1 h1 h2 H3.out (HBI.out.later (BX.trans (b1.mono zw))) (HPI.out.later (BX.trans (b1.mono zw)))).mono ?_
  rintro e w2 ⟨A1, c1, A2, c2, ms', mid, rfl, hO, hb2⟩
  have HO := Lib.hid hO
  have b2 : Below X.heap.size X w2 := b1.trans (hb2.mono z1)
  clear hb2 hO c1_0 b1
  have c2_0 := fun j => (b2.cell (p := ⟨w.heap.size, j, none⟩) n0).trans (P0.out j)
  have z2 := b2.size
  go_wp2_with fail
  go_name_world Y hY
  have KY := Lib.hid (by rw [← hY]; exact Blk.new w2 25 #[.slice A1 nb c1, .int .i64 kf, .slice A2 np c2, .int .i64 wrg] : Blk Y w2.heap.size 25 #[.slice A1 nb c1, .int .i64 kf, .slice A2 np c2, .int .i64 wrg])
  have bY := (al1 hY).1
  have zY := (al1 hY).2
  have b3 : Below X.heap.size X Y := b2.trans (bY.mono z2)
  have HOY := Lib.hid (HO.out.later bY)
  replace zY := Lib.hid zY
  clear hY bY c2_0
  have c3_0 := fun j => (b3.cell (p := ⟨w.heap.size, j, none⟩) n0).trans (P0.out j)
  have z3 := b3.size
  clear c3_0
  go_loopw [6, 7] (fun v i (wr : World) => ∃ k : Nat, k ≤ 10 ∧ i = .int .i64 k ∧ Hid (wr.ownsRow Y.heap.size 3 1 v k ((upH k).flatMap encI)) ∧ Below Y.heap.size Y wr) (fun _ i _ => 10 - (intOf i).toNat)
  case atStart => exact ⟨0, by omega, rfl, Lib.hid (World.ownsRow_nil Y Y.heap.size 3 1), Below.refl _ _⟩
  case round =>
    obtain ⟨k, hk, rfl, HOr, hb⟩ := hrel
    have zb := hb.size
    by_cases hlt : k < 10
    · have hqB : decide ((k : Int) ≤ 9) = true := by simp; omega
      go_wp2_with (at_builtin; go_must (refine wpList_append_T _ (d := (0 : Int)) rfl (.tmp 30) (.tmp 32) _ rfl Y.heap.size _ 1 8 intE encI_len encI_one u6 u6.ownBlock k (upH k) rfl rfl ?ow _ 1 _ [(k : Int)] rfl ?sl (by omega) ?sz ?_; (case ow => exact own_below HOr.out (by (repeat first | with_reducible assumption | with_reducible exact Below.refl _ _ | (with_reducible refine Below.alloc ?_ ?side _; case side => (first | omega | (with_reducible exact Below.size (by assumption)) | (simp; done) | (simp; omega))) | (with_reducible refine Below.setCell ?_ ?side _; case side => (first | omega | (with_reducible exact Below.size (by assumption)) | (simp; done) | (simp; omega))) | with_reducible refine Below.drew ?_ | with_reducible refine below_drewN ?_ _ | (with_reducible refine below_step (by assumption) ?side ?_; case side => (first | omega | (with_reducible exact Below.size (by assumption)) | (simp; done) | (simp; omega)))))); (case sl => exact sl_new encI_len (by first | rfl | simp) rfl rfl); (case sz => go_size); (rintro v8 w8 ho8 hg8 ha8); (have hb8 : Below Y.heap.size wr w8 := Below.grown (by (repeat first | with_reducible assumption | with_reducible exact Below.refl _ _ | (with_reducible refine Below.alloc ?_ ?side _; case side => (first | omega | (with_reducible exact Below.size (by assumption)) | (simp; done) | (simp; omega))) | (with_reducible refine Below.setCell ?_ ?side _; case side => (first | omega | (with_reducible exact Below.size (by assumption)) | (simp; done) | (simp; omega))) | with_reducible refine Below.drew ?_ | with_reducible refine below_drewN ?_ _ | (with_reducible refine below_step (by assumption) ?side ?_; case side => (first | omega | (with_reducible exact Below.size (by assumption)) | (simp; done) | (simp; omega))))) hg8 (by go_size) (own_ge HOr.out)); (have HO8 := Lib.hid ho8); (clear ho8 hg8 ha8)))
      go_roundw
      case rel => exact ⟨k + 1, by omega, by go_num, Lib.hid (by rw [upH_succ]; exact HO8.out), hb.trans hb8⟩
      case measure => simp [intOf]; omega
    · obtain rfl : k = 10 := by omega
      have hqB : decide (((10 : Nat) : Int) ≤ 9) = false := by simp
      obtain ⟨gh, dh, rfl, hgh, hgh'⟩ := HOr.out.form (by omega)
      have HIh := Lib.hid (ints_iff.2 (sl_of_own encI_len HOr.out (upH_len 10)) : IntsAt wr (some ⟨gh, 0, none⟩) 10 (upH 10))
      have KR := Lib.hid (KY.out.below hb KY.out.lt)
      have OR := Lib.hid (HOY.out.later hb)
      have ck := KR.out.cell
      have fk := KR.out.frozen
      have ltY : w2.heap.size < wr.heap.size := KR.out.lt
      have b5 : Below X.heap.size X wr := b3.trans (hb.mono z3)
      have NE := Lib.hid (fun k (hk : k < np) a (ha : (pmAt ms' k).h.A = some a) => ((HO.out.pcs.inn k hk).2 a ha).2.2)
      have N1 := Lib.hid (fun g (hg : (Value.slice A1 nb c1).ownBlock = some g) => (HO.out.bar.lt g hg).2)
      have N2 := Lib.hid (fun g (hg : (Value.slice A2 np c2).ownBlock = some g) => (HO.out.pcs.own.lt g hg).2)
      have M2 := Lib.hid (fun g (hg : (Value.slice A2 np c2).ownBlock = some g) => (HO.out.pcs.own.lt g hg).1)
      have hml := HO.out.pcs.ml
      have hmidh := Lib.hid OR.out.mh
      have hgh2 := hgh'
      have NO := Lib.hid (fun e => by have := N2.out _ e; omega : (Value.slice A2 np c2).ownBlock ≠ some w2.heap.size)
      clear hgh' hml
      have ltYY : w2.heap.size < Y.heap.size := KY.out.lt
      have hszm := hmidh.out
      have hszn := HO.out.mh
      go_wp2_with (at_builtin; go_must (refine wpList_append_T _ (d := (⟨0, ⟨none, 0, 0⟩⟩ : Pm)) rfl (.tmp 35) (.tmp 39) _ rfl mid _ 2 32 pcE encP_len encP_one (.slice A2 np c2) (Value.slice A2 np c2).ownBlock np ms' rfl rfl ?ow _ 1 _ [⟨lg, ⟨some ⟨gh, 0, none⟩, 10, dh⟩⟩] rfl ?sl (by omega) ?sz ?_; (case ow => exact own_below OR.out.pcs.own (by (repeat first | with_reducible assumption | with_reducible exact Below.refl _ _ | (with_reducible refine Below.alloc ?_ ?side _; case side => (first | omega | (with_reducible exact Below.size (by assumption)) | (simp; done) | (simp; omega))) | (with_reducible refine Below.setCell ?_ ?side _; case side => (first | omega | (with_reducible exact Below.size (by assumption)) | (simp; done) | (simp; omega))) | with_reducible refine Below.drew ?_ | with_reducible refine below_drewN ?_ _ | (with_reducible refine below_step (by assumption) ?side ?_; case side => (first | omega | (with_reducible exact Below.size (by assumption)) | (simp; done) | (simp; omega)))))); (case sl => exact sl_new encP_len (by first | rfl | simp) rfl rfl); (case sz => go_size); (rintro v6 w6 hown6 hg6 hat6); (have hd9 := hown6.form (by omega)); (obtain ⟨g9, d9, rfl, hg9, hg9'⟩ := hd9); (have HO6 := Lib.hid (OR.out.pcs.push (x := ⟨lg, ⟨some ⟨gh, 0, none⟩, 10, dh⟩⟩) (y := ⟨lg, htA⟩) rfl HIh.out (fun a ha => by cases ha; exact ⟨by show mid ≤ gh; have := zb; omega, fun e => by have := N2.out gh e; omega, hgh2⟩) hown6 hg6 hat6)); (have z6 := hg6.size); (simp only [World.size_alloc] at z6); (have K6 : Hid (Blk w6 w2.heap.size 25 #[.slice A1 nb c1, .int .i64 kf, .slice A2 np c2, .int .i64 wrg]) := Lib.hid ((hg6.block w2.heap.size (by go_size) (by first | exact NO.out | exact fun e => NO.out e.symm)).trans (KR.out.alloc _))); (have c6 := K6.out.cell); (have f6 := K6.out.frozen); (have hb6 : Below mid wr w6 := Below.grown (by (repeat first | with_reducible assumption | with_reducible exact Below.refl _ _ | (with_reducible refine Below.alloc ?_ ?side _; case side => (first | omega | (with_reducible exact Below.size (by assumption)) | (simp; done) | (simp; omega))) | (with_reducible refine Below.setCell ?_ ?side _; case side => (first | omega | (with_reducible exact Below.size (by assumption)) | (simp; done) | (simp; omega))) | with_reducible refine Below.drew ?_ | with_reducible refine below_drewN ?_ _ | (with_reducible refine below_step (by assumption) ?side ?_; case side => (first | omega | (with_reducible exact Below.size (by assumption)) | (simp; done) | (simp; omega))))) hg6 (by go_size) (own_ge OR.out.pcs.own)); (have NG : g9 ≠ w2.heap.size := ng_of hat6 N2.out (by go_size)); (clear hown6 hg6 hat6)))
      obtain ⟨Z, hZ⟩ : ∃ Z, w6.setCell ⟨w2.heap.size, 2, none⟩ (.slice (some ⟨g9, 0, none⟩) (np + 1) d9) = Z := ⟨_, rfl⟩
      rw [hZ]
      have KZ : Hid (Blk Z w2.heap.size 25 #[.slice A1 nb c1, .int .i64 kf, .slice (some ⟨g9, 0, none⟩) (np + 1) d9, .int .i64 wrg]) := Lib.hid (by
        rw [← hZ]
        have h := K6.out.set_ 2 (.slice (some ⟨g9, 0, none⟩) (np + 1) d9)
        simpa using h)
      have HBZ : Hid (BrsAt Z A1 nb bs) := Lib.hid (by
        rw [← hZ]
        exact sl_of_own encB_len (own_set (own_belowB OR.out.bar hb6 OR.out.bm) (fun g hg => by have := OR.out.bm g hg; show g ≠ w2.heap.size; omega)) OR.out.bl)
      have HPZ : Hid (PcsAt Z (some ⟨g9, 0, none⟩) (np + 1) (ms' ++ [⟨lg, ⟨some ⟨gh, 0, none⟩, 10, dh⟩⟩]) (ps ++ [⟨lg, htA⟩])) := Lib.hid (by
        rw [← hZ]
        obtain ⟨_, _, e, hp⟩ := HO6.out.at_
        cases e
        refine hp.set (fun a ha => by cases ha; exact NG) (fun k hk a ha => ?_) _
        rcases Nat.lt_succ_iff_lt_or_eq.1 hk with h' | rfl
        · rw [pmAt_lt (by rw [HO.out.pcs.ml]; exact h')] at ha
          have := NE.out k h' a ha
          show a.block ≠ w2.heap.size
          omega
        · have e1 := pmAt_eq (hs := ms') (h := ⟨lg, ⟨some ⟨gh, 0, none⟩, 10, dh⟩⟩)
          rw [HO.out.pcs.ml] at e1
          rw [e1] at ha
          cases ha
          show gh ≠ w2.heap.size
          omega)
      have bZ : Below X.heap.size X Z := by
        rw [← hZ]
        have h0 := HO.out.le
        exact (b5.trans (hb6.mono (by omega))).setCell (show X.heap.size ≤ w2.heap.size by omega) _
      have PZ := Lib.hid (fun j => (bZ.cell (p := ⟨w.heap.size, j, none⟩) n0).trans (P0.out j))
      have zZ := bZ.size
      have N0 : w.heap.size < Z.heap.size := by omega
      have Ng : w2.heap.size < Z.heap.size := KZ.out.lt
      have HRR := Lib.hid (room_law (lg := lg) HCK.out (wi_true.2 ⟨g1, g2⟩))
      have HPL := Lib.hid HPI.out.pl
      have HBL := Lib.hid HBI.out.1
      clear hZ c6 f6 hb6 hg9 hg9' NG hszm hszn ltYY ltY ck fk hgh2 hgh KY HOY KR OR NE N1 N2 M2 NO HIh HOr b5 b3 b2 HO6 K6 HO
      have hrz : Hid (∀ V, Below Z.heap.size Z V → Calls Try.prog 13 #[.agg #[.slice A1 nb c1, .int .i64 kf, .slice (some ⟨g9, 0, none⟩) (np + 1) d9, .int .i64 wrg]] V fun e V' => e = .returned (.bool (rdyS bs (ps ++ [⟨lg, htA⟩]) kf wrg nb (np + 1))) ∧ Below V.heap.size V V') :=
        Lib.hid fun V hV => ready_c A1 (some ⟨g9, 0, none⟩) nb c1 (np + 1) d9 kf wrg bs _ _ V (HBZ.out.later hV) (HPZ.out.later hV)
      refine (hrz.out Z (Below.refl _ _)).mono ?_
      rintro e u1 ⟨rfl, v1⟩
      clear hrz
      have c1_0 := fun j => (v1.cell (p := ⟨w.heap.size, j, none⟩) N0).trans (PZ.out j)
      have c1_g := fun j => (v1.cell (p := ⟨w2.heap.size, j, none⟩) Ng).trans (KZ.out.cell j)
      have y1 := v1.size
      cases er2 : rdyS bs (ps ++ [⟨lg, htA⟩]) kf wrg nb (np + 1)
      · go_wp2_with fail
        refine (hwk.out _).mono ?_
        rintro e w99 ⟨rfl, hb99⟩
        go_wp2
        go_ret
        exact ⟨rfl, BX.trans (Below.mono (bZ.trans ((v1.trans (hb99.mono y1)).mono zZ)) zw)⟩
      obtain ⟨-, hp6, h3', hck'⟩ := rdyS_ok er2
      have HL := HRR.out hck'
      obtain ⟨k0, hk0⟩ : ∃ v, (roomP bs ps kf wrg lg).1 = v := ⟨_, rfl⟩
      obtain ⟨e0, he0⟩ : ∃ v, (roomP bs ps kf wrg lg).2 = v := ⟨_, rfl⟩
      obtain ⟨m0, hm0⟩ : ∃ v, manyR bs (ps ++ [⟨lg, htA⟩]) kf wrg = v := ⟨_, rfl⟩
      obtain ⟨f0, hf0⟩ : ∃ v, askE bs (ps ++ [⟨lg, htA⟩]) kf wrg true = v := ⟨_, rfl⟩
      have hrm : Hid (∀ V, Below Z.heap.size Z V → Calls Try.prog 21 #[.agg #[.slice Ab nb cb, .int .i64 kf, .slice Ap np cp, .int .i64 wrg], .int .i64 lg] V fun e V' => e = .returned (.tuple #[.int .i64 k0, .int .i64 e0]) ∧ Below V.heap.size V V') := Lib.hid fun V hV => by
        have hw : Below w.heap.size w V := BX.trans ((bZ.trans (hV.mono zZ)).mono zw)
        have := room_c Ab Ap nb cb np cp kf wrg lg bs ms ps V h1 h2 H3.out (HBI.out.later hw) (HPI.out.later hw)
        rw [hk0, he0] at this
        exact this
      have hmn : Hid (∀ V, Below Z.heap.size Z V → Calls Try.prog 17 #[.agg #[.slice A1 nb c1, .int .i64 kf, .slice (some ⟨g9, 0, none⟩) (np + 1) d9, .int .i64 wrg]] V fun e V' => e = .returned (.tuple #[.int .i64 m0, .int .i64 f0]) ∧ Below V.heap.size V V') := Lib.hid fun V hV => by
        have := many_c A1 (some ⟨g9, 0, none⟩) nb c1 (np + 1) d9 kf wrg bs _ _ V h1 (by omega) h3' (HBZ.out.later hV) (HPZ.out.later hV)
        rw [hm0, hf0] at this
        exact this
      rw [hk0, he0, hm0, hf0] at HL
      replace HL := Lib.hid HL
      have ik0 : ∀ V : World, Calls Try.prog 18 #[.int .i64 0] V fun x V' => x = .returned (.bool true) ∧ V = V' := fun V => isKnown_c 0 V
      have ik3 : ∀ V : World, Calls Try.prog 18 #[.int .i64 3] V fun x V' => x = .returned (.bool true) ∧ V = V' := fun V => isKnown_c 3 V
      replace ik0 := Lib.hid ik0
      replace ik3 := Lib.hid ik3
      clear hk0 he0 hm0 hf0 er2 h3' hck'
      go_wp2_with fail
      refine (hrm.out _ v1).mono ?_
      rintro e u2 ⟨rfl, hv2⟩
      have v2 : Below Z.heap.size Z u2 := v1.trans (hv2.mono y1)
      clear hv2 c1_0 c1_g
      have c2_0 := fun j => (v2.cell (p := ⟨w.heap.size, j, none⟩) N0).trans (PZ.out j)
      have c2_g := fun j => (v2.cell (p := ⟨w2.heap.size, j, none⟩) Ng).trans (KZ.out.cell j)
      have y2 := v2.size
      go_wp2_with fail
      refine (hmn.out _ v2).mono ?_
      rintro e u3 ⟨rfl, hv3⟩
      have v3 : Below Z.heap.size Z u3 := v2.trans (hv3.mono y2)
      clear hv3 c2_0 c2_g
      have c3_0 := fun j => (v3.cell (p := ⟨w.heap.size, j, none⟩) N0).trans (PZ.out j)
      have c3_g := fun j => (v3.cell (p := ⟨w2.heap.size, j, none⟩) Ng).trans (KZ.out.cell j)
      have y3 := v3.size
      have hL := HL.out
      clear HL hrm hmn
      rcases hL with ⟨rfl, rfl⟩ | ⟨rfl, (⟨rfl, hm, rfl | rfl⟩ | ⟨rfl, rfl⟩)⟩
      all_goals
        try have hmB : decide (0 < m0) = true := by simpa using hm
        try clear hm
        go_wp2_with first | (go_at_call 18; (first | (with_reducible refine (ik0.out _).mono ?_) | (with_reducible refine (ik3.out _).mono ?_)); rintro e w' ⟨rfl, rfl⟩) | (go_at_call 15; refine (hwk.out _).mono ?_; rintro e w99 ⟨rfl, hb99⟩)
        go_ret
        exact ⟨rfl, BX.trans (Below.mono (bZ.trans ((v3.trans (hb99.mono y3)).mono zZ)) zw)⟩
set_option maxRecDepth 100000 in
set_option maxHeartbeats 1600000 in
theorem Room_law_c (Ab Ap : Option Addr) (nb cb np cp : Nat) (kf wrg lg : Int) (bs : List Br) (ms : List Pm) (ps : List Pc) (w : World) (HB : BrsAt w Ab nb bs) (HP : PcsAt w Ap np ms ps) :
    Calls Try.prog 4 #[.agg #[.slice Ab nb cb, .int .i64 kf, .slice Ap np cp, .int .i64 wrg], .int .i64 lg] w fun e w' => e = .returned (.bool true) ∧ Below w.heap.size w w' := by
  have hwk := Lib.hid works_c
  have hrd : ∀ Z, Below w.heap.size w Z → Calls Try.prog 13 #[.agg #[.slice Ab nb cb, .int .i64 kf, .slice Ap np cp, .int .i64 wrg]] Z fun e Z' => e = .returned (.bool (rdyS bs ps kf wrg nb np)) ∧ Below Z.heap.size Z Z' := fun Z hZ => ready_c Ab Ap nb cb np cp kf wrg bs ms ps Z (HB.later hZ) (HP.later hZ)
  cases er : rdyS bs ps kf wrg nb np
  · rw [er] at hrd
    replace hrd := Lib.hid hrd
    clear er HB HP
    go_enter Try.func4, Try.ntmps4
    go_wp2_with fail
    obtain ⟨X, hX⟩ : ∃ X, w.alloc (.cells #[.slice Ab nb cb, .int .i64 kf, .slice Ap np cp, .int .i64 wrg] 25) = X := ⟨_, rfl⟩
    rw [hX]
    have BX : Below w.heap.size w X := (al1 hX).1
    have zX : X.heap.size = w.heap.size + 1 := (al1 hX).2
    have P0 := Lib.hid (al1_0 hX).2.1
    have zw : w.heap.size ≤ X.heap.size := by omega
    have n0 : w.heap.size < X.heap.size := by omega
    clear hX
    refine (hrd.out X BX).mono ?_
    rintro e w1 ⟨rfl, b1⟩
    have c1_0 := fun j => (b1.cell (p := ⟨w.heap.size, j, none⟩) n0).trans (P0.out j)
    have z1 := b1.size
    go_wp2_with fail
    refine (hwk.out _).mono ?_
    rintro e w99 ⟨rfl, hb99⟩
    go_wp2
    go_ret
    exact ⟨rfl, BX.trans (Below.mono (b1.trans (hb99.mono z1)) zw)⟩
  rw [er] at hrd
  replace hrd := Lib.hid hrd
  by_cases g1 : lg < 1
  · have hlB : decide (lg < 1) = true := by simpa using g1
    clear er HB HP
    go_enter Try.func4, Try.ntmps4
    go_wp2_with fail
    obtain ⟨X, hX⟩ : ∃ X, w.alloc (.cells #[.slice Ab nb cb, .int .i64 kf, .slice Ap np cp, .int .i64 wrg] 25) = X := ⟨_, rfl⟩
    rw [hX]
    have BX : Below w.heap.size w X := (al1 hX).1
    have zX : X.heap.size = w.heap.size + 1 := (al1 hX).2
    have P0 := Lib.hid (al1_0 hX).2.1
    have zw : w.heap.size ≤ X.heap.size := by omega
    have n0 : w.heap.size < X.heap.size := by omega
    clear hX
    refine (hrd.out X BX).mono ?_
    rintro e w1 ⟨rfl, b1⟩
    have c1_0 := fun j => (b1.cell (p := ⟨w.heap.size, j, none⟩) n0).trans (P0.out j)
    have z1 := b1.size
    go_wp2_with fail
    refine (hwk.out _).mono ?_
    rintro e w99 ⟨rfl, hb99⟩
    go_wp2
    go_ret
    exact ⟨rfl, BX.trans (Below.mono (b1.trans (hb99.mono z1)) zw)⟩
  by_cases g2 : 999 < lg
  · have hlB : decide (lg < 1) = false := by simpa using g1
    have hlC : decide (999 < lg) = true := by simpa using g2
    clear er HB HP
    go_enter Try.func4, Try.ntmps4
    go_wp2_with fail
    obtain ⟨X, hX⟩ : ∃ X, w.alloc (.cells #[.slice Ab nb cb, .int .i64 kf, .slice Ap np cp, .int .i64 wrg] 25) = X := ⟨_, rfl⟩
    rw [hX]
    have BX : Below w.heap.size w X := (al1 hX).1
    have zX : X.heap.size = w.heap.size + 1 := (al1 hX).2
    have P0 := Lib.hid (al1_0 hX).2.1
    have zw : w.heap.size ≤ X.heap.size := by omega
    have n0 : w.heap.size < X.heap.size := by omega
    clear hX
    refine (hrd.out X BX).mono ?_
    rintro e w1 ⟨rfl, b1⟩
    have c1_0 := fun j => (b1.cell (p := ⟨w.heap.size, j, none⟩) n0).trans (P0.out j)
    have z1 := b1.size
    go_wp2_with fail
    refine (hwk.out _).mono ?_
    rintro e w99 ⟨rfl, hb99⟩
    go_wp2
    go_ret
    exact ⟨rfl, BX.trans (Below.mono (b1.trans (hb99.mono z1)) zw)⟩
  exact RoomMain_c Ab Ap nb cb np cp kf wrg lg bs ms ps w HB HP er g1 g2 hrd

end Go.Proofs.Ytmopnbijfcamjaa
