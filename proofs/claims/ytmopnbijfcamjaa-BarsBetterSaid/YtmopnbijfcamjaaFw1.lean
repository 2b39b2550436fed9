/- Fewest of bars (layer 1). -/
import Derived.BigRegionIn
import Derived.Shelf.RegionOpen
import Derived.Test.YtmopnbijfcamjaaMn1
namespace Go.Proofs.Ytmopnbijfcamjaa
open Go.RowKit
open Go.Sort (grow)
set_option linter.unusedVariables false

attribute [local go_sem] Oper.semAt_some
/-- what a loop over a list has gathered behind k of its elements -/
def accL {α β : Type} (f : β → α → β) (z : β) (L : List α) (k : Nat) : β := (L.take k).foldl f z
theorem accL_0 {α β : Type} (f : β → α → β) (z : β) (L : List α) : accL f z L 0 = z := by simp [accL]
theorem accL_succ {α β : Type} {f : β → α → β} {z : β} {L : List α} {k : Nat} {x : α} (h : L[k]? = some x) : accL f z L (k + 1) = f (accL f z L k) x := by
  unfold accL
  rw [List.take_add_one, h, List.foldl_append]
  rfl
theorem accL_all {α β : Type} (f : β → α → β) (z : β) (L : List α) : accL f z L L.length = L.foldl f z := by simp [accL]
def lsF (m : Int) (x : Sw) : Int := bif decide (m < 0) || decide (x.wrong < m) then x.wrong else m
def fewP (bs : List Br) (ps : List Pc) (kf wr : Int) : Int × Int :=
  bif ckS bs ps kf wr then (bif decide ((swA bs ps kf 8).foldl lsF (-1) < 0) then (0, 3) else ((swA bs ps kf 8).foldl lsF (-1), 0)) else (0, 10)
set_option maxRecDepth 100000 in
set_option maxHeartbeats 3200000 in
theorem fewest_c (Ab Ap : Option Addr) (nb cb np cp : Nat) (kf wrg : Int) (bs : List Br) (ms : List Pm) (ps : List Pc) (w : World) (h1 : nb ≤ 40) (h2 : np ≤ 40) (h3 : ∀ k, k < np → (pcAt ps k).hs.length ≤ 40) (HB : BrsAt w Ab nb bs) (HP : PcsAt w Ap np ms ps) :
    Calls Try.prog 35 #[.agg #[.slice Ab nb cb, .int .i64 kf, .slice Ap np cp, .int .i64 wrg]] w fun e w' => e = .returned (.tuple #[.int .i64 (fewP bs ps kf wrg).1, .int .i64 (fewP bs ps kf wrg).2]) ∧ Below w.heap.size w w' := by
  have HBI := Lib.hid HB
  have HPI := Lib.hid HP
  have hck := fun W (hb : Below w.heap.size w W) => check_c Ab Ap nb cb np cp kf wrg bs ms ps W h1 h2 h3 (HB.later hb) (HP.later hb)
  have hBl := HB.1
  have hPl := HP.pl
  cases ek : ckS bs ps kf wrg
  · have e1 : fewP bs ps kf wrg = (0, 10) := by simp [fewP, ek]
    rw [e1]
    rw [ek, show erS false = 10 from rfl] at hck
    replace hck := Lib.hid hck
    clear HB HP hBl hPl h3 e1 ek
    go_enter Try.func35, Try.ntmps35
    go_wp2_with (go_at_call 43; refine (hck.out _ (by (repeat first | with_reducible assumption | with_reducible exact Below.refl _ _ | (with_reducible refine Below.alloc ?_ ?side _; case side => (first | omega | (with_reducible exact Below.size (by assumption)) | (simp; done) | (simp; omega))) | (with_reducible refine Below.setCell ?_ ?side _; case side => (first | omega | (with_reducible exact Below.size (by assumption)) | (simp; done) | (simp; omega))) | with_reducible refine Below.drew ?_ | with_reducible refine below_drewN ?_ _ | (with_reducible refine below_step (by assumption) ?side ?_; case side => (first | omega | (with_reducible exact Below.size (by assumption)) | (simp; done) | (simp; omega)))))).mono ?_; (rintro e w1 ⟨rfl, hb1⟩; obtain ⟨hc1, hf1⟩ := bcell hb1; have zs1 := hb1.size; (try simp at zs1); have n1_0 : w.heap.size < w1.heap.size := (by omega)))
    exact bodyPost_ret (v := .tuple #[.int .i64 0, .int .i64 10]) (by simp [results, Try.results35, go_sem]) rfl ⟨rfl, by (repeat first | with_reducible assumption | with_reducible exact Below.refl _ _ | (with_reducible refine Below.alloc ?_ ?side _; case side => (first | omega | (with_reducible exact Below.size (by assumption)) | (simp; done) | (simp; omega))) | (with_reducible refine Below.setCell ?_ ?side _; case side => (first | omega | (with_reducible exact Below.size (by assumption)) | (simp; done) | (simp; omega))) | with_reducible refine Below.drew ?_ | with_reducible refine below_drewN ?_ _ | (with_reducible refine below_step (by assumption) ?side ?_; case side => (first | omega | (with_reducible exact Below.size (by assumption)) | (simp; done) | (simp; omega))))⟩
  rw [ek, show erS true = 0 from rfl] at hck
  obtain ⟨ok, hw0, hw8⟩ := okSt_of hBl hPl h3 ek
  have e1 : fewP bs ps kf wrg = bif decide ((swA bs ps kf 8).foldl lsF (-1) < 0) then (0, 3) else ((swA bs ps kf 8).foldl lsF (-1), 0) := by simp [fewP, ek]
  rw [e1]
  obtain ⟨M, hM⟩ : ∃ M, (swA bs ps kf 8).foldl lsF (-1) = M := ⟨_, rfl⟩
  rw [hM]
  have HMx := Lib.hid hM
  have OK := Lib.hid ok
  replace hck := Lib.hid hck
  clear HB HP hBl hPl h3 e1 ek ok hM
  refine (callsIn_wide (n := 6)).1 (callsIn_of_wp_marks Try.func35 rfl trivial ?_ rfl)
  simp only [Try.ntmps35, List.size_toArray, List.length_cons, List.length_nil, Nat.reduceAdd, Nat.reduceSub, Array.replicate_succ, Array.replicate_zero, List.push_toArray, List.append_toArray, List.nil_append, List.cons_append]
  gi_wp2_with (refine ⟨trivial, ?_⟩; gi_at_call 43; refine callsIn_wide.2 ((hck.out _ (by (repeat first | with_reducible assumption | with_reducible exact Below.refl _ _ | (with_reducible refine Below.alloc ?_ ?side _; case side => (first | omega | (with_reducible exact Below.size (by assumption)) | (simp; done) | (simp; omega))) | (with_reducible refine Below.setCell ?_ ?side _; case side => (first | omega | (with_reducible exact Below.size (by assumption)) | (simp; done) | (simp; omega))) | with_reducible refine Below.drew ?_ | with_reducible refine below_drewN ?_ _ | (with_reducible refine below_step (by assumption) ?side ?_; case side => (first | omega | (with_reducible exact Below.size (by assumption)) | (simp; done) | (simp; omega)))))).mono ?_); (rintro e w1 ⟨rfl, hb1⟩; obtain ⟨hc1, hf1⟩ := bcell hb1; have zs1 := hb1.size; (try simp at zs1); have n1_0 : w.heap.size < w1.heap.size := (by omega)))
  have hbw1 : Below w.heap.size w w1 := by (repeat first | with_reducible assumption | with_reducible exact Below.refl _ _ | (with_reducible refine Below.alloc ?_ ?side _; case side => (first | omega | (with_reducible exact Below.size (by assumption)) | (simp; done) | (simp; omega))) | (with_reducible refine Below.setCell ?_ ?side _; case side => (first | omega | (with_reducible exact Below.size (by assumption)) | (simp; done) | (simp; omega))) | with_reducible refine Below.drew ?_ | with_reducible refine below_drewN ?_ _ | (with_reducible refine below_step (by assumption) ?side ?_; case side => (first | omega | (with_reducible exact Below.size (by assumption)) | (simp; done) | (simp; omega))))
  have s0 := fun i => (hc1 (w.heap.size) i (by first | omega | (simp; done) | (simp; omega))).trans ((al1_0 rfl).2.1 i)
  clear hc1 hf1 hb1
  have zs1 := hbw1.size
  have K0 := Lib.hid (Blk.new w1 3 #[.int .i64 (-1)])
  refine ⟨trivial, callsIn_wide.2 ((sawings_c Ab Ap nb cb np cp kf wrg 8 _).mono ?_)⟩
  rintro e w3 ⟨b1, b2, rfl, p1, p2, k1, k2, hb3⟩
  have hne : b1 ≠ b2 := by
    rintro rfl
    have := Eq.trans k1.symm k2
    simp at this
  have hbw3 : Below w.heap.size w w3 := by (repeat first | with_reducible assumption | with_reducible exact Below.refl _ _ | (with_reducible refine Below.alloc ?_ ?side _; case side => (first | omega | (with_reducible exact Below.size (by assumption)) | (simp; done) | (simp; omega))) | (with_reducible refine Below.setCell ?_ ?side _; case side => (first | omega | (with_reducible exact Below.size (by assumption)) | (simp; done) | (simp; omega))) | with_reducible refine Below.drew ?_ | with_reducible refine below_drewN ?_ _ | (with_reducible refine below_step (by assumption) ?side ?_; case side => (first | omega | (with_reducible exact Below.size (by assumption)) | (simp; done) | (simp; omega))))
  have K3 := Lib.hid (K0.out.below hb3 (by simp))
  have R0 := Lib.hid (⟨hbw3, k1, k2⟩ : RgB w b1 b2 Ab Ap nb cb np cp kf wrg 8 w3)
  have zs3 := hb3.size
  simp only [World.size_alloc] at p1 p2 zs3
  clear k1 k2 hb3 s0
  gi_wp2
  have en := enters_of Try.func82 (by kernel_rfl) rfl
  refine wpIn_rangeS (gf := 82) (fst := #[]) (lb := #[.pointer (some ⟨b1, 0, none⟩), .pointer (some ⟨b2, 0, none⟩)]) rfl en (sawings1_c b1 b2 Ab Ap nb cb np cp kf wrg 8 bs ms ps OK.out ⟨by omega, by omega⟩) rfl
    (fun b k W => RgB w b1 b2 Ab Ap nb cb np cp kf wrg 8 W ∧ Blk W w1.heap.size 3 #[.int .i64 (accL lsF (-1) (swA bs ps kf 8) k)])
    (fun c W => False) ?hI ?hIx ?hmem ?h0 ?hround ?hdone ?hstop
  case hI =>
    rintro b k W W' hb ⟨a1, a2⟩ ht
    have l1 := R0.out.k1.lt
    have l2 := R0.out.k2.lt
    exact ⟨a1.tameB ht (by omega) (by omega) (by omega) (by omega), ht.blk a2 (by omega)⟩
  case hIx => exact fun c W W' h => h.elim
  case hmem => exact fun b k W hb h => h.1.mem HBI.out HPI.out
  case h0 => exact fun b W hb h => ⟨R0.out.later h, by rw [accL_0]; exact K3.out.below h K3.out.lt⟩
  case hround =>
    rintro l b k x W hl hb hx ⟨a1, a2⟩ hat
    have HS := Lib.hid (accL_succ (f := lsF) (z := -1) hx)
    obtain ⟨m, hm⟩ : ∃ m, accL lsF (-1) (swA bs ps kf 8) k = m := ⟨_, rfl⟩
    rw [hm] at a2 HS
    have A1 := Lib.hid a1
    have A2 := Lib.hid a2
    have AT := Lib.hid hat
    have l1 := R0.out.k1.lt
    have l2 := R0.out.k2.lt
    have ltb := hat.ex
    clear a1 a2 hat hx hm ltb
    gi_wp2
    refine ⟨KeepsFrom.refl _ _, KeepC.refl _ _, fun W2 ht => ?_⟩
    have B1 := Lib.hid (A1.out.tame ht (by omega))
    have B2 := Lib.hid (A2.out.tame ht)
    obtain ⟨A1', c1', A2', c2', A3', c3', hbk, -⟩ := (AT.out.tame ht).ex
    have c2 := B2.out.cell 0
    have f2 := B2.out.frozen 0
    have c3 := hbk.cell 3
    have z2 := B1.out.bw.size
    have zt := ht.size
    clear ht hbk
    obtain ⟨v, hv⟩ : ∃ v, x.wrong = v := ⟨_, rfl⟩
    rw [hv] at c3
    have HV := Lib.hid hv
    clear hv
    have hst : Hid (lsF m x = v) → ∀ W4, RgB w b1 b2 Ab Ap nb cb np cp kf wrg 8 W4 → Blk W4 w1.heap.size 3 #[.int .i64 m] → RgB w b1 b2 Ab Ap nb cb np cp kf wrg 8 (W4.setCell ⟨w1.heap.size, 0, none⟩ (.int .i64 v)) ∧ Blk (W4.setCell ⟨w1.heap.size, 0, none⟩ (.int .i64 v)) w1.heap.size 3 #[.int .i64 (accL lsF (-1) (swA bs ps kf 8) (k + 1))] := fun h W4 r1 r2 =>
      ⟨r1.set (by show w.heap.size ≤ w1.heap.size; omega) (by show b1 ≠ w1.heap.size; omega) (by show b2 ≠ w1.heap.size; omega) _, by rw [HS.out, h.out]; simpa using r2.set_ 0 (.int .i64 v)⟩
    replace hst := Lib.hid hst
    by_cases e1 : m < 0
    · have e1B : decide (m < 0) = true := by simpa using e1
      have HL : Hid (lsF m x = v) := by show _ = _; unfold lsF; rw [e1B, HV.out]; rfl
      gi_wp2
      gi_region
      all_goals
        gi_wp2
        exact ⟨by (repeat first | with_reducible assumption | with_reducible exact KeepsFrom.refl _ _ | with_reducible refine keeps_setCell ?_ _ _ | with_reducible refine keeps_alloc ?_ _ | with_reducible refine keeps_drew ?_ | with_reducible refine keeps_drewN ?_ _ | with_reducible refine keeps_step (by assumption) (Nat.le_refl _) ?_), .set (by show w1.heap.size < _; omega) _, hst.out HL _ B1.out.drew B2.out.drew⟩
    · have e1B : decide (m < 0) = false := by simpa using e1
      by_cases e2 : v < m
      · have e2B : decide (v < m) = true := by simpa using e2
        have HL : Hid (lsF m x = v) := by show _ = _; unfold lsF; rw [e1B, HV.out, e2B]; rfl
        gi_wp2
        gi_region
        all_goals
          gi_wp2
          exact ⟨by (repeat first | with_reducible assumption | with_reducible exact KeepsFrom.refl _ _ | with_reducible refine keeps_setCell ?_ _ _ | with_reducible refine keeps_alloc ?_ _ | with_reducible refine keeps_drew ?_ | with_reducible refine keeps_drewN ?_ _ | with_reducible refine keeps_step (by assumption) (Nat.le_refl _) ?_), .set (by show w1.heap.size < _; omega) _, hst.out HL _ B1.out.drew B2.out.drew⟩
      · have e2B : decide (v < m) = false := by simpa using e2
        have HL : Hid (lsF m x = m) := by show _ = _; unfold lsF; rw [e1B, HV.out, e2B]; rfl
        gi_wp2
        gi_region
        all_goals
          gi_wp2
          exact ⟨by (repeat first | with_reducible assumption | with_reducible exact KeepsFrom.refl _ _ | with_reducible refine keeps_setCell ?_ _ _ | with_reducible refine keeps_alloc ?_ _ | with_reducible refine keeps_drew ?_ | with_reducible refine keeps_drewN ?_ _ | with_reducible refine keeps_step (by assumption) (Nat.le_refl _) ?_), KeepC.refl _ _, B1.out.drew, by rw [HS.out, HL.out]; exact B2.out.drew⟩
  case hdone =>
    rintro D b W hD hb ⟨a1, a2⟩ hK
    rw [accL_all, HMx.out] at a2
    have e2 := a2.cell 0
    have zz := a1.bw.size
    have hbw := a1.bw
    clear a1 a2
    by_cases e1 : M < 0
    · have e1B : decide (M < 0) = true := by simpa using e1
      gi_wp2
      try rw [e1B]
      refine leave_mark (v := .tuple #[.int .i64 0, .int .i64 3]) hK (fun W' ht => ?_) (fun W' ht => ⟨rfl, ht.below (by omega) (by omega) (by (repeat first | with_reducible assumption | with_reducible exact Below.refl _ _ | (with_reducible refine Below.alloc ?_ ?side _; case side => (first | omega | (with_reducible exact Below.size (by assumption)) | (simp; done) | (simp; omega))) | (with_reducible refine Below.setCell ?_ ?side _; case side => (first | omega | (with_reducible exact Below.size (by assumption)) | (simp; done) | (simp; omega))) | with_reducible refine Below.drew ?_ | with_reducible refine below_drewN ?_ _ | (with_reducible refine below_step (by assumption) ?side ?_; case side => (first | omega | (with_reducible exact Below.size (by assumption)) | (simp; done) | (simp; omega)))))⟩)
      simp [results, Try.results35, go_sem]
    · have e1B : decide (M < 0) = false := by simpa using e1
      gi_wp2
      try rw [e1B]
      refine leave_mark (v := .tuple #[.int .i64 M, .int .i64 0]) hK (fun W' ht => ?_) (fun W' ht => ⟨rfl, ht.below (by omega) (by omega) (by (repeat first | with_reducible assumption | with_reducible exact Below.refl _ _ | (with_reducible refine Below.alloc ?_ ?side _; case side => (first | omega | (with_reducible exact Below.size (by assumption)) | (simp; done) | (simp; omega))) | (with_reducible refine Below.setCell ?_ ?side _; case side => (first | omega | (with_reducible exact Below.size (by assumption)) | (simp; done) | (simp; omega))) | with_reducible refine Below.drew ?_ | with_reducible refine below_drewN ?_ _ | (with_reducible refine below_step (by assumption) ?side ?_; case side => (first | omega | (with_reducible exact Below.size (by assumption)) | (simp; done) | (simp; omega)))))⟩)
      simp [results, Try.results35, go_sem]
  case hstop => exact fun D c W hD h => h.elim

end Go.Proofs.Ytmopnbijfcamjaa
