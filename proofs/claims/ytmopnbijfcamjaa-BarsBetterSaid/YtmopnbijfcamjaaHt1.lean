/- Heats and Least of bars (layer 1). -/
import Derived.Handy
import Derived.Test.YtmopnbijfcamjaaOf1
import Derived.Test.YtmopnbijfcamjaaPl1
import Derived.Test.YtmopnbijfcamjaaSo1
namespace Go.Proofs.Ytmopnbijfcamjaa
open Go.RowKit
open Go.Sort (grow)
set_option linter.unusedVariables false

def htL (bs : List Br) (L : List Int) : List Int := L.map fun b => (brAt bs b.toNat).heat
def mixL (bs : List Br) (L : List Int) (k : Nat) : List Int := htL bs (L.take k) ++ L.drop k
theorem mixL_len (bs : List Br) (L : List Int) (k : Nat) : (mixL bs L k).length = L.length := by simp [mixL, htL]; omega
theorem mixL_0 (bs : List Br) (L : List Int) : mixL bs L 0 = L := by simp [mixL, htL]
theorem mixL_all (bs : List Br) (L : List Int) : mixL bs L L.length = htL bs L := by simp [mixL]
theorem mixL_at {bs : List Br} {L : List Int} {k : Nat} (h : k < L.length) : iAt (mixL bs L k) k = iAt L k := by
  unfold iAt mixL htL
  rw [List.getD_eq_getElem?_getD, List.getD_eq_getElem?_getD, List.getElem?_append_right (by simp; omega)]
  simp
  rw [show k + (k - min k L.length) = k by omega]
theorem mixL_succ {bs : List Br} {L : List Int} {k : Nat} (h : k < L.length) : mixL bs L (k + 1) = (mixL bs L k).set k (brAt bs (iAt L k).toNat).heat := by
  have hk : iAt L k = L[k] := by
    unfold iAt
    rw [List.getD_eq_getElem?_getD, List.getElem?_eq_getElem h]; rfl
  rw [hk]
  have h1 : L.take (k + 1) = L.take k ++ [L[k]] := by rw [List.take_add_one, List.getElem?_eq_getElem h]; rfl
  have h2 : L.drop k = L[k] :: L.drop (k + 1) := List.drop_eq_getElem_cons h
  unfold mixL htL
  rw [h1, h2, List.map_append, List.append_assoc, List.set_append_right _ _ (by simp; omega)]
  have : k - (List.map (fun b => (brAt bs b.toNat).heat) (List.take k L)).length = 0 := by simp; omega
  rw [this]
  rfl
def heatsP (bs : List Br) (ps : List Pc) (kf wr piece : Int) : List Int := Lib.compact ((htL bs (ofP bs ps kf wr piece)).mergeSort leI)
theorem ofP_bar {bs : List Br} {ps : List Pc} {kf wr piece : Int} : ∀ v ∈ ofP bs ps kf wr piece, ∃ b : Nat, b < bs.length ∧ v = (b : Int) := by
  intro v hv
  unfold ofP at hv
  cases e : askE bs ps kf wr (wi piece 0 ((ps.length : Int) - 1)) == 0 <;> rw [e] at hv
  · simp at hv
  · simp only [cond_true, ofL, List.mem_map, List.mem_filter, List.mem_range] at hv
    obtain ⟨b, ⟨hb, -⟩, rfl⟩ := hv
    exact ⟨b, hb, rfl⟩
theorem ofP_len {bs : List Br} {ps : List Pc} {kf wr piece : Int} : (ofP bs ps kf wr piece).length ≤ bs.length := by
  unfold ofP
  cases askE bs ps kf wr (wi piece 0 ((ps.length : Int) - 1)) == 0
  · simp
  · exact ofL_len bs.length piece.toNat (swA bs ps kf wr) bs.length
set_option maxRecDepth 100000 in
set_option maxHeartbeats 3200000 in
theorem heats_c (Ab Ap : Option Addr) (nb cb np cp : Nat) (kf wrg piece : Int) (bs : List Br) (ms : List Pm) (ps : List Pc) (w : World) (h1 : nb ≤ 40) (h2 : np ≤ 40) (h3 : ∀ k, k < np → (pcAt ps k).hs.length ≤ 40) (HB : BrsAt w Ab nb bs) (HP : PcsAt w Ap np ms ps) :
    Calls Try.prog 38 #[.agg #[.slice Ab nb cb, .int .i64 kf, .slice Ap np cp, .int .i64 wrg], .int .i64 piece] w fun e w' => ∃ A c, e = .returned (.tuple #[.slice A (heatsP bs ps kf wrg piece).length c, .int .i64 (askE bs ps kf wrg (wi piece 0 ((np : Int) - 1)))]) ∧ IntsAt w' A (heatsP bs ps kf wrg piece).length (heatsP bs ps kf wrg piece) ∧ Below w.heap.size w w' := by
  have HBI := Lib.hid HB
  have hof := Lib.hid (fun W (hb : Below w.heap.size w W) => of_c Ab Ap nb cb np cp kf wrg piece bs ms ps W h1 h2 h3 (HB.later hb) (HP.later hb))
  have hll := ofP_len (bs := bs) (ps := ps) (kf := kf) (wr := wrg) (piece := piece)
  have hbr := ofP_bar (bs := bs) (ps := ps) (kf := kf) (wr := wrg) (piece := piece)
  rw [HB.1] at hll hbr
  obtain ⟨L, hL⟩ : ∃ L, ofP bs ps kf wrg piece = L := ⟨_, rfl⟩
  have hhp : heatsP bs ps kf wrg piece = Lib.compact ((htL bs L).mergeSort leI) := by unfold heatsP; rw [hL]
  rw [hL] at hll hbr
  have HL := Lib.hid hL
  obtain ⟨z, hz⟩ : ∃ z, askE bs ps kf wrg (wi piece 0 ((np : Int) - 1)) = z := ⟨_, rfl⟩
  have HZ := Lib.hid hz
  rw [hz, hhp]
  have HBR := Lib.hid hbr
  clear HB HP h3 hL hz hbr hhp
  go_enter Try.func38, Try.ntmps38
  go_wp2_with fail
  refine (hof.out _ (by (repeat first | with_reducible assumption | with_reducible exact Below.refl _ _ | (with_reducible refine Below.alloc ?_ ?side _; case side => (first | omega | (with_reducible exact Below.size (by assumption)) | (simp; done) | (simp; omega))) | (with_reducible refine Below.setCell ?_ ?side _; case side => (first | omega | (with_reducible exact Below.size (by assumption)) | (simp; done) | (simp; omega))) | with_reducible refine Below.drew ?_ | with_reducible refine below_drewN ?_ _ | (with_reducible refine below_step (by assumption) ?side ?_; case side => (first | omega | (with_reducible exact Below.size (by assumption)) | (simp; done) | (simp; omega)))))).mono ?_
  rintro e w1 ⟨v, rfl, ho, hb1⟩
  rw [HL.out] at ho
  rw [HZ.out]
  have BX : Below w.heap.size w w1 := by (repeat first | with_reducible assumption | with_reducible exact Below.refl _ _ | (with_reducible refine Below.alloc ?_ ?side _; case side => (first | omega | (with_reducible exact Below.size (by assumption)) | (simp; done) | (simp; omega))) | (with_reducible refine Below.setCell ?_ ?side _; case side => (first | omega | (with_reducible exact Below.size (by assumption)) | (simp; done) | (simp; omega))) | with_reducible refine Below.drew ?_ | with_reducible refine below_drewN ?_ _ | (with_reducible refine below_step (by assumption) ?side ?_; case side => (first | omega | (with_reducible exact Below.size (by assumption)) | (simp; done) | (simp; omega))))
  have d0 := fun i => (hb1.cell (p := ⟨w.heap.size, i, none⟩) (by simp)).trans ((al1_0 rfl).2.1 i)
  simp only [World.size_alloc] at ho
  have z1 := hb1.size
  simp only [World.size_alloc] at z1
  obtain ⟨n, hn⟩ : ∃ n, L.length = n := ⟨_, rfl⟩
  rw [hn] at ho hll
  have HN := Lib.hid hn
  obtain ⟨A, c, rfl, -, -⟩ := SlAt.of_own (d := (0 : Int)) encI_len ho hn
  have HO := Lib.hid ho
  have HG := Lib.hid (own_ge ho)
  obtain ⟨X, hX⟩ : ∃ X, X = w1 := ⟨_, rfl⟩
  have n0 : w.heap.size < w1.heap.size := by omega
  clear ho hb1 hn
  go_wp2_with fail
  have HOm : Hid (w1.ownsRow (w.heap.size + 1) 3 1 (.slice A n c) n ((mixL bs L 0).flatMap encI)) := by
    show World.ownsRow _ _ _ _ _ _ _
    rw [mixL_0]; exact HO.out
  go_loopw [18] (fun i (wr : World) => ∃ k : Nat, k ≤ n ∧ i = .int .i64 k ∧ Hid (wr.ownsRow (w.heap.size + 1) 3 1 (.slice A n c) n ((mixL bs L k).flatMap encI)) ∧ Below (w.heap.size + 1) w1 wr) (fun i _ => n - (intOf i).toNat)
  case atStart => exact ⟨0, by omega, rfl, HOm, Below.refl _ _⟩
  case round =>
    obtain ⟨k, hk, rfl, HOr, hb⟩ := hrel
    have zb := hb.size
    have dd := fun j => (hb.cell (p := ⟨w.heap.size, j, none⟩) (by show w.heap.size < _; omega)).trans (d0 j)
    have hbw : Below w.heap.size w wr := BX.trans (hb.mono (by omega))
    by_cases hlt : k < n
    · have hqB : decide ((k : Int) < n) = true := by simp; omega
      obtain ⟨g, d, e, hg, hg'⟩ := HOr.out.form (by omega)
      cases e
      have x0 := own_int_get HOr.out (by rw [mixL_len, HN.out]) hlt
      rw [mixL_at (by rw [HN.out]; exact hlt)] at x0
      have f0 := HOr.out.frozenAt k
      obtain ⟨bar, hbar, hbv⟩ := HBR.out (iAt L k) (iAt_mem (by rw [HN.out]; exact hlt))
      have HS := Lib.hid (mixL_succ (bs := bs) (L := L) (k := k) (by rw [HN.out]; exact hlt))
      rw [hbv, Int.toNat_natCast] at HS
      rw [hbv] at x0
      obtain ⟨bp, op, e', hbp, y0, -⟩ := (HBI.out.later hbw).get hbar
      subst e'
      have hbB : decide ((bar : Int) < nb) = true := by simp; omega
      clear hbv
      go_wp2
      go_roundw
      case rel => exact ⟨k + 1, by omega, by go_num, by show World.ownsRow _ _ _ _ _ _ _; rw [HS.out]; exact own_int_set HOr.out (by rw [mixL_len, HN.out]) hlt _, hb.setCell (by show w.heap.size + 1 ≤ _; simp only at hg ⊢; omega) _⟩
      case measure => simp [intOf]; omega
    · obtain rfl : n = k := by omega
      have hqB : decide (((n : Nat) : Int) < n) = false := by simp
      have hlen : (htL bs L).length = n := by simp [htL, HN.out]
      have hO2 := HOr.out
      rw [show mixL bs L n = htL bs L by rw [← HN.out]; exact mixL_all bs L, ← hlen] at hO2
      have hso := sort_own hO2 (by rw [hlen]; omega)
      rw [hlen] at hso
      replace hso := Lib.hid hso
      clear hO2
      go_wp2_with (go_at_call 62; refine hso.out.mono ?_; rintro e w3 ⟨rfl, ho3, hg3⟩)
      have hms : ((htL bs L).mergeSort leI).length = n := by rw [List.length_mergeSort, hlen]
      rw [← hms] at ho3
      have hco := compact_own ho3
      rw [hms] at hco
      have hb3 : Below (w.heap.size + 1) wr w3 := Below.grown (Below.refl _ _) hg3 (by omega) (own_ge HOr.out)
      have HC := Lib.hid hco
      have hge := own_ge ho3
      rw [hms] at hge
      replace hge := Lib.hid hge
      clear hco ho3 hg3
      go_wp2_with (go_at_call 63; refine HC.out.mono ?_; rintro e w4 ⟨A4, c4, rfl, ho4, hg4⟩)
      have hb4 : Below (w.heap.size + 1) w3 w4 := Below.grown (Below.refl _ _) hg4 (by have := hb3.size; omega) hge.out
      have hbw4 : Below w.heap.size w w4 := hbw.trans ((hb3.trans hb4).mono (by omega))
      exact bodyPost_ret (v := .tuple #[.slice A4 (Lib.compact ((htL bs L).mergeSort leI)).length c4, .int .i64 z]) (by simp [results, Try.results38, go_sem]) rfl ⟨A4, c4, rfl, ints_iff.2 (sl_of_own encI_len ho4 rfl), hbw4⟩
theorem plF_len {nb m : Nat} : ∀ (T : List Sw) (o : List Int × Int), (∀ x ∈ T, x.of.length = m) → o.1.length ≤ m → (T.foldl (plF nb) o).1.length ≤ m := by
  intro T
  induction T with
  | nil => exact fun o _ h => h
  | cons x T ih =>
    intro o hx h
    refine ih _ (fun y hy => hx y (by simp [hy])) ?_
    unfold plF
    cases decide ((usB nb x : Int) < o.2)
    · exact h
    · simp only [cond_true]; rw [hx x (by simp)]; exact Nat.le_refl _
theorem planP_len {bs : List Br} {ps : List Pc} {kf wr : Int} : (planP bs ps kf wr).length ≤ ps.length := by
  unfold planP
  cases askE bs ps kf wr true == 0
  · simp
  · exact plF_len _ _ (fun x hx => swA_of_len hx) (by simp)
def leastP (bs : List Br) (ps : List Pc) (kf wr : Int) : Int := ((Lib.compact ((planP bs ps kf wr).mergeSort leI)).length : Int)
set_option maxRecDepth 100000 in
set_option maxHeartbeats 3200000 in
theorem least_c (Ab Ap : Option Addr) (nb cb np cp : Nat) (kf wrg : Int) (bs : List Br) (ms : List Pm) (ps : List Pc) (w : World) (h1 : nb ≤ 40) (h2 : np ≤ 40) (h3 : ∀ k, k < np → (pcAt ps k).hs.length ≤ 40) (HB : BrsAt w Ab nb bs) (HP : PcsAt w Ap np ms ps) :
    Calls Try.prog 23 #[.agg #[.slice Ab nb cb, .int .i64 kf, .slice Ap np cp, .int .i64 wrg]] w fun e w' => e = .returned (.tuple #[.int .i64 (leastP bs ps kf wrg), .int .i64 (askE bs ps kf wrg true)]) ∧ Below w.heap.size w w' := by
  have hpl := Lib.hid (fun W (hb : Below w.heap.size w W) => plan_c Ab Ap nb cb np cp kf wrg bs ms ps W h1 h2 h3 (HB.later hb) (HP.later hb))
  have hll := planP_len (bs := bs) (ps := ps) (kf := kf) (wr := wrg)
  rw [HP.pl] at hll
  obtain ⟨L, hL⟩ : ∃ L, planP bs ps kf wrg = L := ⟨_, rfl⟩
  have hhp : leastP bs ps kf wrg = ((Lib.compact (L.mergeSort leI)).length : Int) := by unfold leastP; rw [hL]
  rw [hL] at hll
  have HL := Lib.hid hL
  obtain ⟨z, hz⟩ : ∃ z, askE bs ps kf wrg true = z := ⟨_, rfl⟩
  have HZ := Lib.hid hz
  rw [hz, hhp]
  clear HB HP h3 hL hz hhp
  go_enter Try.func23, Try.ntmps23
  go_wp2_with fail
  refine (hpl.out _ (by (repeat first | with_reducible assumption | with_reducible exact Below.refl _ _ | (with_reducible refine Below.alloc ?_ ?side _; case side => (first | omega | (with_reducible exact Below.size (by assumption)) | (simp; done) | (simp; omega))) | (with_reducible refine Below.setCell ?_ ?side _; case side => (first | omega | (with_reducible exact Below.size (by assumption)) | (simp; done) | (simp; omega))) | with_reducible refine Below.drew ?_ | with_reducible refine below_drewN ?_ _ | (with_reducible refine below_step (by assumption) ?side ?_; case side => (first | omega | (with_reducible exact Below.size (by assumption)) | (simp; done) | (simp; omega)))))).mono ?_
  rintro e w1 ⟨A, c, rfl, ho, hb1⟩
  rw [HL.out] at ho ⊢
  rw [HZ.out]
  have BX : Below w.heap.size w w1 := by (repeat first | with_reducible assumption | with_reducible exact Below.refl _ _ | (with_reducible refine Below.alloc ?_ ?side _; case side => (first | omega | (with_reducible exact Below.size (by assumption)) | (simp; done) | (simp; omega))) | (with_reducible refine Below.setCell ?_ ?side _; case side => (first | omega | (with_reducible exact Below.size (by assumption)) | (simp; done) | (simp; omega))) | with_reducible refine Below.drew ?_ | with_reducible refine below_drewN ?_ _ | (with_reducible refine below_step (by assumption) ?side ?_; case side => (first | omega | (with_reducible exact Below.size (by assumption)) | (simp; done) | (simp; omega))))
  have hso := sort_own ho (by omega)
  have hge := own_ge ho
  simp only [World.size_alloc] at hge
  have hs1 := BX.size
  have z1 := hb1.size
  simp only [World.size_alloc] at z1
  obtain ⟨n, hn⟩ : ∃ n, L.length = n := ⟨_, rfl⟩
  rw [hn] at hso hge ⊢
  have hms : (L.mergeSort leI).length = n := by rw [List.length_mergeSort, hn]
  have HMS := Lib.hid hms
  replace hso := Lib.hid hso
  replace hge := Lib.hid hge
  clear ho hb1 hn hms
  go_wp2_with (go_at_call 62; refine hso.out.mono ?_; rintro e w3 ⟨rfl, ho3, hg3⟩)
  rw [← HMS.out] at ho3
  have hco := compact_own ho3
  rw [HMS.out] at hco
  have hb3 : Below (w.heap.size + 1) w1 w3 := Below.grown (Below.refl _ _) hg3 (by omega) hge.out
  have HC := Lib.hid hco
  have hge3 := own_ge ho3
  simp only [World.size_alloc] at hge3
  replace hge3 := Lib.hid hge3
  rw [HMS.out] at hge3
  clear hco ho3 hg3
  go_wp2_with (go_at_call 63; refine HC.out.mono ?_; rintro e w4 ⟨A4, c4, rfl, ho4, hg4⟩)
  have hb4 : Below (w.heap.size + 1) w3 w4 := Below.grown (Below.refl _ _) hg4 (by have := hb3.size; omega) hge3.out
  have hbw4 : Below w.heap.size w w4 := BX.trans ((hb3.trans hb4).mono (by omega))
  exact bodyPost_ret (v := .tuple #[.int .i64 ((Lib.compact (L.mergeSort leI)).length : Int), .int .i64 z]) (by simp [results, Try.results23, go_sem]) rfl ⟨rfl, hbw4⟩

end Go.Proofs.Ytmopnbijfcamjaa
