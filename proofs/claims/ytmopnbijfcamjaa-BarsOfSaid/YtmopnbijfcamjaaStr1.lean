/- Strange of bars (layer 1). -/
import Derived.BigRegionIn
import Derived.Shelf.RegionOpen
import Derived.Handy
import Derived.LoopIn
import Derived.Test.YtmopnbijfcamjaaOf1
namespace Go.Proofs.Ytmopnbijfcamjaa
open Go.RowKit
open Go.Sort (grow)
set_option linter.unusedVariables false

attribute [local go_sem] Oper.semAt_some
/-- the mark of a piece is right -/
def rtB (bs : List Br) (ps : List Pc) (j : Nat) (x : Sw) : Bool := !wrB bs ps j (iAt x.of j).toNat
def rgL (bs : List Br) (ps : List Pc) (np : Nat) (T : List Sw) (k q : Nat) : List Int := (List.range np).map fun (j : Nat) => (cntL (rtB bs ps j) T (if j < q then k + 1 else k) : Int)
section
variable {bs : List Br} {ps : List Pc} {np k q : Nat} {T : List Sw}
theorem rgL_len (bs : List Br) (ps : List Pc) (np : Nat) (T : List Sw) (k q : Nat) : (rgL bs ps np T k q).length = np := by simp [rgL]
theorem rgL_get (j : Nat) (hj : j < np) : (rgL bs ps np T k q)[j]? = some (cntL (rtB bs ps j) T (if j < q then k + 1 else k) : Int) := by
  unfold rgL
  rw [List.getElem?_map, List.getElem?_range hj]; rfl
theorem rgL_at {j : Nat} (hj : j < np) : iAt (rgL bs ps np T k q) j = (cntL (rtB bs ps j) T (if j < q then k + 1 else k) : Int) := by
  unfold iAt
  rw [List.getD_eq_getElem?_getD, rgL_get j hj]; rfl
theorem rgL_0 (bs : List Br) (ps : List Pc) (np : Nat) (T : List Sw) : rgL bs ps np T 0 0 = List.replicate np 0 := by
  apply List.ext_getElem?
  intro j
  rw [List.getElem?_replicate]
  by_cases hj : j < np
  · rw [rgL_get j hj, if_pos hj, if_neg (by omega), cntL_0]; rfl
  · rw [List.getElem?_eq_none (by rw [rgL_len]; omega), if_neg hj]
theorem rgL_all (bs : List Br) (ps : List Pc) (np : Nat) (T : List Sw) (k : Nat) : rgL bs ps np T k np = rgL bs ps np T (k + 1) 0 := by
  apply List.ext_getElem?
  intro j
  by_cases hj : j < np
  · rw [rgL_get j hj, rgL_get j hj, if_pos hj, if_neg (by omega)]
  · rw [List.getElem?_eq_none (by rw [rgL_len]; omega), List.getElem?_eq_none (by rw [rgL_len]; omega)]
theorem rgL_yes {x : Sw} (h : T[k]? = some x) (hq : q < np) (hr : rtB bs ps q x = true) : rgL bs ps np T k (q + 1) = (rgL bs ps np T k q).set q (iAt (rgL bs ps np T k q) q + 1) := by
  apply List.ext_getElem?
  intro j
  rw [List.getElem?_set]
  by_cases hj : j < np
  · rw [rgL_get j hj, rgL_get j hj]
    by_cases e : q = j
    · subst e
      rw [if_pos rfl, if_pos (show q < (rgL bs ps np T k q).length by rw [rgL_len]; exact hq), rgL_at hq, if_pos (Nat.lt_succ_self q), if_neg (Nat.lt_irrefl q), cntL_succ h, hr]
      simp
    · rw [if_neg e]
      by_cases h1 : j < q
      · rw [if_pos h1, if_pos (by omega)]
      · rw [if_neg h1, if_neg (by omega)]
  · rw [List.getElem?_eq_none (by rw [rgL_len]; omega), if_neg (by omega), List.getElem?_eq_none (by rw [rgL_len]; omega)]
theorem rgL_no {x : Sw} (h : T[k]? = some x) (hr : rtB bs ps q x = false) : rgL bs ps np T k (q + 1) = rgL bs ps np T k q := by
  apply List.ext_getElem?
  intro j
  by_cases hj : j < np
  · rw [rgL_get j hj, rgL_get j hj]
    by_cases e : q = j
    · subst e
      rw [if_pos (by omega), if_neg (by omega), cntL_succ h, hr]
      simp
    · by_cases h1 : j < q
      · rw [if_pos h1, if_pos (by omega)]
      · rw [if_neg h1, if_neg (by omega)]
  · rw [List.getElem?_eq_none (by rw [rgL_len]; omega), List.getElem?_eq_none (by rw [rgL_len]; omega)]
end
def stL (bs : List Br) (ps : List Pc) (T : List Sw) (k : Nat) : List Int := ((List.range k).filter fun (j : Nat) => T.countP (rtB bs ps j) == 0).map fun (j : Nat) => (j : Int)
theorem stL_len (bs : List Br) (ps : List Pc) (T : List Sw) (k : Nat) : (stL bs ps T k).length ≤ k := by
  unfold stL
  rw [List.length_map]
  exact Nat.le_trans (List.length_filter_le _ _) (by simp)
theorem stL_yes {bs : List Br} {ps : List Pc} {T : List Sw} {k : Nat} (h : T.countP (rtB bs ps k) = 0) : stL bs ps T (k + 1) = stL bs ps T k ++ [(k : Int)] := by
  unfold stL
  generalize hq : (fun (j : Nat) => T.countP (rtB bs ps j) == 0) = q
  have hqk : q k = true := by rw [← hq]; show (T.countP (rtB bs ps k) == 0) = true; rw [h]; rfl
  rw [List.range_succ, List.filter_append, List.map_append]; simp [hqk]
theorem stL_no {bs : List Br} {ps : List Pc} {T : List Sw} {k : Nat} (h : T.countP (rtB bs ps k) ≠ 0) : stL bs ps T (k + 1) = stL bs ps T k := by
  unfold stL
  generalize hq : (fun (j : Nat) => T.countP (rtB bs ps j) == 0) = q
  have hqk : q k = false := by rw [← hq]; show (T.countP (rtB bs ps k) == 0) = false; exact beq_false_of_ne h
  rw [List.range_succ, List.filter_append, List.map_append]; simp [hqk]
def strP (bs : List Br) (ps : List Pc) (kf wr : Int) : List Int := bif askE bs ps kf wr true == 0 then stL bs ps (swA bs ps kf wr) ps.length else []
set_option maxRecDepth 100000 in
set_option maxHeartbeats 3200000 in
theorem strange_c (Ab Ap : Option Addr) (nb cb np cp : Nat) (kf wrg : Int) (bs : List Br) (ms : List Pm) (ps : List Pc) (w : World) (h1 : nb ≤ 40) (h2 : np ≤ 40) (h3 : ∀ k, k < np → (pcAt ps k).hs.length ≤ 40) (HB : BrsAt w Ab nb bs) (HP : PcsAt w Ap np ms ps) :
    Calls Try.prog 40 #[.agg #[.slice Ab nb cb, .int .i64 kf, .slice Ap np cp, .int .i64 wrg]] w fun e w' => ∃ v, e = .returned (.tuple #[v, .int .i64 (askE bs ps kf wrg true)]) ∧ w'.ownsRow w.heap.size 3 1 v (strP bs ps kf wrg).length ((strP bs ps kf wrg).flatMap encI) ∧ Below w.heap.size w w' := by
  have HBI := Lib.hid HB
  have HPI := Lib.hid HP
  have hBl := HB.1
  have hPl := HP.pl
  have HOK := Lib.hid (fun h => okSt_of (kf := kf) (wr := wrg) hBl hPl h3 h)
  have htr := fun W (hb : Below w.heap.size w W) => truths_c Ab Ap nb cb np cp kf wrg true bs ms ps W h1 h2 h3 (HB.later hb) (HP.later hb)
  obtain ⟨z, hz⟩ : ∃ z, askE bs ps kf wrg true = z := ⟨_, rfl⟩
  rw [hz] at htr
  replace htr := Lib.hid htr
  have hR : strP bs ps kf wrg = bif z == 0 then stL bs ps (swA bs ps kf wrg) np else [] := by unfold strP; rw [hz, hPl]
  rw [hR, hz]
  have H3 := Lib.hid h3
  clear HB HP h3
  by_cases hz0 : z = 0
  · subst hz0
    obtain ⟨hck, -, -⟩ := askE_0 hz
    obtain ⟨ok, hw0, hw8⟩ := HOK.out hck
    have OK := Lib.hid ok
    have hle := swA_len (wr := wrg) ok
    have HBAR := Lib.hid (fun x (hx : x ∈ swA bs ps kf wrg) (j : Nat) (hj : j < np) => by have := swA_of_bar (k := j) hx (by rw [hPl]; exact hj); rw [hBl] at this; exact this)
    have HPL := Lib.hid hPl
    obtain ⟨T, hT⟩ : ∃ T, swA bs ps kf wrg = T := ⟨_, rfl⟩
    rw [hT] at hle HBAR ⊢
    have HT := Lib.hid hT
    have hnp8 := ok.hp
    clear hR hz hck ok HOK hBl hPl hT
    refine (callsIn_wide (n := 6)).1 (callsIn_of_wp_marks Try.func40 rfl trivial ?_ rfl)
    simp only [Try.ntmps40, List.size_toArray, List.length_cons, List.length_nil, Nat.reduceAdd, Nat.reduceSub, Array.replicate_succ, Array.replicate_zero, List.push_toArray, List.append_toArray, List.nil_append, List.cons_append]
    gi_wp2_with fail
    refine ⟨trivial, callsIn_wide.2 ((htr.out _ (by (repeat first | with_reducible assumption | with_reducible exact Below.refl _ _ | (with_reducible refine Below.alloc ?_ ?side _; case side => (first | omega | (with_reducible exact Below.size (by assumption)) | (simp; done) | (simp; omega))) | (with_reducible refine Below.setCell ?_ ?side _; case side => (first | omega | (with_reducible exact Below.size (by assumption)) | (simp; done) | (simp; omega))) | with_reducible refine Below.drew ?_ | with_reducible refine below_drewN ?_ _ | (with_reducible refine below_step (by assumption) ?side ?_; case side => (first | omega | (with_reducible exact Below.size (by assumption)) | (simp; done) | (simp; omega)))))).mono ?_)⟩
    rintro e w6 ⟨f, rfl, hb1, hf1, -⟩
    obtain ⟨b1, b2, rfl, p1, p2, hne, hM⟩ := hf1 rfl
    have hbw6 : Below w.heap.size w w6 := by (repeat first | with_reducible assumption | with_reducible exact Below.refl _ _ | (with_reducible refine Below.alloc ?_ ?side _; case side => (first | omega | (with_reducible exact Below.size (by assumption)) | (simp; done) | (simp; omega))) | (with_reducible refine Below.setCell ?_ ?side _; case side => (first | omega | (with_reducible exact Below.size (by assumption)) | (simp; done) | (simp; omega))) | with_reducible refine Below.drew ?_ | with_reducible refine below_drewN ?_ _ | (with_reducible refine below_step (by assumption) ?side ?_; case side => (first | omega | (with_reducible exact Below.size (by assumption)) | (simp; done) | (simp; omega))))
    simp only [World.size_alloc] at p1 p2
    have P0' := fun i => (hb1.cell (p := ⟨w.heap.size, i, none⟩) (by simp)).trans ((al1_0 rfl).2.1 i)
    have z6 := hb1.size
    simp only [World.size_alloc] at z6
    have n60 : w.heap.size < w6.heap.size := by omega
    have K1 := Lib.hid ((Blk.new w 25 #[.slice Ab nb cb, .int .i64 kf, .slice Ap np cp, .int .i64 wrg]).below hb1 (by simp))
    have R6 := Lib.hid (RgB.of hM hbw6)
    have l61 := hM.k1.lt
    have l62 := hM.k2.lt
    have hmk := fun W => mk_ints W np (by omega)
    clear hf1 hM hb1
    gi_wp2
    obtain ⟨W3, hW3⟩ : ∃ W3, (w6.alloc (.cells (mkC np) 3)).alloc (.cells #[.slice (some ⟨w6.heap.size, 0, none⟩) np np] 32) = W3 := ⟨_, rfl⟩
    rw [hW3]
    have B3 : Below w6.heap.size w6 W3 := (al2 hW3).1
    have z3 : W3.heap.size = w6.heap.size + 2 := (al2 hW3).2
    have R3 := Lib.hid (R6.out.later B3)
    have K3 := Lib.hid (K1.out.below B3 n60)
    have HO3 := Lib.hid (by rw [← hW3, rgL_0]; exact own_below (mk_own w6 np (by omega)) ((Below.refl _ _).alloc (by simp) _) : W3.ownsRow w6.heap.size 3 1 (.slice (some ⟨w6.heap.size, 0, none⟩) np np) np ((rgL bs ps np T 0 0).flatMap encI))
    have K8 := Lib.hid (by rw [← hW3]; have h := Blk.new (w6.alloc (.cells (mkC np) 3)) 32 #[.slice (some ⟨w6.heap.size, 0, none⟩) np np]; simp only [World.size_alloc] at h; exact h : Blk W3 (w6.heap.size + 1) 32 #[.slice (some ⟨w6.heap.size, 0, none⟩) np np])
    clear hW3 hmk P0'
    have en := enters_of Try.func82 (by kernel_rfl) rfl
    refine wpIn_rangeS (gf := 82) (fst := #[]) (lb := #[.pointer (some ⟨b1, 0, none⟩), .pointer (some ⟨b2, 0, none⟩)]) rfl en (sawings1_c b1 b2 Ab Ap nb cb np cp kf wrg wrg bs ms ps OK.out ⟨hw0, hw8⟩) rfl
      (fun b k W => RgB w b1 b2 Ab Ap nb cb np cp kf wrg wrg W ∧ Blk W w.heap.size 25 #[.slice Ab nb cb, .int .i64 kf, .slice Ap np cp, .int .i64 wrg] ∧ Blk W (w6.heap.size + 1) 32 #[.slice (some ⟨w6.heap.size, 0, none⟩) np np] ∧ W.ownsRow w6.heap.size 3 1 (.slice (some ⟨w6.heap.size, 0, none⟩) np np) np ((rgL bs ps np T k 0).flatMap encI))
      (fun c W => False) ?hI ?hIx ?hmem ?h0 ?hround ?hdone ?hstop
    case hI =>
      rintro b k W W' hb ⟨a1, a0, a2, a3⟩ ht
      exact ⟨a1.tameB ht (by omega) (by omega) (by omega) (by omega), ht.blk a0 (by omega), ht.blk a2 (by omega), ht.own a3 (fun e => by simp [Value.ownBlock] at e; omega)⟩
    case hIx => exact fun c W W' h => h.elim
    case hmem => exact fun b k W hb h => h.1.mem HBI.out HPI.out
    case h0 => exact fun b W hb h => ⟨R3.out.later h, K3.out.below h K3.out.lt, K8.out.below h K8.out.lt, own_below HO3.out h⟩
    case hround =>
      rintro l b k x W hl hb hx ⟨a1, a0, a2, a3⟩ hat
      rw [HT.out] at hx
      have hxm := List.mem_of_getElem? hx
      have hbar := HBAR.out x hxm
      have hxl := swA_of_len (x := x) (bs := bs) (ps := ps) (kf := kf) (wr := wrg) (by rw [HT.out]; exact hxm)
      rw [HPL.out] at hxl
      have HX := Lib.hid hx
      have HBR := Lib.hid hbar
      have A1 := Lib.hid a1
      have A0 := Lib.hid a0
      have A2 := Lib.hid a2
      have A3 := Lib.hid a3
      have AT := Lib.hid hat
      clear a1 a0 a2 a3 hat hx hxm hbar
      gi_wp2
      refine ⟨KeepsFrom.refl _ _, KeepC.refl _ _, fun W2 ht => ?_⟩
      have B1 := Lib.hid (A1.out.tame ht (by omega))
      have B0 := Lib.hid (A0.out.tame ht)
      have B2 := Lib.hid (A2.out.tame ht)
      have B3' := Lib.hid (ht.own A3.out)
      obtain ⟨A1', c1', A2', c2', A3', c3', hbk, -, -, ⟨hI1, hI2⟩, -⟩ := (AT.out.tame ht).ex
      have HI2 := Lib.hid hI2
      rw [hxl] at hI1 hbk
      have HI1 := Lib.hid hI1
      have HBK := Lib.hid hbk
      have cb1 := hbk.cell
      have hlb := hbk.lt
      have z2 := B1.out.bw.size
      have zt := ht.size
      have lt8 := B2.out.lt
      clear ht hbk hI1 hI2
      gi_wp2
      gi_loopw [32] (fun i (wr : World) => ∃ q : Nat, q ≤ np ∧ i = .int .i64 q ∧ Hid (RgB w b1 b2 Ab Ap nb cb np cp kf wrg wrg wr) ∧ Hid (Blk wr w.heap.size 25 #[.slice Ab nb cb, .int .i64 kf, .slice Ap np cp, .int .i64 wrg]) ∧ Hid (Blk wr (w6.heap.size + 1) 32 #[.slice (some ⟨w6.heap.size, 0, none⟩) np np]) ∧ Hid (wr.ownsRow w6.heap.size 3 1 (.slice (some ⟨w6.heap.size, 0, none⟩) np np) np ((rgL bs ps np T k q).flatMap encI)) ∧ Hid (KeepC (W3.heap.size + 2) W2 wr) ∧ KeepsFrom W3.heap.size W2 wr ∧ W2.heap.size ≤ wr.heap.size ∧ Hid (IntsAt wr A1' np x.of)) (fun i _ => np - (intOf i).toNat)
      case atStart => exact ⟨0, by omega, rfl, B1, B0, B2, B3', KeepC.refl _ _, KeepsFrom.refl _ _, Nat.le_refl _, HI1⟩
      case round =>
        obtain ⟨q, hq, rfl, C1, C0, C2, C3, CK, hkf, hzz, CI⟩ := hrel
        by_cases hqn : q < np
        · have hqB : decide ((q : Int) < np) = true := by simp; omega
          obtain ⟨g, o, rfl, hg, x1⟩ := CI.out.get hqn
          obtain ⟨bar, hbar, hbv⟩ := HBR.out q hqn
          rw [hbv] at x1
          have hrt : Hid (rtB bs ps q x = !wrB bs ps q bar) := by show _ = _; unfold rtB; rw [hbv, Int.toNat_natCast]
          have c0 := C0.out.cell
          have ciw := isWrong_c Ab Ap nb cb np cp kf wrg bs ms ps q bar wr (HBI.out.later C1.out.bw) (HPI.out.later C1.out.bw) hqn hbar (H3.out q hqn)
          obtain ⟨iw, hiw⟩ : ∃ iw, wrB bs ps q bar = iw := ⟨_, rfl⟩
          rw [hiw] at ciw hrt
          replace ciw := Lib.hid ciw
          have zr := C1.out.bw.size
          clear hiw hbv
          cases iw
          · have HY := Lib.hid (rgL_yes (bs := bs) (ps := ps) HX.out hqn hrt.out)
            have hva := rgL_at (bs := bs) (ps := ps) (T := T) (k := k) (q := q) hqn
            rw [if_neg (Nat.lt_irrefl q)] at hva
            have hvl := cntL_le (rtB bs ps q) T k
            obtain ⟨m, hm⟩ : ∃ m, cntL (rtB bs ps q) T k = m := ⟨_, rfl⟩
            rw [hm] at hva hvl
            rw [hva] at HY
            have HVA := Lib.hid hva
            clear hm hva
            gi_wp2_with fail
            refine ⟨trivial, CallsIn.inRound l (callsIn_wide.2 (ciw.out.mono ?_))⟩
            rintro e w7 ⟨rfl, hb7⟩
            have D1 := Lib.hid (C1.out.later hb7)
            have D0 := Lib.hid (C0.out.below hb7 C0.out.lt)
            have D2 := Lib.hid (C2.out.below hb7 C2.out.lt)
            have D3 := Lib.hid (own_below C3.out hb7)
            have x2 := own_int_get D3.out (rgL_len _ _ _ _ _ _) hqn
            rw [HVA.out] at x2
            have f2 := D3.out.frozenAt q
            have c8 := D2.out.cell 0
            have z7 := hb7.size
            have hkf7 : KeepsFrom W3.heap.size W2 w7 := by (repeat first | with_reducible assumption | with_reducible exact KeepsFrom.refl _ _ | with_reducible refine keeps_setCell ?_ _ _ | with_reducible refine keeps_alloc ?_ _ | with_reducible refine keeps_drew ?_ | with_reducible refine keeps_drewN ?_ _ | with_reducible refine keeps_step (by assumption) (Nat.le_refl _) ?_)
            have CI7 := Lib.hid (CI.out.later hb7)
            have hw : IntKind.i64.wrap ((m : Int) + 1) = (m : Int) + 1 := IntWalk.i64_in _ (by omega)
            clear c0 cb1
            gi_wp2
            go_roundw
            case rel =>
              refine ⟨q + 1, by omega, by go_num, D1.out.set (by show w.heap.size ≤ w6.heap.size; omega) (by show b1 ≠ w6.heap.size; omega) (by show b2 ≠ w6.heap.size; omega) _, D0.out.far (by show w.heap.size ≠ w6.heap.size; omega) _, D2.out.far (by show w6.heap.size + 1 ≠ w6.heap.size; omega) _, ?_, (CK.out.trans (.of_below hb7)).trans (.set (by show w6.heap.size < _; omega) _), by (repeat first | with_reducible assumption | with_reducible exact KeepsFrom.refl _ _ | with_reducible refine keeps_setCell ?_ _ _ | with_reducible refine keeps_alloc ?_ _ | with_reducible refine keeps_drew ?_ | with_reducible refine keeps_drewN ?_ _ | with_reducible refine keeps_step (by assumption) (Nat.le_refl _) ?_), by simp; omega, ?_⟩
              · show World.ownsRow _ _ _ _ _ _ _
                rw [HY.out]; exact own_int_set D3.out (rgL_len _ _ _ _ _ _) hqn ((m : Int) + 1)
              · have hge := (HI2.out _ rfl).1
                exact ints_iff.2 (sl_set (ints_iff.1 CI7.out) _ (by show g ≠ w6.heap.size; simp only at hge; omega))
            case measure => simp [intOf]; omega
          · have HN := Lib.hid (rgL_no (np := np) (bs := bs) (ps := ps) HX.out hrt.out)
            gi_wp2_with fail
            refine ⟨trivial, CallsIn.inRound l (callsIn_wide.2 (ciw.out.mono ?_))⟩
            rintro e w7 ⟨rfl, hb7⟩
            have D1 := Lib.hid (C1.out.later hb7)
            have D0 := Lib.hid (C0.out.below hb7 C0.out.lt)
            have D2 := Lib.hid (C2.out.below hb7 C2.out.lt)
            have D3 := Lib.hid (own_below C3.out hb7)
            have z7 := hb7.size
            have hkf7 : KeepsFrom W3.heap.size W2 w7 := by (repeat first | with_reducible assumption | with_reducible exact KeepsFrom.refl _ _ | with_reducible refine keeps_setCell ?_ _ _ | with_reducible refine keeps_alloc ?_ _ | with_reducible refine keeps_drew ?_ | with_reducible refine keeps_drewN ?_ _ | with_reducible refine keeps_step (by assumption) (Nat.le_refl _) ?_)
            have CI7 := Lib.hid (CI.out.later hb7)
            have CK7 := Lib.hid (CK.out.trans (.of_below hb7))
            clear c0 cb1
            gi_wp2
            go_roundw
            case rel => exact ⟨q + 1, by omega, by go_num, D1, D0, D2, by show World.ownsRow _ _ _ _ _ _ _; rw [HN.out]; exact D3.out, CK7, hkf7, by omega, CI7⟩
            case measure => simp [intOf]; omega
        · obtain rfl : np = q := by omega
          have hqB : decide (((np : Nat) : Int) < np) = false := by simp
          have C3' := C3.out
          rw [rgL_all] at C3'
          replace C3' := Lib.hid C3'
          gi_wp2
          exact ⟨hkf, CK.out, C1.out, C0.out, C2.out, C3'.out⟩
    case hdone =>
      rintro D b W hD hb ⟨a1, a0, a2, a3⟩ hK
      rw [HT.out] at a3
      have c8 := a2.cell 0
      have HO := Lib.hid a3
      have zz := a1.bw.size
      have hbw := a1.bw
      clear a1 a0 a2 a3
      gi_wp2
      clear R6 R3 HO3 K8 HT HPL HBAR OK HBI HPI
      refine wpIn_wide.2 ?_
      have HKD := Lib.hid hK
      have zz' : w.heap.size ≤ W.heap.size := by omega
      have hDl : D < W.heap.size := (Array.getElem?_eq_some_iff.1 hK).1
      have hz36 : w6.heap.size < W.heap.size := by omega
      have own0 := Lib.hid (World.ownsRow_nil W W.heap.size 3 1)
      clear hK c8
      go_loopw [10, 51] (fun v i (wr : World) => ∃ k : Nat, k ≤ np ∧ i = .int .i64 k ∧ Hid (wr.ownsRow W.heap.size 3 1 v (stL bs ps T k).length ((stL bs ps T k).flatMap encI)) ∧ Below W.heap.size W wr) (fun _ i _ => np - (intOf i).toNat)
      case atStart => exact ⟨0, by omega, rfl, own0, Below.refl _ _⟩
      case round =>
        obtain ⟨k, hk, rfl, HOr, hb⟩ := hrel
        have zb := hb.size
        have hll := stL_len bs ps T k
        by_cases hlt : k < np
        · have hqB : decide ((k : Int) < np) = true := by simp; omega
          have x0 := (hb.cell (p := ⟨w6.heap.size, k, none⟩) hz36).trans (own_int_get HO.out (rgL_len _ _ _ _ _ _) hlt)
          rw [rgL_at hlt, if_neg (Nat.not_lt_zero k), cntL_all] at x0
          have HY := Lib.hid (stL_yes (bs := bs) (ps := ps) (T := T) (k := k))
          have HN := Lib.hid (stL_no (bs := bs) (ps := ps) (T := T) (k := k))
          obtain ⟨m, hm⟩ : ∃ m, T.countP (rtB bs ps k) = m := ⟨_, rfl⟩
          rw [hm] at x0 HY HN
          clear hm
          by_cases e1 : m = 0
          · have e1B : ((m : Int) == 0) = true := by rw [e1]; rfl
            have HYe := Lib.hid (HY.out e1)
            obtain ⟨n, hn⟩ : ∃ n, (stL bs ps T k).length = n := ⟨_, rfl⟩
            rw [hn] at HOr hll
            have HN' := Lib.hid hn
            clear hn
            replace e1 := Lib.hid e1
            go_wp2_with (at_builtin; go_must (refine wpList_append_T _ (d := (0 : Int)) rfl (.tmp 58) (.tmp 60) _ rfl W.heap.size _ 1 8 intE encI_len encI_one u10 u10.ownBlock n (stL bs ps T k) rfl rfl ?ow _ 1 _ [(k : Int)] rfl ?sl (by omega) ?sz ?_; (case ow => exact own_below HOr.out (by (repeat first | with_reducible assumption | with_reducible exact Below.refl _ _ | (with_reducible refine Below.alloc ?_ ?side _; case side => (first | omega | (with_reducible exact Below.size (by assumption)) | (simp; done) | (simp; omega))) | (with_reducible refine Below.setCell ?_ ?side _; case side => (first | omega | (with_reducible exact Below.size (by assumption)) | (simp; done) | (simp; omega))) | with_reducible refine Below.drew ?_ | with_reducible refine below_drewN ?_ _ | (with_reducible refine below_step (by assumption) ?side ?_; case side => (first | omega | (with_reducible exact Below.size (by assumption)) | (simp; done) | (simp; omega)))))); (case sl => exact sl_new encI_len (by first | rfl | simp) rfl rfl); (case sz => go_size); (rintro v8 w8 ho8 hg8 ha8); (have hb8 : Below W.heap.size wr w8 := Below.grown (by (repeat first | with_reducible assumption | with_reducible exact Below.refl _ _ | (with_reducible refine Below.alloc ?_ ?side _; case side => (first | omega | (with_reducible exact Below.size (by assumption)) | (simp; done) | (simp; omega))) | (with_reducible refine Below.setCell ?_ ?side _; case side => (first | omega | (with_reducible exact Below.size (by assumption)) | (simp; done) | (simp; omega))) | with_reducible refine Below.drew ?_ | with_reducible refine below_drewN ?_ _ | (with_reducible refine below_step (by assumption) ?side ?_; case side => (first | omega | (with_reducible exact Below.size (by assumption)) | (simp; done) | (simp; omega))))) hg8 (by go_size) (own_ge HOr.out)); (have HO8 := Lib.hid ho8); (clear ho8 hg8 ha8)))
            go_roundw
            case rel => exact ⟨k + 1, by omega, by go_num, by show World.ownsRow _ _ _ _ _ _ _; rw [HYe.out, List.length_append, HN'.out]; exact HO8.out, hb.trans hb8⟩
            case measure => simp [intOf]; omega
          · have e1B : ((m : Int) == 0) = false := by simp; omega
            have HNe := Lib.hid (HN.out e1)
            replace e1 := Lib.hid e1
            go_wp2
            go_roundw
            case rel => exact ⟨k + 1, by omega, by go_num, by show World.ownsRow _ _ _ _ _ _ _; rw [HNe.out]; exact HOr.out, hb⟩
            case measure => simp [intOf]; omega
        · obtain rfl : np = k := by omega
          have hqB : decide (((np : Nat) : Int) < np) = false := by simp
          go_wp2
          gi_wp2
          have hKW := (hb.block D hDl).trans HKD.out
          have hbww := hbw.trans (hb.mono zz')
          have zz9 := hbww.size
          refine leave_mark (v := .tuple #[u10, .int .i64 0]) hKW (fun W' ht => ?_) (fun W' ht => ⟨_, rfl, own_mono (ht.own HOr.out) zz', ht.below (by omega) (by omega) (by (repeat first | with_reducible assumption | with_reducible exact Below.refl _ _ | (with_reducible refine Below.alloc ?_ ?side _; case side => (first | omega | (with_reducible exact Below.size (by assumption)) | (simp; done) | (simp; omega))) | (with_reducible refine Below.setCell ?_ ?side _; case side => (first | omega | (with_reducible exact Below.size (by assumption)) | (simp; done) | (simp; omega))) | with_reducible refine Below.drew ?_ | with_reducible refine below_drewN ?_ _ | (with_reducible refine below_step (by assumption) ?side ?_; case side => (first | omega | (with_reducible exact Below.size (by assumption)) | (simp; done) | (simp; omega)))))⟩)
          simp [results, Try.results40, go_sem]
    case hstop => exact fun D c W hD h => h.elim
  · have hz0B : (z != 0) = true := by simpa using hz0
    have hz0E : (z == 0) = false := by simpa using hz0
    rw [hz0E]
    have hte := Lib.hid (fun W hb => (htr.out W hb).mono fun e w' h => h.err hz0)
    clear hR hz hz0 HOK htr hBl hz0E hPl
    go_enter Try.func40, Try.ntmps40
    go_wp2_with (go_at_call 56; refine (hte.out _ (by (repeat first | with_reducible assumption | with_reducible exact Below.refl _ _ | (with_reducible refine Below.alloc ?_ ?side _; case side => (first | omega | (with_reducible exact Below.size (by assumption)) | (simp; done) | (simp; omega))) | (with_reducible refine Below.setCell ?_ ?side _; case side => (first | omega | (with_reducible exact Below.size (by assumption)) | (simp; done) | (simp; omega))) | with_reducible refine Below.drew ?_ | with_reducible refine below_drewN ?_ _ | (with_reducible refine below_step (by assumption) ?side ?_; case side => (first | omega | (with_reducible exact Below.size (by assumption)) | (simp; done) | (simp; omega)))))).mono ?_; (rintro e w1 ⟨rfl, hb1⟩; obtain ⟨hc1, hf1⟩ := bcell hb1; have zs1 := hb1.size; (try simp at zs1); have n1_0 : w.heap.size < w1.heap.size := (by omega)))
    exact bodyPost_ret (v := .tuple #[.slice none 0 0, .int .i64 z]) (by simp [results, Try.results40, go_sem]) rfl ⟨_, rfl, World.ownsRow_nil _ _ _ _, by (repeat first | with_reducible assumption | with_reducible exact Below.refl _ _ | (with_reducible refine Below.alloc ?_ ?side _; case side => (first | omega | (with_reducible exact Below.size (by assumption)) | (simp; done) | (simp; omega))) | (with_reducible refine Below.setCell ?_ ?side _; case side => (first | omega | (with_reducible exact Below.size (by assumption)) | (simp; done) | (simp; omega))) | with_reducible refine Below.drew ?_ | with_reducible refine below_drewN ?_ _ | (with_reducible refine below_step (by assumption) ?side ?_; case side => (first | omega | (with_reducible exact Below.size (by assumption)) | (simp; done) | (simp; omega))))⟩

end Go.Proofs.Ytmopnbijfcamjaa
