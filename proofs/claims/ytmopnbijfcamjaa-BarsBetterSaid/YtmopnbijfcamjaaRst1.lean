/- Rest of bars (layer 1). -/
import Derived.BigRegionIn
import Derived.Shelf.RegionOpen
import Derived.Test.YtmopnbijfcamjaaAl1
import Derived.Test.YtmopnbijfcamjaaFw1
import Derived.Test.YtmopnbijfcamjaaQs
namespace Go.Proofs.Ytmopnbijfcamjaa
open Go.RowKit
open Go.Sort (grow)
set_option linter.unusedVariables false

attribute [local go_sem] Oper.semAt_some
def mn2 (a b : Int) : Int := if b < a then b else a
def mx2 (a b : Int) : Int := if a < b then b else a
theorem run_min2 {P : Program} {w : World} (ts : Array TypeId) (t : TypeId) (x y : Int) : (Builtin.min_ ts t #[.int .i64 x, .int .i64 y]).run P w = .ok (.int .i64 (mn2 x y)) w := by
  simp [Builtin.min_, Builtin.min2, mn2]
theorem run_max2 {P : Program} {w : World} (ts : Array TypeId) (t : TypeId) (x y : Int) : (Builtin.max_ ts t #[.int .i64 x, .int .i64 y]).run P w = .ok (.int .i64 (mx2 x y)) w := by
  simp [Builtin.max_, Builtin.max2, mx2]
attribute [local go_sem] run_min2 run_max2
def rsF (bar : Nat) (o : Sp) (x : Sw) : Sp := ⟨mn2 o.lo (iAt x.rests bar), mx2 o.hi (iAt x.rests bar)⟩
def restP (bs : List Br) (ps : List Pc) (kf wr bar : Int) : Sp × Int :=
  bif askE bs ps kf wr (wi bar 0 ((bs.length : Int) - 1)) == 0 then ((swA bs ps kf wr).foldl (rsF bar.toNat) ⟨999, 0⟩, 0) else (⟨0, 0⟩, askE bs ps kf wr (wi bar 0 ((bs.length : Int) - 1)))
set_option maxRecDepth 100000 in
set_option maxHeartbeats 3200000 in
theorem rest_c (Ab Ap : Option Addr) (nb cb np cp : Nat) (kf wrg bar : Int) (bs : List Br) (ms : List Pm) (ps : List Pc) (w : World) (h1 : nb ≤ 40) (h2 : np ≤ 40) (h3 : ∀ k, k < np → (pcAt ps k).hs.length ≤ 40) (HB : BrsAt w Ab nb bs) (HP : PcsAt w Ap np ms ps) :
    Calls Try.prog 31 #[.agg #[.slice Ab nb cb, .int .i64 kf, .slice Ap np cp, .int .i64 wrg], .int .i64 bar] w fun e w' => e = .returned (.tuple #[.agg #[.int .i64 (restP bs ps kf wrg bar).1.lo, .int .i64 (restP bs ps kf wrg bar).1.hi], .int .i64 (restP bs ps kf wrg bar).2]) ∧ Below w.heap.size w w' := by
  have HBI := Lib.hid HB
  have HPI := Lib.hid HP
  have hBl := HB.1
  have hPl := HP.pl
  have HOK := Lib.hid (fun h => okSt_of (kf := kf) (wr := wrg) hBl hPl h3 h)
  obtain ⟨is, his⟩ : ∃ is, wi bar 0 ((nb : Int) - 1) = is := ⟨_, rfl⟩
  have htr := fun W (hb : Below w.heap.size w W) => truths_c Ab Ap nb cb np cp kf wrg is bs ms ps W h1 h2 h3 (HB.later hb) (HP.later hb)
  obtain ⟨z, hz⟩ : ∃ z, askE bs ps kf wrg is = z := ⟨_, rfl⟩
  rw [hz] at htr
  have HIS := Lib.hid his
  replace htr := Lib.hid htr
  clear HB HP hPl h3
  have hR : restP bs ps kf wrg bar = bif z == 0 then ((swA bs ps kf wrg).foldl (rsF bar.toNat) ⟨999, 0⟩, 0) else (⟨0, 0⟩, z) := by unfold restP; rw [hBl, his, hz]
  rw [hR]
  have hpb := fun W => isBar_c Ab Ap nb cb np cp kf wrg bar W h1 h2
  rw [his] at hpb
  replace hpb := Lib.hid hpb
  by_cases hz0 : z = 0
  · subst hz0
    obtain ⟨hck, his1, -⟩ := askE_0 hz
    subst his1
    obtain ⟨ok, hw0, hw8⟩ := HOK.out hck
    have hlb := wi_true.1 his
    have OK := Lib.hid ok
    obtain ⟨bn, hbn⟩ : ∃ n : Nat, bar = (n : Int) := ⟨bar.toNat, by omega⟩
    subst hbn
    have hbnb : bn < nb := by omega
    rw [Int.toNat_natCast]
    obtain ⟨M, hM⟩ : ∃ M, (swA bs ps kf wrg).foldl (rsF bn) ⟨999, 0⟩ = M := ⟨_, rfl⟩
    rw [hM]
    have HMx := Lib.hid hM
    clear hR hz hck ok HOK hBl his hM hlb HIS
    refine (callsIn_wide (n := 6)).1 (callsIn_of_wp_marks Try.func31 rfl trivial ?_ rfl)
    simp only [Try.ntmps31, List.size_toArray, List.length_cons, List.length_nil, Nat.reduceAdd, Nat.reduceSub, Array.replicate_succ, Array.replicate_zero, List.push_toArray, List.append_toArray, List.nil_append, List.cons_append]
    gi_wp2_with fail
    refine wpIn_wide.2 ?_
    go_name_world X hX
    have BX : Below w.heap.size w X := (al3 hX).1
    have zX : X.heap.size = w.heap.size + 3 := (al3 hX).2
    have P0 := (al3_0 hX).2.1
    have P1 := (al3_1 hX).2.1 0
    have K2 := Lib.hid (by rw [← hX]; have h := Blk.new ((w.alloc (.cells #[.slice Ab nb cb, .int .i64 kf, .slice Ap np cp, .int .i64 wrg] 25)).alloc (.cells #[.int .i64 bn] 3)) 52 #[.int .i64 0, .int .i64 0]; simp only [World.size_alloc] at h; exact h : Blk X (w.heap.size + 1 + 1) 52 #[.int .i64 0, .int .i64 0])
    have lX : w.heap.size < X.heap.size := by omega
    have lX1 : w.heap.size + 1 < X.heap.size := by omega
    clear hX
    go_region_held3 (fun w' => (∀ j, w'.cell? ⟨w.heap.size, j, none⟩ = #[Value.slice Ab nb cb, .int .i64 kf, .slice Ap np cp, .int .i64 wrg][j]?) ∧ w'.cell? ⟨w.heap.size + 1, 0, none⟩ = some (.int .i64 bn))
      (first | exact ⟨P0, P1⟩ | exact ⟨fun j => (kb2.cell (p := ⟨w.heap.size, j, none⟩) lX).trans (P0 j), (kb2.cell (p := ⟨w.heap.size + 1, 0, none⟩) lX1).trans P1⟩ | exact ⟨fun j => (kb.cell (p := ⟨w.heap.size, j, none⟩) lX).trans (P0 j), (kb.cell (p := ⟨w.heap.size + 1, 0, none⟩) lX1).trans P1⟩ | go_keep)
      ((first | (go_at_call 71; refine (hpb.out _).mono ?_; (rintro e w5 ⟨rfl, hb5⟩); have kb : Below X.heap.size X w5 := Below.trans (by (repeat first | with_reducible assumption | with_reducible exact Below.refl _ _ | (with_reducible refine Below.alloc ?_ ?side _; case side => (first | omega | (with_reducible exact Below.size (by assumption)) | (simp; done) | (simp; omega))) | (with_reducible refine Below.setCell ?_ ?side _; case side => (first | omega | (with_reducible exact Below.size (by assumption)) | (simp; done) | (simp; omega))) | with_reducible refine Below.drew ?_ | with_reducible refine below_drewN ?_ _ | (with_reducible refine below_step (by assumption) ?side ?_; case side => (first | omega | (with_reducible exact Below.size (by assumption)) | (simp; done) | (simp; omega))))) (hb5.mono (by simp))) | (go_at_call 56; refine (htr.out _ (by (repeat first | with_reducible assumption | with_reducible exact Below.refl _ _ | (with_reducible refine Below.alloc ?_ ?side _; case side => (first | omega | (with_reducible exact Below.size (by assumption)) | (simp; done) | (simp; omega))) | (with_reducible refine Below.setCell ?_ ?side _; case side => (first | omega | (with_reducible exact Below.size (by assumption)) | (simp; done) | (simp; omega))) | with_reducible refine Below.drew ?_ | with_reducible refine below_drewN ?_ _ | (with_reducible refine below_step (by assumption) ?side ?_; case side => (first | omega | (with_reducible exact Below.size (by assumption)) | (simp; done) | (simp; omega)))))).mono ?_; (rintro e w6 ⟨f, rfl, hb6, hf6, -⟩); have kb2 : Below X.heap.size X w6 := Below.trans kb (hb6.mono kb.size))))
    all_goals
      obtain ⟨b1, b2, rfl, p1, p2, hne, hM⟩ := hf6 trivial
      have R6 := Lib.hid (RgB.of hM kb2)
      have z6 := kb2.size
      have P1' := (kb2.cell (p := ⟨w.heap.size + 1, 0, none⟩) lX1).trans P1
      have l61 := hM.k1.lt
      have l62 := hM.k2.lt
      have q1 : X.heap.size ≤ b1 := Nat.le_trans kb.size p1
      have q2 : X.heap.size ≤ b2 := Nat.le_trans kb.size p2
      clear hf6 hM hb6 hb5 p1 p2
      gi_wp2
      obtain ⟨W3, hW3⟩ : ∃ W3, w6.alloc (.cells #[.int .i64 999, .int .i64 0] 52) = W3 := ⟨_, rfl⟩
      rw [hW3]
      have B3 : Below w6.heap.size w6 W3 := (al1 hW3).1
      have z3 : W3.heap.size = w6.heap.size + 1 := (al1 hW3).2
      have R3 := Lib.hid (R6.out.later B3)
      have K8 := Lib.hid (by rw [← hW3]; exact Blk.new w6 _ _ : Blk W3 w6.heap.size 52 #[.int .i64 999, .int .i64 0])
      clear hW3
      have en := enters_of Try.func82 (by kernel_rfl) rfl
      refine wpIn_rangeS (gf := 82) (fst := #[]) (lb := #[.pointer (some ⟨b1, 0, none⟩), .pointer (some ⟨b2, 0, none⟩)]) rfl en (sawings1_c b1 b2 Ab Ap nb cb np cp kf wrg wrg bs ms ps OK.out ⟨hw0, hw8⟩) rfl
        (fun b k W => RgB X b1 b2 Ab Ap nb cb np cp kf wrg wrg W ∧ Blk W w6.heap.size 52 #[.int .i64 (accL (rsF bn) ⟨999, 0⟩ (swA bs ps kf wrg) k).lo, .int .i64 (accL (rsF bn) ⟨999, 0⟩ (swA bs ps kf wrg) k).hi])
        (fun c W => False) ?hI ?hIx ?hmem ?h0 ?hround ?hdone ?hstop
      case hI =>
        rintro b k W W' hb ⟨a1, a2⟩ ht
        exact ⟨a1.tameB ht (by omega) (by omega) (by omega) (by omega), ht.blk a2 (by omega)⟩
      case hIx => exact fun c W W' h => h.elim
      case hmem => exact fun b k W hb h => h.1.mem (HBI.out.later BX) (HPI.out.later BX)
      case h0 => exact fun b W hb h => ⟨R3.out.later h, by rw [accL_0]; exact K8.out.below h K8.out.lt⟩
      case hround =>
        rintro l b k x W hl hb hx ⟨a1, a2⟩ hat
        have HS := Lib.hid (accL_succ (f := rsF bn) (z := ⟨999, 0⟩) hx)
        obtain ⟨m, hm⟩ : ∃ m, accL (rsF bn) ⟨999, 0⟩ (swA bs ps kf wrg) k = m := ⟨_, rfl⟩
        rw [hm] at a2 HS
        have A1 := Lib.hid a1
        have A2 := Lib.hid a2
        have AT := Lib.hid hat
        clear a1 a2 hat hx hm
        gi_wp2
        refine ⟨KeepsFrom.refl _ _, KeepC.refl _ _, fun W2 ht => ?_⟩
        have B1 := Lib.hid (A1.out.tame ht (by omega))
        have B2 := Lib.hid (A2.out.tame ht)
        obtain ⟨A1', c1', A2', c2', A3', c3', hbk, -, -, -, ⟨hI2, -⟩, -⟩ := (AT.out.tame ht).ex
        obtain ⟨g, o, rfl, hg, x1⟩ := hI2.get hbnb
        obtain ⟨v, hv⟩ : ∃ v, iAt x.rests bn = v := ⟨_, rfl⟩
        rw [hv] at x1
        have HV : Hid (rsF bn m x = ⟨mn2 m.lo v, mx2 m.hi v⟩) := by show _ = _; rw [← hv]; rfl
        have c2 := B2.out.cell
        have f2 := B2.out.frozen
        have cb1 := hbk.cell
        have hlb := hbk.lt
        have pb := (B1.out.bw.cell (p := ⟨w.heap.size + 1, 0, none⟩) lX1).trans P1
        have z2 := B1.out.bw.size
        have zt := ht.size
        have hbB : decide ((bn : Int) < nb) = true := by simp; omega
        clear ht hbk hI2 hv
        have lt8 := B2.out.lt
        have lt1 : w.heap.size + 1 < W2.heap.size := by omega
        gi_wp2
        by_cases e1 : v < m.lo
        · have HA : Hid (mn2 m.lo v = v) := by show _ = _; unfold mn2; rw [if_pos e1]
          by_cases e2 : m.hi < v
          · have HB : Hid (mx2 m.hi v = v) := by show _ = _; unfold mx2; rw [if_pos e2]
            have hcq := fun p : Regrown => (bcell (below_regrown W2 p.d p.os)).1
            refine wpIn_region_quiet_then (.inr ⟨_, rfl⟩) (by kernel_rfl) (by simp only [List.dropLast]; rfl) (by rfl) (by kernel_rfl) (by kernel_rfl) ?_
            repeat (go_big_quiet_step ((fail)))
            refine wpQuiet_nil ?_
            intro wq hq
            obtain ⟨pq, hq⟩ := hq
            have hbq : Below W2.heap.size W2 wq := by rw [hq]; exact below_regrown _ _ _
            clear hq hcq pq
            obtain ⟨hcq, hfq⟩ := bcell hbq
            have zq := hbq.size
            have C1 := Lib.hid (B1.out.later hbq)
            have C2 := Lib.hid (B2.out.below hbq lt8)
            have c2' := C2.out.cell
            have f2' := C2.out.frozen
            clear c2 f2 cb1 hcq hfq
            gi_wp2
            exact ⟨by (repeat first | with_reducible assumption | with_reducible exact KeepsFrom.refl _ _ | with_reducible refine keeps_setCell ?_ _ _ | with_reducible refine keeps_alloc ?_ _ | with_reducible refine keeps_drew ?_ | with_reducible refine keeps_drewN ?_ _ | with_reducible refine keeps_step (by assumption) (Nat.le_refl _) ?_), (KeepC.of_below hbq).trans ((KeepC.set (by show w6.heap.size < _; omega) _).trans (.set (by show w6.heap.size < _; omega) _)), (C1.out.set (by show X.heap.size ≤ w6.heap.size; omega) (by show b1 ≠ w6.heap.size; omega) (by show b2 ≠ w6.heap.size; omega) _).set (by show X.heap.size ≤ w6.heap.size; omega) (by show b1 ≠ w6.heap.size; omega) (by show b2 ≠ w6.heap.size; omega) _, by rw [HS.out, HV.out, HA.out, HB.out]; simpa using (C2.out.set_ 0 (.int .i64 (v))).set_ 1 (.int .i64 (v))⟩
          · have HB : Hid (mx2 m.hi v = m.hi) := by show _ = _; unfold mx2; rw [if_neg e2]
            have hcq := fun p : Regrown => (bcell (below_regrown W2 p.d p.os)).1
            refine wpIn_region_quiet_then (.inr ⟨_, rfl⟩) (by kernel_rfl) (by simp only [List.dropLast]; rfl) (by rfl) (by kernel_rfl) (by kernel_rfl) ?_
            repeat (go_big_quiet_step ((fail)))
            refine wpQuiet_nil ?_
            intro wq hq
            obtain ⟨pq, hq⟩ := hq
            have hbq : Below W2.heap.size W2 wq := by rw [hq]; exact below_regrown _ _ _
            clear hq hcq pq
            obtain ⟨hcq, hfq⟩ := bcell hbq
            have zq := hbq.size
            have C1 := Lib.hid (B1.out.later hbq)
            have C2 := Lib.hid (B2.out.below hbq lt8)
            have c2' := C2.out.cell
            have f2' := C2.out.frozen
            clear c2 f2 cb1 hcq hfq
            gi_wp2
            exact ⟨by (repeat first | with_reducible assumption | with_reducible exact KeepsFrom.refl _ _ | with_reducible refine keeps_setCell ?_ _ _ | with_reducible refine keeps_alloc ?_ _ | with_reducible refine keeps_drew ?_ | with_reducible refine keeps_drewN ?_ _ | with_reducible refine keeps_step (by assumption) (Nat.le_refl _) ?_), (KeepC.of_below hbq).trans ((KeepC.set (by show w6.heap.size < _; omega) _).trans (.set (by show w6.heap.size < _; omega) _)), (C1.out.set (by show X.heap.size ≤ w6.heap.size; omega) (by show b1 ≠ w6.heap.size; omega) (by show b2 ≠ w6.heap.size; omega) _).set (by show X.heap.size ≤ w6.heap.size; omega) (by show b1 ≠ w6.heap.size; omega) (by show b2 ≠ w6.heap.size; omega) _, by rw [HS.out, HV.out, HA.out, HB.out]; simpa using (C2.out.set_ 0 (.int .i64 (v))).set_ 1 (.int .i64 (m.hi))⟩
        · have HA : Hid (mn2 m.lo v = m.lo) := by show _ = _; unfold mn2; rw [if_neg e1]
          by_cases e2 : m.hi < v
          · have HB : Hid (mx2 m.hi v = v) := by show _ = _; unfold mx2; rw [if_pos e2]
            have hcq := fun p : Regrown => (bcell (below_regrown W2 p.d p.os)).1
            refine wpIn_region_quiet_then (.inr ⟨_, rfl⟩) (by kernel_rfl) (by simp only [List.dropLast]; rfl) (by rfl) (by kernel_rfl) (by kernel_rfl) ?_
            repeat (go_big_quiet_step ((fail)))
            refine wpQuiet_nil ?_
            intro wq hq
            obtain ⟨pq, hq⟩ := hq
            have hbq : Below W2.heap.size W2 wq := by rw [hq]; exact below_regrown _ _ _
            clear hq hcq pq
            obtain ⟨hcq, hfq⟩ := bcell hbq
            have zq := hbq.size
            have C1 := Lib.hid (B1.out.later hbq)
            have C2 := Lib.hid (B2.out.below hbq lt8)
            have c2' := C2.out.cell
            have f2' := C2.out.frozen
            clear c2 f2 cb1 hcq hfq
            gi_wp2
            exact ⟨by (repeat first | with_reducible assumption | with_reducible exact KeepsFrom.refl _ _ | with_reducible refine keeps_setCell ?_ _ _ | with_reducible refine keeps_alloc ?_ _ | with_reducible refine keeps_drew ?_ | with_reducible refine keeps_drewN ?_ _ | with_reducible refine keeps_step (by assumption) (Nat.le_refl _) ?_), (KeepC.of_below hbq).trans ((KeepC.set (by show w6.heap.size < _; omega) _).trans (.set (by show w6.heap.size < _; omega) _)), (C1.out.set (by show X.heap.size ≤ w6.heap.size; omega) (by show b1 ≠ w6.heap.size; omega) (by show b2 ≠ w6.heap.size; omega) _).set (by show X.heap.size ≤ w6.heap.size; omega) (by show b1 ≠ w6.heap.size; omega) (by show b2 ≠ w6.heap.size; omega) _, by rw [HS.out, HV.out, HA.out, HB.out]; simpa using (C2.out.set_ 0 (.int .i64 (m.lo))).set_ 1 (.int .i64 (v))⟩
          · have HB : Hid (mx2 m.hi v = m.hi) := by show _ = _; unfold mx2; rw [if_neg e2]
            have hcq := fun p : Regrown => (bcell (below_regrown W2 p.d p.os)).1
            refine wpIn_region_quiet_then (.inr ⟨_, rfl⟩) (by kernel_rfl) (by simp only [List.dropLast]; rfl) (by rfl) (by kernel_rfl) (by kernel_rfl) ?_
            repeat (go_big_quiet_step ((fail)))
            refine wpQuiet_nil ?_
            intro wq hq
            obtain ⟨pq, hq⟩ := hq
            have hbq : Below W2.heap.size W2 wq := by rw [hq]; exact below_regrown _ _ _
            clear hq hcq pq
            obtain ⟨hcq, hfq⟩ := bcell hbq
            have zq := hbq.size
            have C1 := Lib.hid (B1.out.later hbq)
            have C2 := Lib.hid (B2.out.below hbq lt8)
            have c2' := C2.out.cell
            have f2' := C2.out.frozen
            clear c2 f2 cb1 hcq hfq
            gi_wp2
            exact ⟨by (repeat first | with_reducible assumption | with_reducible exact KeepsFrom.refl _ _ | with_reducible refine keeps_setCell ?_ _ _ | with_reducible refine keeps_alloc ?_ _ | with_reducible refine keeps_drew ?_ | with_reducible refine keeps_drewN ?_ _ | with_reducible refine keeps_step (by assumption) (Nat.le_refl _) ?_), (KeepC.of_below hbq).trans ((KeepC.set (by show w6.heap.size < _; omega) _).trans (.set (by show w6.heap.size < _; omega) _)), (C1.out.set (by show X.heap.size ≤ w6.heap.size; omega) (by show b1 ≠ w6.heap.size; omega) (by show b2 ≠ w6.heap.size; omega) _).set (by show X.heap.size ≤ w6.heap.size; omega) (by show b1 ≠ w6.heap.size; omega) (by show b2 ≠ w6.heap.size; omega) _, by rw [HS.out, HV.out, HA.out, HB.out]; simpa using (C2.out.set_ 0 (.int .i64 (m.lo))).set_ 1 (.int .i64 (m.hi))⟩
      case hdone =>
        rintro D b W hD hb ⟨a1, a2⟩ hK
        rw [accL_all, HMx.out] at a2
        have c2 := a2.cell
        have e2 := fun j => (a1.bw.cell (p := ⟨w.heap.size + 1 + 1, j, none⟩) (by show w.heap.size + 1 + 1 < _; omega)).trans (K2.out.cell j)
        have f2 := fun j => (a1.bw.frozen (p := ⟨w.heap.size + 1 + 1, j, none⟩) (by show w.heap.size + 1 + 1 < _; omega)).trans (K2.out.frozen j)
        have zz := a1.bw.size
        have hbw := BX.trans (a1.bw.mono (by omega))
        clear a1 a2
        gi_wp2
        obtain ⟨d1, d2⟩ := two_cells (w := W) (u := .int .i64 M.lo) (v := .int .i64 M.hi) (by simp) (e2 0) (e2 1)
        refine leave_mark (v := .tuple #[.agg #[.int .i64 M.lo, .int .i64 M.hi], .int .i64 0]) (keeps_mark (B := W3.heap.size) (W := W) (by (repeat first | with_reducible assumption | with_reducible exact KeepsFrom.refl _ _ | with_reducible refine keeps_setCell ?_ _ _ | with_reducible refine keeps_alloc ?_ _ | with_reducible refine keeps_drew ?_ | with_reducible refine keeps_drewN ?_ _ | with_reducible refine keeps_step (by assumption) (Nat.le_refl _) ?_)) hD hK) (fun W' ht => ?_) (fun W' ht => ⟨rfl, ht.below (by omega) (by simp; omega) (by (repeat first | with_reducible assumption | with_reducible exact Below.refl _ _ | (with_reducible refine Below.alloc ?_ ?side _; case side => (first | omega | (with_reducible exact Below.size (by assumption)) | (simp; done) | (simp; omega))) | (with_reducible refine Below.setCell ?_ ?side _; case side => (first | omega | (with_reducible exact Below.size (by assumption)) | (simp; done) | (simp; omega))) | with_reducible refine Below.drew ?_ | with_reducible refine below_drewN ?_ _ | (with_reducible refine below_step (by assumption) ?side ?_; case side => (first | omega | (with_reducible exact Below.size (by assumption)) | (simp; done) | (simp; omega)))))⟩)
        have d1' := ht.cell d1
        have d2' := ht.cell d2
        simp [results, Try.results31, go_sem, d1', d2']
      case hstop => exact fun D c W hD h => h.elim
  · have hz0B : (z != 0) = true := by simpa using hz0
    have hz0E : (z == 0) = false := by simpa using hz0
    rw [hz0E]
    have hte := Lib.hid (fun W hb => (htr.out W hb).mono fun e w' h => h.err hz0)
    have HZ := Lib.hid hz0
    clear hR hz hz0 HOK htr hBl hz0E his
    refine (callsIn_wide (n := 6)).1 (callsIn_of_wp_marks Try.func31 rfl trivial ?_ rfl)
    simp only [Try.ntmps31, List.size_toArray, List.length_cons, List.length_nil, Nat.reduceAdd, Nat.reduceSub, Array.replicate_succ, Array.replicate_zero, List.push_toArray, List.append_toArray, List.nil_append, List.cons_append]
    gi_wp2_with fail
    refine wpIn_wide.2 ?_
    go_name_world X hX
    have BX : Below w.heap.size w X := (al3 hX).1
    have zX : X.heap.size = w.heap.size + 3 := (al3 hX).2
    have P0 := (al3_0 hX).2.1
    have P1 := (al3_1 hX).2.1 0
    have P2 := (al3_2 hX).2.1
    have G2 := (al3_2 hX).2.2
    have lX : w.heap.size < X.heap.size := by omega
    have lX1 : w.heap.size + 1 < X.heap.size := by omega
    have lX2 : w.heap.size + 1 + 1 < X.heap.size := by omega
    clear hX
    have hcq := fun p : Regrown => (bcell (below_regrown X p.d p.os)).1
    refine wp_region_quiet_below (by kernel_rfl) (by kernel_rfl) ?_
    repeat (go_big_quiet_step (((first | (go_at_call 71; exact Calls.regrown_of (hpb.out _)) | (go_at_call 56; exact Calls.regrown_of (hte.out _ (BX.trans ((below_regrown _ _ _).mono BX.size))))))))
    refine wpQuiet_nil ?_
    intro wq hq
    obtain ⟨pq, hq⟩ := hq
    have hbq : Below X.heap.size X wq := by rw [hq]; exact below_regrown _ _ _
    clear hq hcq pq
    obtain ⟨hcq, hfq⟩ := bcell hbq
    have zq := hbq.size
    have c2 := fun j => (hbq.cell (p := ⟨w.heap.size + 1 + 1, j, none⟩) lX2).trans (P2 j)
    have g2 := fun j => (hbq.frozen (p := ⟨w.heap.size + 1 + 1, j, none⟩) lX2).trans (G2 j)
    gi_wp2
    obtain ⟨d1, d2⟩ := two_cells (w := wq) (u := .int .i64 0) (v := .int .i64 0) (by simp) (c2 0) (c2 1)
    have zz := hbq.size
    have hbw : Below w.heap.size w wq := BX.trans (hbq.mono BX.size)
    have zw := hbw.size
    refine leave_marks (B := w.heap.size) (v := .tuple #[.agg #[.int .i64 0, .int .i64 0], .int .i64 z]) [] _ (.nil _) (by simp) (fun W' ht => ?_) (fun W' ht => ⟨rfl, ht.below (Nat.le_refl _) (by simp; omega) (by (repeat first | with_reducible assumption | with_reducible exact Below.refl _ _ | (with_reducible refine Below.alloc ?_ ?side _; case side => (first | omega | (with_reducible exact Below.size (by assumption)) | (simp; done) | (simp; omega))) | (with_reducible refine Below.setCell ?_ ?side _; case side => (first | omega | (with_reducible exact Below.size (by assumption)) | (simp; done) | (simp; omega))) | with_reducible refine Below.drew ?_ | with_reducible refine below_drewN ?_ _ | (with_reducible refine below_step (by assumption) ?side ?_; case side => (first | omega | (with_reducible exact Below.size (by assumption)) | (simp; done) | (simp; omega)))))⟩)
    have d1' := ht.cell d1
    have d2' := ht.cell d2
    simp [results, Try.results31, go_sem, d1', d2']

end Go.Proofs.Ytmopnbijfcamjaa
