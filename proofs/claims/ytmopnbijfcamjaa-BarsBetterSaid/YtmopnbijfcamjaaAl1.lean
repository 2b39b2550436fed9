/- Alike and Room of bars (layer 1). -/
import Derived.Test.YtmopnbijfcamjaaKn1
namespace Go.Proofs.Ytmopnbijfcamjaa
open Go.RowKit
open Go.Sort (grow)
set_option linter.unusedVariables false

set_option maxRecDepth 100000 in
set_option maxHeartbeats 1600000 in
theorem alike1_c (b ba bb nb a c : Nat) (x : Sw) (W : World) (H : SawM 0 b nb x W) (ha : a < x.of.length) (hc : c < x.of.length) (ka : W.cell? ⟨ba, 0, none⟩ = some (.int .i64 a)) (kb : W.cell? ⟨bb, 0, none⟩ = some (.int .i64 c)) :
    Calls Try.prog 69 #[.pointer (some ⟨b, 0, none⟩), .pointer (some ⟨ba, 0, none⟩), .pointer (some ⟨bb, 0, none⟩)] W fun e W' => e = .returned (.bool (iAt x.of a == iAt x.of c)) ∧ Below W.heap.size W W' := by
  obtain ⟨A1, c1, A2, c2, A3, c3, h0, h1, h1', ⟨h2, h3⟩, -⟩ := H.ex
  obtain ⟨n, hn⟩ : ∃ n, x.of.length = n := ⟨_, rfl⟩
  rw [hn] at ha hc h0 h2
  have hB := h0.cell
  obtain ⟨g, o, rfl, hg, x1⟩ := h2.get ha
  obtain ⟨g', o', e, hg', x2⟩ := h2.get hc
  cases e
  have haB : decide ((a : Int) < n) = true := by simp; omega
  have hcB : decide ((c : Int) < n) = true := by simp; omega
  clear H h0 h1 h1' h2 h3 hn
  go_enter Try.func69, Try.ntmps69
  go_wp2
  go_quiet (fail)
  go_wp2
  go_ret
  exact ⟨rfl, by (repeat first | with_reducible assumption | with_reducible exact Below.refl _ _ | (with_reducible refine Below.alloc ?_ ?side _; case side => (first | omega | (with_reducible exact Below.size (by assumption)) | (simp; done) | (simp; omega))) | (with_reducible refine Below.setCell ?_ ?side _; case side => (first | omega | (with_reducible exact Below.size (by assumption)) | (simp; done) | (simp; omega))) | with_reducible refine Below.drew ?_ | with_reducible refine below_drewN ?_ _ | (with_reducible refine below_step (by assumption) ?side ?_; case side => (first | omega | (with_reducible exact Below.size (by assumption)) | (simp; done) | (simp; omega))))⟩
set_option maxRecDepth 100000 in
set_option maxHeartbeats 1600000 in
theorem room1_c (b bs0 bl nb : Nat) (Ab Ap : Option Addr) (cb np cp : Nat) (kf wrg lg : Int) (x : Sw) (W : World) (H : SawM 0 b nb x W) (hk : 0 ≤ kf ∧ kf ≤ 20) (hl : 0 ≤ lg ∧ lg ≤ 1000) (hn : nb ≤ 40)
    (ks : ∀ i, W.cell? ⟨bs0, i, none⟩ = #[Value.slice Ab nb cb, .int .i64 kf, .slice Ap np cp, .int .i64 wrg][i]?) (kl : W.cell? ⟨bl, 0, none⟩ = some (.int .i64 lg)) :
    Calls Try.prog 60 #[.pointer (some ⟨b, 0, none⟩), .pointer (some ⟨bs0, 0, none⟩), .pointer (some ⟨bl, 0, none⟩)] W fun e W' => e = .returned (.bool (anyN nb fun k => fitS kf x k lg)) ∧ Below W.heap.size W W' := by
  have HI := Lib.hid H
  clear H
  go_enter Try.func60, Try.ntmps60
  go_wp2
  go_loopw [9] (fun i (wr : World) => ∃ k : Nat, k ≤ nb ∧ i = .int .i64 k ∧ Hid (∀ j, j < k → fitS kf x j lg = false) ∧ wr = W) (fun i _ => nb - (intOf i).toNat)
  case atStart => exact ⟨0, by omega, rfl, fun j hj => absurd hj (by omega), rfl⟩
  case round =>
    obtain ⟨k, hk', rfl, H1, rfl⟩ := hrel
    by_cases hlt : k < nb
    · have hB : decide ((k : Int) < nb) = true := by simp; omega
      have hf := fits_c b nb k kf lg x wr hlt HI.out hk hl
      cases e1 : fitS kf x k lg
      · rw [e1] at hf
        replace hf := Lib.hid hf
        have E1 := Lib.hid e1
        clear e1
        go_wp2_with (go_at_call 61; refine hf.out.mono ?_; rintro e w' ⟨rfl, rfl⟩)
        go_roundw
        case rel => exact ⟨k + 1, by omega, by go_num, fun j hj => by
          rcases Nat.lt_succ_iff_lt_or_eq.1 hj with h | rfl
          · exact H1.out j h
          · exact E1.out, trivial⟩
        case measure => simp [intOf]; omega
      · rw [e1] at hf
        replace hf := Lib.hid hf
        have hA := Lib.hid (anyN_yes (p := fun k => fitS kf x k lg) hlt e1)
        clear e1
        go_wp2_with (go_at_call 61; refine hf.out.mono ?_; rintro e w' ⟨rfl, rfl⟩)
        go_ret
        exact ⟨by rw [hA.out]; rfl, by (repeat first | with_reducible assumption | with_reducible exact Below.refl _ _ | (with_reducible refine Below.alloc ?_ ?side _; case side => (first | omega | (with_reducible exact Below.size (by assumption)) | (simp; done) | (simp; omega))) | (with_reducible refine Below.setCell ?_ ?side _; case side => (first | omega | (with_reducible exact Below.size (by assumption)) | (simp; done) | (simp; omega))) | with_reducible refine Below.drew ?_ | with_reducible refine below_drewN ?_ _ | (with_reducible refine below_step (by assumption) ?side ?_; case side => (first | omega | (with_reducible exact Below.size (by assumption)) | (simp; done) | (simp; omega))))⟩
    · obtain rfl : nb = k := by omega
      have hA := Lib.hid (anyN_no (p := fun k => fitS kf x k lg) H1.out)
      have hB : decide (((nb : Nat) : Int) < nb) = false := by simp
      clear H1
      go_wp2
      go_ret
      exact ⟨by rw [hA.out]; rfl, by (repeat first | with_reducible assumption | with_reducible exact Below.refl _ _ | (with_reducible refine Below.alloc ?_ ?side _; case side => (first | omega | (with_reducible exact Below.size (by assumption)) | (simp; done) | (simp; omega))) | (with_reducible refine Below.setCell ?_ ?side _; case side => (first | omega | (with_reducible exact Below.size (by assumption)) | (simp; done) | (simp; omega))) | with_reducible refine Below.drew ?_ | with_reducible refine below_drewN ?_ _ | (with_reducible refine below_step (by assumption) ?side ?_; case side => (first | omega | (with_reducible exact Below.size (by assumption)) | (simp; done) | (simp; omega))))⟩
def roomP (bs : List Br) (ps : List Pc) (kf wr lg : Int) : Int × Int :=
  bif askE bs ps kf wr (wi lg 1 999) == 0 then (knP (fun x => anyN bs.length fun k => fitS kf x k lg) (swA bs ps kf wr), 0) else (0, askE bs ps kf wr (wi lg 1 999))
theorem within_b (n a b : Int) (w : World) :
    Calls Try.prog 58 #[.int .i64 n, .int .i64 a, .int .i64 b] w fun e w' => e = .returned (.bool (wi n a b)) ∧ Below w.heap.size w w' := (within_c n a b w).mono fun e w' h => ⟨h.1, h.2 ▸ Below.refl _ _⟩
set_option maxRecDepth 100000 in
set_option maxHeartbeats 3200000 in
theorem room_c (Ab Ap : Option Addr) (nb cb np cp : Nat) (kf wrg lg : Int) (bs : List Br) (ms : List Pm) (ps : List Pc) (w : World) (h1 : nb ≤ 40) (h2 : np ≤ 40) (h3 : ∀ k, k < np → (pcAt ps k).hs.length ≤ 40) (HB : BrsAt w Ab nb bs) (HP : PcsAt w Ap np ms ps) :
    Calls Try.prog 21 #[.agg #[.slice Ab nb cb, .int .i64 kf, .slice Ap np cp, .int .i64 wrg], .int .i64 lg] w fun e w' => e = .returned (.tuple #[.int .i64 (roomP bs ps kf wrg lg).1, .int .i64 (roomP bs ps kf wrg lg).2]) ∧ Below w.heap.size w w' := by
  have HBI := Lib.hid HB
  have HPI := Lib.hid HP
  have hBl := HB.1
  have hPl := HP.pl
  have HOK := Lib.hid (fun h => okSt_of (kf := kf) (wr := wrg) hBl hPl h3 h)
  obtain ⟨is, his⟩ : ∃ is, wi lg 1 999 = is := ⟨_, rfl⟩
  have htr := fun W (hb : Below w.heap.size w W) => truths_c Ab Ap nb cb np cp kf wrg is bs ms ps W h1 h2 h3 (HB.later hb) (HP.later hb)
  obtain ⟨z, hz⟩ : ∃ z, askE bs ps kf wrg is = z := ⟨_, rfl⟩
  rw [hz] at htr
  have HIS := Lib.hid his
  replace htr := Lib.hid htr
  clear HB HP hPl h3
  by_cases hz0 : z = 0
  · have hR : roomP bs ps kf wrg lg = (knP (fun x => anyN nb fun k => fitS kf x k lg) (swA bs ps kf wrg), 0) := by unfold roomP; rw [his, hz, hz0, hBl]; rfl
    subst hz0
    obtain ⟨hck, his1, -⟩ := askE_0 hz
    subst his1
    obtain ⟨ok, hw0, hw8⟩ := HOK.out hck
    have hlb := wi_true.1 his
    have OK := Lib.hid ok
    have hkf := ok.kf
    rw [hR]
    have en60 : ∀ args w, (callFunc 60 args).run Try.prog w = .ok (.enter 60 args) w := enters_of Try.func60 (by kernel_rfl) rfl
    clear hR hz hck ok HOK hBl
    go_enter Try.func21, Try.ntmps21
    go_upto_region 1 with (fail)
    go_name_world X hX
    have BX : Below w.heap.size w X := (al2 hX).1
    have zX : X.heap.size = w.heap.size + 2 := (al2 hX).2
    have P0 := (al2_0 hX).2.1
    have P1 := (al2_1 hX).2.1 0
    have lX : w.heap.size < X.heap.size := by omega
    have lX1 : w.heap.size + 1 < X.heap.size := by omega
    clear hX
    go_region_held3 (fun w' => (∀ j, w'.cell? ⟨w.heap.size, j, none⟩ = #[Value.slice Ab nb cb, .int .i64 kf, .slice Ap np cp, .int .i64 wrg][j]?) ∧ w'.cell? ⟨w.heap.size + 1, 0, none⟩ = some (.int .i64 lg))
      (first | exact ⟨P0, P1⟩ | exact ⟨fun j => (kb2.cell (p := ⟨w.heap.size, j, none⟩) lX).trans (P0 j), (kb2.cell (p := ⟨w.heap.size + 1, 0, none⟩) lX1).trans P1⟩ | exact ⟨fun j => (kb.cell (p := ⟨w.heap.size, j, none⟩) lX).trans (P0 j), (kb.cell (p := ⟨w.heap.size + 1, 0, none⟩) lX1).trans P1⟩ | go_keep)
      ((first | (go_at_call 58; refine (within_b _ _ _ _).mono ?_; (rintro e w5 ⟨rfl, hb5⟩); have kb : Below X.heap.size X w5 := Below.trans (by (repeat first | with_reducible assumption | with_reducible exact Below.refl _ _ | (with_reducible refine Below.alloc ?_ ?side _; case side => (first | omega | (with_reducible exact Below.size (by assumption)) | (simp; done) | (simp; omega))) | (with_reducible refine Below.setCell ?_ ?side _; case side => (first | omega | (with_reducible exact Below.size (by assumption)) | (simp; done) | (simp; omega))) | with_reducible refine Below.drew ?_ | with_reducible refine below_drewN ?_ _ | (with_reducible refine below_step (by assumption) ?side ?_; case side => (first | omega | (with_reducible exact Below.size (by assumption)) | (simp; done) | (simp; omega))))) (hb5.mono (by simp))) | (go_at_call 56; refine (htr.out _ (by (repeat first | with_reducible assumption | with_reducible exact Below.refl _ _ | (with_reducible refine Below.alloc ?_ ?side _; case side => (first | omega | (with_reducible exact Below.size (by assumption)) | (simp; done) | (simp; omega))) | (with_reducible refine Below.setCell ?_ ?side _; case side => (first | omega | (with_reducible exact Below.size (by assumption)) | (simp; done) | (simp; omega))) | with_reducible refine Below.drew ?_ | with_reducible refine below_drewN ?_ _ | (with_reducible refine below_step (by assumption) ?side ?_; case side => (first | omega | (with_reducible exact Below.size (by assumption)) | (simp; done) | (simp; omega)))))).mono ?_; (rintro e w6 ⟨f, rfl, hb6, hf6, -⟩); have kb2 : Below X.heap.size X w6 := Below.trans kb (hb6.mono kb.size))))
    obtain ⟨b1, b2, rfl, p1, p2, hne, hM⟩ := hf6 trivial
    have HM := Lib.hid hM
    have z6 := kb2.size
    have hkn := known_c b1 b2 60 #[.pointer (some ⟨w.heap.size, 0, none⟩), .pointer (some ⟨w.heap.size + 1, 0, none⟩)] (fun x => anyN nb fun k => fitS kf x k lg) Ab Ap nb cb np cp kf wrg bs ms ps w6 OK.out ⟨hw0, hw8⟩ hM en60
      (fun b x W hS hx hb => room1_c b w.heap.size (w.heap.size + 1) nb Ab Ap cb np cp kf wrg lg x W hS hkf ⟨by omega, by omega⟩ h1 (fun j => (hb.cell (p := ⟨w.heap.size, j, none⟩) (by show w.heap.size < _; omega)).trans ((kb2.cell (p := ⟨w.heap.size, j, none⟩) lX).trans (P0 j))) ((hb.cell (p := ⟨w.heap.size + 1, 0, none⟩) (by show w.heap.size + 1 < _; omega)).trans ((kb2.cell (p := ⟨w.heap.size + 1, 0, none⟩) lX1).trans P1)))
    replace hkn := Lib.hid hkn
    clear hf6 hM en60
    go_wp2_with (go_at_call 59; refine hkn.out.mono ?_; rintro e w7 ⟨rfl, hb7⟩)
    exact bodyPost_ret (v := .tuple #[.int .i64 (knP (fun x => anyN nb fun k => fitS kf x k lg) (swA bs ps kf wrg)), .int .i64 0]) (by simp [results, Try.results21, go_sem]) rfl ⟨rfl, by (repeat first | with_reducible assumption | with_reducible exact Below.refl _ _ | (with_reducible refine Below.alloc ?_ ?side _; case side => (first | omega | (with_reducible exact Below.size (by assumption)) | (simp; done) | (simp; omega))) | (with_reducible refine Below.setCell ?_ ?side _; case side => (first | omega | (with_reducible exact Below.size (by assumption)) | (simp; done) | (simp; omega))) | with_reducible refine Below.drew ?_ | with_reducible refine below_drewN ?_ _ | (with_reducible refine below_step (by assumption) ?side ?_; case side => (first | omega | (with_reducible exact Below.size (by assumption)) | (simp; done) | (simp; omega))))⟩
  · have hR : roomP bs ps kf wrg lg = (0, z) := by unfold roomP; rw [his, hz]; cases e : (z == 0) <;> simp_all
    rw [hR]
    have hz0B : (z != 0) = true := by simpa using hz0
    have hte := Lib.hid (fun W hb => (htr.out W hb).mono fun e w' h => h.err hz0)
    have HZ := Lib.hid hz0
    clear hR hz hz0 HOK htr hBl
    go_enter Try.func21, Try.ntmps21
    go_upto_region 1 with (fail)
    go_name_world X hX
    have BX : Below w.heap.size w X := (al2 hX).1
    have zX : X.heap.size = w.heap.size + 2 := (al2 hX).2
    have P0 := (al2_0 hX).2.1
    have P1 := (al2_1 hX).2.1 0
    have lX : w.heap.size < X.heap.size := by omega
    have lX1 : w.heap.size + 1 < X.heap.size := by omega
    clear hX
    have hcq := fun p : Regrown => (bcell (below_regrown X p.d p.os)).1
    refine wp_region_quiet_below (by kernel_rfl) (by kernel_rfl) ?_
    repeat (go_big_quiet_step (((first | (go_at_call 58; exact Calls.regrown_of (within_b _ _ _ _)) | (go_at_call 56; exact Calls.regrown_of (hte.out _ (BX.trans ((below_regrown _ _ _).mono BX.size))))))))
    refine wpQuiet_nil ?_
    intro wq hq
    obtain ⟨pq, hq⟩ := hq
    have hbq : Below X.heap.size X wq := by rw [hq]; exact below_regrown _ _ _
    clear hq hcq pq
    obtain ⟨hcq, hfq⟩ := bcell hbq
    have zq := hbq.size
    go_wp2
    exact bodyPost_ret (v := .tuple #[.int .i64 0, .int .i64 z]) (by simp [results, Try.results21, go_sem]) rfl ⟨rfl, by (repeat first | with_reducible assumption | with_reducible exact Below.refl _ _ | (with_reducible refine Below.alloc ?_ ?side _; case side => (first | omega | (with_reducible exact Below.size (by assumption)) | (simp; done) | (simp; omega))) | (with_reducible refine Below.setCell ?_ ?side _; case side => (first | omega | (with_reducible exact Below.size (by assumption)) | (simp; done) | (simp; omega))) | with_reducible refine Below.drew ?_ | with_reducible refine below_drewN ?_ _ | (with_reducible refine below_step (by assumption) ?side ?_; case side => (first | omega | (with_reducible exact Below.size (by assumption)) | (simp; done) | (simp; omega))))⟩

def alikeP (bs : List Br) (ps : List Pc) (kf wr a c : Int) : Int × Int :=
  bif askE bs ps kf wr (wi a 0 ((ps.length : Int) - 1) && wi c 0 ((ps.length : Int) - 1)) == 0 then (knP (fun x => iAt x.of a.toNat == iAt x.of c.toNat) (swA bs ps kf wr), 0) else (0, askE bs ps kf wr (wi a 0 ((ps.length : Int) - 1) && wi c 0 ((ps.length : Int) - 1)))
set_option maxRecDepth 100000 in
set_option maxHeartbeats 3200000 in
theorem alike_c (Ab Ap : Option Addr) (nb cb np cp : Nat) (kf wrg a c : Int) (bs : List Br) (ms : List Pm) (ps : List Pc) (w : World) (h1 : nb ≤ 40) (h2 : np ≤ 40) (h3 : ∀ k, k < np → (pcAt ps k).hs.length ≤ 40) (HB : BrsAt w Ab nb bs) (HP : PcsAt w Ap np ms ps) :
    Calls Try.prog 29 #[.agg #[.slice Ab nb cb, .int .i64 kf, .slice Ap np cp, .int .i64 wrg], .int .i64 a, .int .i64 c] w fun e w' => e = .returned (.tuple #[.int .i64 (alikeP bs ps kf wrg a c).1, .int .i64 (alikeP bs ps kf wrg a c).2]) ∧ Below w.heap.size w w' := by
  have HBI := Lib.hid HB
  have HPI := Lib.hid HP
  have hBl := HB.1
  have hPl := HP.pl
  have HOK := Lib.hid (fun h => okSt_of (kf := kf) (wr := wrg) hBl hPl h3 h)
  have htr := fun is W (hb : Below w.heap.size w W) => truths_c Ab Ap nb cb np cp kf wrg is bs ms ps W h1 h2 h3 (HB.later hb) (HP.later hb)
  have hR : alikeP bs ps kf wrg a c = bif askE bs ps kf wrg (wi a 0 ((np : Int) - 1) && wi c 0 ((np : Int) - 1)) == 0 then (knP (fun x => iAt x.of a.toNat == iAt x.of c.toNat) (swA bs ps kf wrg), 0) else (0, askE bs ps kf wrg (wi a 0 ((np : Int) - 1) && wi c 0 ((np : Int) - 1))) := by unfold alikeP; rw [hPl]
  rw [hR]
  have hpa := fun W => isPiece_c Ab Ap nb cb np cp kf wrg a W h1 h2
  have hpc := fun W => isPiece_c Ab Ap nb cb np cp kf wrg c W h1 h2
  have HPL := Lib.hid hPl
  clear HB HP hBl hPl h3 hR
  cases e1 : wi a 0 ((np : Int) - 1)
  · rw [e1] at hpa
    replace hpa := Lib.hid hpa
    replace hpc := Lib.hid hpc
    rw [Bool.false_and]
    obtain ⟨z, hz⟩ : ∃ z, askE bs ps kf wrg false = z := ⟨_, rfl⟩
    replace htr := htr false
    rw [hz] at htr ⊢
    replace htr := Lib.hid htr
    have hz0 : z ≠ 0 := fun h => by have := (askE_0 (hz.trans h)).2.1; simp at this
    have hz0B : (z != 0) = true := by simpa using hz0
    have hz0E : (z == 0) = false := by simpa using hz0
    rw [hz0E]
    clear hz HOK e1 hz0E
    have hte := Lib.hid (fun W hb => (htr.out W hb).mono fun e w' h => h.err hz0)
    clear htr
    go_enter Try.func29, Try.ntmps29
    go_upto_region 1 with (fail)
    go_name_world X hX
    have BX : Below w.heap.size w X := (al3 hX).1
    have zX : X.heap.size = w.heap.size + 3 := (al3 hX).2
    have P0 := (al3_0 hX).2.1
    have P1 := (al3_1 hX).2.1 0
    have P2 := (al3_2 hX).2.1 0
    have lX : w.heap.size < X.heap.size := by omega
    have lX1 : w.heap.size + 1 < X.heap.size := by omega
    have lX2 : w.heap.size + 1 + 1 < X.heap.size := by omega
    clear hX
    have hcq := fun p : Regrown => (bcell (below_regrown X p.d p.os)).1
    refine wp_region_quiet_below (by kernel_rfl) (by kernel_rfl) ?_
    repeat (go_big_quiet_step (((first | (go_at_call 57; first | with_reducible exact Calls.regrown_of (hpa.out _) | with_reducible exact Calls.regrown_of (hpc.out _)) | (go_at_call 56; exact Calls.regrown_of (hte.out _ (BX.trans ((below_regrown _ _ _).mono BX.size))))))))
    refine wpQuiet_nil ?_
    intro wq hq
    obtain ⟨pq, hq⟩ := hq
    have hbq : Below X.heap.size X wq := by rw [hq]; exact below_regrown _ _ _
    clear hq hcq pq
    obtain ⟨hcq, hfq⟩ := bcell hbq
    have zq := hbq.size
    go_wp2
    exact bodyPost_ret (v := .tuple #[.int .i64 0, .int .i64 z]) (by simp [results, Try.results29, go_sem]) rfl ⟨rfl, by (repeat first | with_reducible assumption | with_reducible exact Below.refl _ _ | (with_reducible refine Below.alloc ?_ ?side _; case side => (first | omega | (with_reducible exact Below.size (by assumption)) | (simp; done) | (simp; omega))) | (with_reducible refine Below.setCell ?_ ?side _; case side => (first | omega | (with_reducible exact Below.size (by assumption)) | (simp; done) | (simp; omega))) | with_reducible refine Below.drew ?_ | with_reducible refine below_drewN ?_ _ | (with_reducible refine below_step (by assumption) ?side ?_; case side => (first | omega | (with_reducible exact Below.size (by assumption)) | (simp; done) | (simp; omega))))⟩
  rw [e1] at hpa
  replace hpa := Lib.hid hpa
  have ea := wi_true.1 e1
  cases e2 : wi c 0 ((np : Int) - 1)
  · rw [e2] at hpc
    replace hpc := Lib.hid hpc
    rw [Bool.true_and]
    obtain ⟨z, hz⟩ : ∃ z, askE bs ps kf wrg false = z := ⟨_, rfl⟩
    replace htr := htr false
    rw [hz] at htr ⊢
    replace htr := Lib.hid htr
    have hz0 : z ≠ 0 := fun h => by have := (askE_0 (hz.trans h)).2.1; simp at this
    have hz0B : (z != 0) = true := by simpa using hz0
    have hz0E : (z == 0) = false := by simpa using hz0
    rw [hz0E]
    clear hz HOK e1 e2 hz0E ea
    have hte := Lib.hid (fun W hb => (htr.out W hb).mono fun e w' h => h.err hz0)
    clear htr
    go_enter Try.func29, Try.ntmps29
    go_upto_region 1 with (fail)
    go_name_world X hX
    have BX : Below w.heap.size w X := (al3 hX).1
    have zX : X.heap.size = w.heap.size + 3 := (al3 hX).2
    have P0 := (al3_0 hX).2.1
    have P1 := (al3_1 hX).2.1 0
    have P2 := (al3_2 hX).2.1 0
    have lX : w.heap.size < X.heap.size := by omega
    have lX1 : w.heap.size + 1 < X.heap.size := by omega
    have lX2 : w.heap.size + 1 + 1 < X.heap.size := by omega
    clear hX
    have hcq := fun p : Regrown => (bcell (below_regrown X p.d p.os)).1
    refine wp_region_quiet_below (by kernel_rfl) (by kernel_rfl) ?_
    repeat (go_big_quiet_step (((first | (go_at_call 57; first | with_reducible exact Calls.regrown_of (hpa.out _) | with_reducible exact Calls.regrown_of (hpc.out _)) | (go_at_call 56; exact Calls.regrown_of (hte.out _ (BX.trans ((below_regrown _ _ _).mono BX.size))))))))
    refine wpQuiet_nil ?_
    intro wq hq
    obtain ⟨pq, hq⟩ := hq
    have hbq : Below X.heap.size X wq := by rw [hq]; exact below_regrown _ _ _
    clear hq hcq pq
    obtain ⟨hcq, hfq⟩ := bcell hbq
    have zq := hbq.size
    go_wp2
    exact bodyPost_ret (v := .tuple #[.int .i64 0, .int .i64 z]) (by simp [results, Try.results29, go_sem]) rfl ⟨rfl, by (repeat first | with_reducible assumption | with_reducible exact Below.refl _ _ | (with_reducible refine Below.alloc ?_ ?side _; case side => (first | omega | (with_reducible exact Below.size (by assumption)) | (simp; done) | (simp; omega))) | (with_reducible refine Below.setCell ?_ ?side _; case side => (first | omega | (with_reducible exact Below.size (by assumption)) | (simp; done) | (simp; omega))) | with_reducible refine Below.drew ?_ | with_reducible refine below_drewN ?_ _ | (with_reducible refine below_step (by assumption) ?side ?_; case side => (first | omega | (with_reducible exact Below.size (by assumption)) | (simp; done) | (simp; omega))))⟩
  rw [e2] at hpc
  replace hpc := Lib.hid hpc
  have ec := wi_true.1 e2
  rw [Bool.true_and]
  obtain ⟨z, hz⟩ : ∃ z, askE bs ps kf wrg true = z := ⟨_, rfl⟩
  replace htr := htr true
  rw [hz] at htr ⊢
  replace htr := Lib.hid htr
  by_cases hz0 : z = 0
  · subst hz0
    obtain ⟨hck, -, -⟩ := askE_0 hz
    obtain ⟨ok, hw0, hw8⟩ := HOK.out hck
    have OK := Lib.hid ok
    have en60 : ∀ args w, (callFunc 69 args).run Try.prog w = .ok (.enter 69 args) w := enters_of Try.func69 (by kernel_rfl) rfl
    obtain ⟨an, han⟩ : ∃ n : Nat, a = (n : Int) := ⟨a.toNat, by omega⟩
    obtain ⟨cn, hcn⟩ : ∃ n : Nat, c = (n : Int) := ⟨c.toNat, by omega⟩
    subst han
    subst hcn
    have hanp : an < np := by omega
    have hcnp : cn < np := by omega
    rw [Int.toNat_natCast, Int.toNat_natCast]
    obtain ⟨K, hK⟩ : ∃ K, knP (fun x => iAt x.of an == iAt x.of cn) (swA bs ps kf wrg) = K := ⟨_, rfl⟩
    rw [hK]
    have HK := Lib.hid hK
    clear hz hck ok HOK e1 e2 ea ec hK
    go_enter Try.func29, Try.ntmps29
    go_upto_region 1 with (fail)
    go_name_world X hX
    have BX : Below w.heap.size w X := (al3 hX).1
    have zX : X.heap.size = w.heap.size + 3 := (al3 hX).2
    have P0 := (al3_0 hX).2.1
    have P1 := (al3_1 hX).2.1 0
    have P2 := (al3_2 hX).2.1 0
    have lX : w.heap.size < X.heap.size := by omega
    have lX1 : w.heap.size + 1 < X.heap.size := by omega
    have lX2 : w.heap.size + 1 + 1 < X.heap.size := by omega
    clear hX
    go_region_held3 (fun w' => (∀ j, w'.cell? ⟨w.heap.size, j, none⟩ = #[Value.slice Ab nb cb, .int .i64 kf, .slice Ap np cp, .int .i64 wrg][j]?) ∧ w'.cell? ⟨w.heap.size + 1, 0, none⟩ = some (.int .i64 an) ∧ w'.cell? ⟨w.heap.size + 1 + 1, 0, none⟩ = some (.int .i64 cn))
      (first | exact ⟨P0, P1, P2⟩ | exact ⟨fun j => (kb3.cell (p := ⟨w.heap.size, j, none⟩) lX).trans (P0 j), (kb3.cell (p := ⟨w.heap.size + 1, 0, none⟩) lX1).trans P1, (kb3.cell (p := ⟨w.heap.size + 1 + 1, 0, none⟩) lX2).trans P2⟩ | exact ⟨fun j => (kb2.cell (p := ⟨w.heap.size, j, none⟩) lX).trans (P0 j), (kb2.cell (p := ⟨w.heap.size + 1, 0, none⟩) lX1).trans P1, (kb2.cell (p := ⟨w.heap.size + 1 + 1, 0, none⟩) lX2).trans P2⟩ | exact ⟨fun j => (kb.cell (p := ⟨w.heap.size, j, none⟩) lX).trans (P0 j), (kb.cell (p := ⟨w.heap.size + 1, 0, none⟩) lX1).trans P1, (kb.cell (p := ⟨w.heap.size + 1 + 1, 0, none⟩) lX2).trans P2⟩ | go_keep)
      ((first | (go_at_call 57; with_reducible refine (hpa.out _).mono ?_; (rintro e w5 ⟨rfl, hb5⟩); have kb : Below X.heap.size X w5 := Below.trans (by (repeat first | with_reducible assumption | with_reducible exact Below.refl _ _ | (with_reducible refine Below.alloc ?_ ?side _; case side => (first | omega | (with_reducible exact Below.size (by assumption)) | (simp; done) | (simp; omega))) | (with_reducible refine Below.setCell ?_ ?side _; case side => (first | omega | (with_reducible exact Below.size (by assumption)) | (simp; done) | (simp; omega))) | with_reducible refine Below.drew ?_ | with_reducible refine below_drewN ?_ _ | (with_reducible refine below_step (by assumption) ?side ?_; case side => (first | omega | (with_reducible exact Below.size (by assumption)) | (simp; done) | (simp; omega))))) (hb5.mono (by simp))) | (go_at_call 57; with_reducible refine (hpc.out _).mono ?_; (rintro e w5' ⟨rfl, hb5'⟩); have kb2 : Below X.heap.size X w5' := Below.trans kb (hb5'.mono kb.size)) | (go_at_call 56; refine (htr.out _ (by (repeat first | with_reducible assumption | with_reducible exact Below.refl _ _ | (with_reducible refine Below.alloc ?_ ?side _; case side => (first | omega | (with_reducible exact Below.size (by assumption)) | (simp; done) | (simp; omega))) | (with_reducible refine Below.setCell ?_ ?side _; case side => (first | omega | (with_reducible exact Below.size (by assumption)) | (simp; done) | (simp; omega))) | with_reducible refine Below.drew ?_ | with_reducible refine below_drewN ?_ _ | (with_reducible refine below_step (by assumption) ?side ?_; case side => (first | omega | (with_reducible exact Below.size (by assumption)) | (simp; done) | (simp; omega)))))).mono ?_; (rintro e w6 ⟨f, rfl, hb6, hf6, -⟩); have kb3 : Below X.heap.size X w6 := Below.trans kb2 (hb6.mono kb2.size))))
    all_goals
      obtain ⟨b1, b2, rfl, p1, p2, hne, hM⟩ := hf6 trivial
      have HM := Lib.hid hM
      have z6 := kb3.size
      have hkn := known_c b1 b2 69 #[.pointer (some ⟨w.heap.size + 1, 0, none⟩), .pointer (some ⟨w.heap.size + 1 + 1, 0, none⟩)] (fun x => iAt x.of an == iAt x.of cn) Ab Ap nb cb np cp kf wrg bs ms ps w6 OK.out ⟨hw0, hw8⟩ hM en60
        (fun b x W hS hx hb => alike1_c b (w.heap.size + 1) (w.heap.size + 1 + 1) nb an cn x W hS (by rw [swA_of_len hx, HPL.out]; exact hanp) (by rw [swA_of_len hx, HPL.out]; exact hcnp) ((hb.cell (p := ⟨w.heap.size + 1, 0, none⟩) (by show w.heap.size + 1 < _; omega)).trans ((kb3.cell (p := ⟨w.heap.size + 1, 0, none⟩) lX1).trans P1)) ((hb.cell (p := ⟨w.heap.size + 1 + 1, 0, none⟩) (by show w.heap.size + 1 + 1 < _; omega)).trans ((kb3.cell (p := ⟨w.heap.size + 1 + 1, 0, none⟩) lX2).trans P2)))
      rw [HK.out] at hkn
      replace hkn := Lib.hid hkn
      clear hf6 hM en60
      go_wp2_with (go_at_call 59; refine hkn.out.mono ?_; rintro e w7 ⟨rfl, hb7⟩)
      exact bodyPost_ret (v := .tuple #[.int .i64 K, .int .i64 0]) (by simp [results, Try.results29, go_sem]) rfl ⟨rfl, by (repeat first | with_reducible assumption | with_reducible exact Below.refl _ _ | (with_reducible refine Below.alloc ?_ ?side _; case side => (first | omega | (with_reducible exact Below.size (by assumption)) | (simp; done) | (simp; omega))) | (with_reducible refine Below.setCell ?_ ?side _; case side => (first | omega | (with_reducible exact Below.size (by assumption)) | (simp; done) | (simp; omega))) | with_reducible refine Below.drew ?_ | with_reducible refine below_drewN ?_ _ | (with_reducible refine below_step (by assumption) ?side ?_; case side => (first | omega | (with_reducible exact Below.size (by assumption)) | (simp; done) | (simp; omega))))⟩
  · have hz0B : (z != 0) = true := by simpa using hz0
    have hz0E : (z == 0) = false := by simpa using hz0
    rw [hz0E]
    clear hz HOK e1 e2 hz0E ea ec
    have hte := Lib.hid (fun W hb => (htr.out W hb).mono fun e w' h => h.err hz0)
    clear htr
    go_enter Try.func29, Try.ntmps29
    go_upto_region 1 with (fail)
    go_name_world X hX
    have BX : Below w.heap.size w X := (al3 hX).1
    have zX : X.heap.size = w.heap.size + 3 := (al3 hX).2
    have P0 := (al3_0 hX).2.1
    have P1 := (al3_1 hX).2.1 0
    have P2 := (al3_2 hX).2.1 0
    have lX : w.heap.size < X.heap.size := by omega
    have lX1 : w.heap.size + 1 < X.heap.size := by omega
    have lX2 : w.heap.size + 1 + 1 < X.heap.size := by omega
    clear hX
    have hcq := fun p : Regrown => (bcell (below_regrown X p.d p.os)).1
    refine wp_region_quiet_below (by kernel_rfl) (by kernel_rfl) ?_
    repeat (go_big_quiet_step (((first | (go_at_call 57; first | with_reducible exact Calls.regrown_of (hpa.out _) | with_reducible exact Calls.regrown_of (hpc.out _)) | (go_at_call 56; exact Calls.regrown_of (hte.out _ (BX.trans ((below_regrown _ _ _).mono BX.size))))))))
    refine wpQuiet_nil ?_
    intro wq hq
    obtain ⟨pq, hq⟩ := hq
    have hbq : Below X.heap.size X wq := by rw [hq]; exact below_regrown _ _ _
    clear hq hcq pq
    obtain ⟨hcq, hfq⟩ := bcell hbq
    have zq := hbq.size
    go_wp2
    exact bodyPost_ret (v := .tuple #[.int .i64 0, .int .i64 z]) (by simp [results, Try.results29, go_sem]) rfl ⟨rfl, by (repeat first | with_reducible assumption | with_reducible exact Below.refl _ _ | (with_reducible refine Below.alloc ?_ ?side _; case side => (first | omega | (with_reducible exact Below.size (by assumption)) | (simp; done) | (simp; omega))) | (with_reducible refine Below.setCell ?_ ?side _; case side => (first | omega | (with_reducible exact Below.size (by assumption)) | (simp; done) | (simp; omega))) | with_reducible refine Below.drew ?_ | with_reducible refine below_drewN ?_ _ | (with_reducible refine below_step (by assumption) ?side ?_; case side => (first | omega | (with_reducible exact Below.size (by assumption)) | (simp; done) | (simp; omega))))⟩

end Go.Proofs.Ytmopnbijfcamjaa
