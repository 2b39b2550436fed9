/- Alike of bars (layer 1). -/
import Derived.Test.YtmopnbijfcamjaaAl1
namespace Go.Proofs.Ytmopnbijfcamjaa
open Go.RowKit
open Go.Sort (grow)
set_option linter.unusedVariables false

def alikeP (bs : List Br) (ps : List Pc) (kf wr a c : Int) : Int × Int :=
  bif askE bs ps kf wr (wi a 0 ((ps.length : Int) - 1) && wi c 0 ((ps.length : Int) - 1)) == 0 then (knP (fun x => iAt x.of a.toNat == iAt x.of c.toNat) (swA bs ps kf wr), 0) else (0, askE bs ps kf wr (wi a 0 ((ps.length : Int) - 1) && wi c 0 ((ps.length : Int) - 1)))
set_option maxRecDepth 100000 in
set_option maxHeartbeats 3200000 in
theorem alike_c (Ab Ap : Option Addr) (nb cb np cp : Nat) (kf wrg a c : Int) (bs : List Br) (ms : List Pm) (ps : List Pc) (w : World) (h1 : nb ≤ 40) (h2 : np ≤ 40) (h3 : ∀ k, k < np → (pcAt ps k).hs.length ≤ 40) (HB : BrsAt w Ab nb bs) (HP : PcsAt w Ap np ms ps) :
    Calls Try.prog 29 #[.agg #[.slice Ab nb cb, .int .i64 kf, .slice Ap np cp, .int .i64 wrg], .int .i64 a, .int .i64 c] w fun e w' => e = .returned (.tuple #[.int .i64 (alikeP bs ps kf wrg a c).1, .int .i64 (alikeP bs ps kf wrg a c).2]) ∧ Below w.heap.size w w' := by
  have HBI := Lib.hid HB
  have HPI := Lib.hid HP
  have hBl := HB.1
  have hPl := HP.pl
  have HOK := Lib.hid (fun h => okSt_of (kf := kf) (wr := wrg) hBl hPl h3 h)
  have htr := fun is W (hb : Below w.heap.size w W) => truths_c Ab Ap nb cb np cp kf wrg is bs ms ps W h1 h2 h3 (HB.later hb) (HP.later hb)
  have hR : alikeP bs ps kf wrg a c = bif askE bs ps kf wrg (wi a 0 ((np : Int) - 1) && wi c 0 ((np : Int) - 1)) == 0 then (knP (fun x => iAt x.of a.toNat == iAt x.of c.toNat) (swA bs ps kf wrg), 0) else (0, askE bs ps kf wrg (wi a 0 ((np : Int) - 1) && wi c 0 ((np : Int) - 1))) := by unfold alikeP; rw [hPl]
  rw [hR]
  have hpa := fun W => isPiece_c Ab Ap nb cb np cp kf wrg a W h1 h2
  have hpc := fun W => isPiece_c Ab Ap nb cb np cp kf wrg c W h1 h2
  have HPL := Lib.hid hPl
  clear HB HP hBl hPl h3 hR
  cases e1 : wi a 0 ((np : Int) - 1)
  · rw [e1] at hpa
    replace hpa := Lib.hid hpa
    replace hpc := Lib.hid hpc
    rw [Bool.false_and]
    obtain ⟨z, hz⟩ : ∃ z, askE bs ps kf wrg false = z := ⟨_, rfl⟩
    replace htr := htr false
    rw [hz] at htr ⊢
    replace htr := Lib.hid htr
    have hz0 : z ≠ 0 := fun h => by have := (askE_0 (hz.trans h)).2.1; simp at this
    have hz0B : (z != 0) = true := by simpa using hz0
    have hz0E : (z == 0) = false := by simpa using hz0
    rw [hz0E]
    clear hz HOK e1 hz0E
    have hte := Lib.hid (fun W hb => (htr.out W hb).mono fun e w' h => h.err hz0)
    clear htr
    go_enter Try.func29, Try.ntmps29
    go_upto_region 1 with (fail)
    go_name_world X hX
    have BX : Below w.heap.size w X := (al3 hX).1
    have zX : X.heap.size = w.heap.size + 3 := (al3 hX).2
    have P0 := (al3_0 hX).2.1
    have P1 := (al3_1 hX).2.1 0
    have P2 := (al3_2 hX).2.1 0
    have lX : w.heap.size < X.heap.size := by omega
    have lX1 : w.heap.size + 1 < X.heap.size := by omega
    have lX2 : w.heap.size + 1 + 1 < X.heap.size := by omega
    clear hX
    have hcq := fun p : Regrown => (bcell (below_regrown X p.d p.os)).1
    refine wp_region_quiet_below (by kernel_rfl) (by kernel_rfl) ?_
    repeat (go_big_quiet_step (((first | (go_at_call 57; first | with_reducible exact Calls.regrown_of (hpa.out _) | with_reducible exact Calls.regrown_of (hpc.out _)) | (go_at_call 56; exact Calls.regrown_of (hte.out _ (BX.trans ((below_regrown _ _ _).mono BX.size))))))))
    refine wpQuiet_nil ?_
    intro wq hq
    obtain ⟨pq, hq⟩ := hq
    have hbq : Below X.heap.size X wq := by rw [hq]; exact below_regrown _ _ _
    clear hq hcq pq
    obtain ⟨hcq, hfq⟩ := bcell hbq
    have zq := hbq.size
    go_wp2
    exact bodyPost_ret (v := .tuple #[.int .i64 0, .int .i64 z]) (by simp [results, Try.results29, go_sem]) rfl ⟨rfl, by (repeat first | with_reducible assumption | with_reducible exact Below.refl _ _ | (with_reducible refine Below.alloc ?_ ?side _; case side => (first | omega | (with_reducible exact Below.size (by assumption)) | (simp; done) | (simp; omega))) | (with_reducible refine Below.setCell ?_ ?side _; case side => (first | omega | (with_reducible exact Below.size (by assumption)) | (simp; done) | (simp; omega))) | with_reducible refine Below.drew ?_ | with_reducible refine below_drewN ?_ _ | (with_reducible refine below_step (by assumption) ?side ?_; case side => (first | omega | (with_reducible exact Below.size (by assumption)) | (simp; done) | (simp; omega))))⟩
  rw [e1] at hpa
  replace hpa := Lib.hid hpa
  have ea := wi_true.1 e1
  cases e2 : wi c 0 ((np : Int) - 1)
  · rw [e2] at hpc
    replace hpc := Lib.hid hpc
    rw [Bool.true_and]
    obtain ⟨z, hz⟩ : ∃ z, askE bs ps kf wrg false = z := ⟨_, rfl⟩
    replace htr := htr false
    rw [hz] at htr ⊢
    replace htr := Lib.hid htr
    have hz0 : z ≠ 0 := fun h => by have := (askE_0 (hz.trans h)).2.1; simp at this
    have hz0B : (z != 0) = true := by simpa using hz0
    have hz0E : (z == 0) = false := by simpa using hz0
    rw [hz0E]
    clear hz HOK e1 e2 hz0E ea
    have hte := Lib.hid (fun W hb => (htr.out W hb).mono fun e w' h => h.err hz0)
    clear htr
    go_enter Try.func29, Try.ntmps29
    go_upto_region 1 with (fail)
    go_name_world X hX
    have BX : Below w.heap.size w X := (al3 hX).1
    have zX : X.heap.size = w.heap.size + 3 := (al3 hX).2
    have P0 := (al3_0 hX).2.1
    have P1 := (al3_1 hX).2.1 0
    have P2 := (al3_2 hX).2.1 0
    have lX : w.heap.size < X.heap.size := by omega
    have lX1 : w.heap.size + 1 < X.heap.size := by omega
    have lX2 : w.heap.size + 1 + 1 < X.heap.size := by omega
    clear hX
    have hcq := fun p : Regrown => (bcell (below_regrown X p.d p.os)).1
    refine wp_region_quiet_below (by kernel_rfl) (by kernel_rfl) ?_
    repeat (go_big_quiet_step (((first | (go_at_call 57; first | with_reducible exact Calls.regrown_of (hpa.out _) | with_reducible exact Calls.regrown_of (hpc.out _)) | (go_at_call 56; exact Calls.regrown_of (hte.out _ (BX.trans ((below_regrown _ _ _).mono BX.size))))))))
    refine wpQuiet_nil ?_
    intro wq hq
    obtain ⟨pq, hq⟩ := hq
    have hbq : Below X.heap.size X wq := by rw [hq]; exact below_regrown _ _ _
    clear hq hcq pq
    obtain ⟨hcq, hfq⟩ := bcell hbq
    have zq := hbq.size
    go_wp2
    exact bodyPost_ret (v := .tuple #[.int .i64 0, .int .i64 z]) (by simp [results, Try.results29, go_sem]) rfl ⟨rfl, by (repeat first | with_reducible assumption | with_reducible exact Below.refl _ _ | (with_reducible refine Below.alloc ?_ ?side _; case side => (first | omega | (with_reducible exact Below.size (by assumption)) | (simp; done) | (simp; omega))) | (with_reducible refine Below.setCell ?_ ?side _; case side => (first | omega | (with_reducible exact Below.size (by assumption)) | (simp; done) | (simp; omega))) | with_reducible refine Below.drew ?_ | with_reducible refine below_drewN ?_ _ | (with_reducible refine below_step (by assumption) ?side ?_; case side => (first | omega | (with_reducible exact Below.size (by assumption)) | (simp; done) | (simp; omega))))⟩
  rw [e2] at hpc
  replace hpc := Lib.hid hpc
  have ec := wi_true.1 e2
  rw [Bool.true_and]
  obtain ⟨z, hz⟩ : ∃ z, askE bs ps kf wrg true = z := ⟨_, rfl⟩
  replace htr := htr true
  rw [hz] at htr ⊢
  replace htr := Lib.hid htr
  by_cases hz0 : z = 0
  · subst hz0
    obtain ⟨hck, -, -⟩ := askE_0 hz
    obtain ⟨ok, hw0, hw8⟩ := HOK.out hck
    have OK := Lib.hid ok
    have en60 : ∀ args w, (callFunc 69 args).run Try.prog w = .ok (.enter 69 args) w := enters_of Try.func69 (by kernel_rfl) rfl
    obtain ⟨an, han⟩ : ∃ n : Nat, a = (n : Int) := ⟨a.toNat, by omega⟩
    obtain ⟨cn, hcn⟩ : ∃ n : Nat, c = (n : Int) := ⟨c.toNat, by omega⟩
    subst han
    subst hcn
    have hanp : an < np := by omega
    have hcnp : cn < np := by omega
    rw [Int.toNat_natCast, Int.toNat_natCast]
    obtain ⟨K, hK⟩ : ∃ K, knP (fun x => iAt x.of an == iAt x.of cn) (swA bs ps kf wrg) = K := ⟨_, rfl⟩
    rw [hK]
    have HK := Lib.hid hK
    clear hz hck ok HOK e1 e2 ea ec hK
    go_enter Try.func29, Try.ntmps29
    go_upto_region 1 with (fail)
    go_name_world X hX
    have BX : Below w.heap.size w X := (al3 hX).1
    have zX : X.heap.size = w.heap.size + 3 := (al3 hX).2
    have P0 := (al3_0 hX).2.1
    have P1 := (al3_1 hX).2.1 0
    have P2 := (al3_2 hX).2.1 0
    have lX : w.heap.size < X.heap.size := by omega
    have lX1 : w.heap.size + 1 < X.heap.size := by omega
    have lX2 : w.heap.size + 1 + 1 < X.heap.size := by omega
    clear hX
    go_region_held3 (fun w' => (∀ j, w'.cell? ⟨w.heap.size, j, none⟩ = #[Value.slice Ab nb cb, .int .i64 kf, .slice Ap np cp, .int .i64 wrg][j]?) ∧ w'.cell? ⟨w.heap.size + 1, 0, none⟩ = some (.int .i64 an) ∧ w'.cell? ⟨w.heap.size + 1 + 1, 0, none⟩ = some (.int .i64 cn))
      (first | exact ⟨P0, P1, P2⟩ | exact ⟨fun j => (kb3.cell (p := ⟨w.heap.size, j, none⟩) lX).trans (P0 j), (kb3.cell (p := ⟨w.heap.size + 1, 0, none⟩) lX1).trans P1, (kb3.cell (p := ⟨w.heap.size + 1 + 1, 0, none⟩) lX2).trans P2⟩ | exact ⟨fun j => (kb2.cell (p := ⟨w.heap.size, j, none⟩) lX).trans (P0 j), (kb2.cell (p := ⟨w.heap.size + 1, 0, none⟩) lX1).trans P1, (kb2.cell (p := ⟨w.heap.size + 1 + 1, 0, none⟩) lX2).trans P2⟩ | exact ⟨fun j => (kb.cell (p := ⟨w.heap.size, j, none⟩) lX).trans (P0 j), (kb.cell (p := ⟨w.heap.size + 1, 0, none⟩) lX1).trans P1, (kb.cell (p := ⟨w.heap.size + 1 + 1, 0, none⟩) lX2).trans P2⟩ | go_keep)
      ((first | (go_at_call 57; with_reducible refine (hpa.out _).mono ?_; (rintro e w5 ⟨rfl, hb5⟩); have kb : Below X.heap.size X w5 := Below.trans (by (repeat first | with_reducible assumption | with_reducible exact Below.refl _ _ | (with_reducible refine Below.alloc ?_ ?side _; case side => (first | omega | (with_reducible exact Below.size (by assumption)) | (simp; done) | (simp; omega))) | (with_reducible refine Below.setCell ?_ ?side _; case side => (first | omega | (with_reducible exact Below.size (by assumption)) | (simp; done) | (simp; omega))) | with_reducible refine Below.drew ?_ | with_reducible refine below_drewN ?_ _ | (with_reducible refine below_step (by assumption) ?side ?_; case side => (first | omega | (with_reducible exact Below.size (by assumption)) | (simp; done) | (simp; omega))))) (hb5.mono (by simp))) | (go_at_call 57; with_reducible refine (hpc.out _).mono ?_; (rintro e w5' ⟨rfl, hb5'⟩); have kb2 : Below X.heap.size X w5' := Below.trans kb (hb5'.mono kb.size)) | (go_at_call 56; refine (htr.out _ (by (repeat first | with_reducible assumption | with_reducible exact Below.refl _ _ | (with_reducible refine Below.alloc ?_ ?side _; case side => (first | omega | (with_reducible exact Below.size (by assumption)) | (simp; done) | (simp; omega))) | (with_reducible refine Below.setCell ?_ ?side _; case side => (first | omega | (with_reducible exact Below.size (by assumption)) | (simp; done) | (simp; omega))) | with_reducible refine Below.drew ?_ | with_reducible refine below_drewN ?_ _ | (with_reducible refine below_step (by assumption) ?side ?_; case side => (first | omega | (with_reducible exact Below.size (by assumption)) | (simp; done) | (simp; omega)))))).mono ?_; (rintro e w6 ⟨f, rfl, hb6, hf6, -⟩); have kb3 : Below X.heap.size X w6 := Below.trans kb2 (hb6.mono kb2.size))))
    all_goals
      obtain ⟨b1, b2, rfl, p1, p2, hne, hM⟩ := hf6 trivial
      have HM := Lib.hid hM
      have z6 := kb3.size
      have hkn := known_c b1 b2 69 #[.pointer (some ⟨w.heap.size + 1, 0, none⟩), .pointer (some ⟨w.heap.size + 1 + 1, 0, none⟩)] (fun x => iAt x.of an == iAt x.of cn) Ab Ap nb cb np cp kf wrg bs ms ps w6 OK.out ⟨hw0, hw8⟩ hM en60
        (fun b x W hS hx hb => alike1_c b (w.heap.size + 1) (w.heap.size + 1 + 1) nb an cn x W hS (by rw [swA_of_len hx, HPL.out]; exact hanp) (by rw [swA_of_len hx, HPL.out]; exact hcnp) ((hb.cell (p := ⟨w.heap.size + 1, 0, none⟩) (by show w.heap.size + 1 < _; omega)).trans ((kb3.cell (p := ⟨w.heap.size + 1, 0, none⟩) lX1).trans P1)) ((hb.cell (p := ⟨w.heap.size + 1 + 1, 0, none⟩) (by show w.heap.size + 1 + 1 < _; omega)).trans ((kb3.cell (p := ⟨w.heap.size + 1 + 1, 0, none⟩) lX2).trans P2)))
      rw [HK.out] at hkn
      replace hkn := Lib.hid hkn
      clear hf6 hM en60
      go_wp2_with (go_at_call 59; refine hkn.out.mono ?_; rintro e w7 ⟨rfl, hb7⟩)
      exact bodyPost_ret (v := .tuple #[.int .i64 K, .int .i64 0]) (by simp [results, Try.results29, go_sem]) rfl ⟨rfl, by (repeat first | with_reducible assumption | with_reducible exact Below.refl _ _ | (with_reducible refine Below.alloc ?_ ?side _; case side => (first | omega | (with_reducible exact Below.size (by assumption)) | (simp; done) | (simp; omega))) | (with_reducible refine Below.setCell ?_ ?side _; case side => (first | omega | (with_reducible exact Below.size (by assumption)) | (simp; done) | (simp; omega))) | with_reducible refine Below.drew ?_ | with_reducible refine below_drewN ?_ _ | (with_reducible refine below_step (by assumption) ?side ?_; case side => (first | omega | (with_reducible exact Below.size (by assumption)) | (simp; done) | (simp; omega))))⟩
  · have hz0B : (z != 0) = true := by simpa using hz0
    have hz0E : (z == 0) = false := by simpa using hz0
    rw [hz0E]
    clear hz HOK e1 e2 hz0E ea ec
    have hte := Lib.hid (fun W hb => (htr.out W hb).mono fun e w' h => h.err hz0)
    clear htr
    go_enter Try.func29, Try.ntmps29
    go_upto_region 1 with (fail)
    go_name_world X hX
    have BX : Below w.heap.size w X := (al3 hX).1
    have zX : X.heap.size = w.heap.size + 3 := (al3 hX).2
    have P0 := (al3_0 hX).2.1
    have P1 := (al3_1 hX).2.1 0
    have P2 := (al3_2 hX).2.1 0
    have lX : w.heap.size < X.heap.size := by omega
    have lX1 : w.heap.size + 1 < X.heap.size := by omega
    have lX2 : w.heap.size + 1 + 1 < X.heap.size := by omega
    clear hX
    have hcq := fun p : Regrown => (bcell (below_regrown X p.d p.os)).1
    refine wp_region_quiet_below (by kernel_rfl) (by kernel_rfl) ?_
    repeat (go_big_quiet_step (((first | (go_at_call 57; first | with_reducible exact Calls.regrown_of (hpa.out _) | with_reducible exact Calls.regrown_of (hpc.out _)) | (go_at_call 56; exact Calls.regrown_of (hte.out _ (BX.trans ((below_regrown _ _ _).mono BX.size))))))))
    refine wpQuiet_nil ?_
    intro wq hq
    obtain ⟨pq, hq⟩ := hq
    have hbq : Below X.heap.size X wq := by rw [hq]; exact below_regrown _ _ _
    clear hq hcq pq
    obtain ⟨hcq, hfq⟩ := bcell hbq
    have zq := hbq.size
    go_wp2
    exact bodyPost_ret (v := .tuple #[.int .i64 0, .int .i64 z]) (by simp [results, Try.results29, go_sem]) rfl ⟨rfl, by (repeat first | with_reducible assumption | with_reducible exact Below.refl _ _ | (with_reducible refine Below.alloc ?_ ?side _; case side => (first | omega | (with_reducible exact Below.size (by assumption)) | (simp; done) | (simp; omega))) | (with_reducible refine Below.setCell ?_ ?side _; case side => (first | omega | (with_reducible exact Below.size (by assumption)) | (simp; done) | (simp; omega))) | with_reducible refine Below.drew ?_ | with_reducible refine below_drewN ?_ _ | (with_reducible refine below_step (by assumption) ?side ?_; case side => (first | omega | (with_reducible exact Below.size (by assumption)) | (simp; done) | (simp; omega))))⟩

end Go.Proofs.Ytmopnbijfcamjaa
