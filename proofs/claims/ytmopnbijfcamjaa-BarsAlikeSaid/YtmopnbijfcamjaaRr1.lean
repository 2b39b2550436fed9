/- Room and Rest of the specification (layer 1). -/
import Derived.Handy
import Derived.Test.YtmopnbijfcamjaaRf9
namespace Go.Proofs.Ytmopnbijfcamjaa
open Go.RowKit
open Go.Sort (grow)
set_option linter.unusedVariables false

section
variable (Ab Ap : Option Addr) (nb cb np cp : Nat) (kf wrg : Int) (bs : List Br) (ms : List Pm) (ps : List Pc) (w : World)
set_option maxRecDepth 100000 in
set_option maxHeartbeats 3200000 in
theorem refRoom_c (lg : Int) (h1 : nb ≤ 40) (h2 : np ≤ 40) (h3 : ∀ k, k < np → (pcAt ps k).hs.length ≤ 40) (hsm : ckS bs ps kf wrg = true → nb ≤ 4 ∧ np ≤ 5) (HB : BrsAt w Ab nb bs) (HP : PcsAt w Ap np ms ps) :
    Calls Try.prog 33 #[.agg #[.slice Ab nb cb, .int .i64 kf, .slice Ap np cp, .int .i64 wrg], .int .i64 lg] w fun e w' => e = .returned (.tuple #[.int .i64 (roomP bs ps kf wrg lg).1, .int .i64 (roomP bs ps kf wrg lg).2]) ∧ Below w.heap.size w w' := by
  have HBI := Lib.hid HB
  have HPI := Lib.hid HP
  have hbl := HB.1
  have hpl := HP.pl
  have htr : ∀ is V, Below w.heap.size w V → Calls Try.prog 64 #[.agg #[.slice Ab nb cb, .int .i64 kf, .slice Ap np cp, .int .i64 wrg], .bool is] V (TrsRet (trsL bs ps kf wrg is) (askE bs ps kf wrg is) V) := fun is V hV => reftruths_c Ab Ap nb cb np cp kf wrg bs ms ps V is h1 h2 h3 hsm (HB.later hV) (HP.later hV)
  have hle : ∀ is, (trsL bs ps kf wrg is).length ≤ 1024 := fun is => by
    rcases Nat.eq_zero_or_pos (trsL bs ps kf wrg is).length with e | e
    · omega
    · have hm := lAt_mem e
      obtain ⟨hc, -⟩ := trs_sub hm
      have := hsm hc
      unfold trsL at e hm ⊢
      cases eq : (askE bs ps kf wrg is == 0)
      · simp
      · exact trL_le (by rw [hbl]; omega) (by rw [hpl]; omega)
  have hwi : ∀ V, Calls Try.prog 34 #[.int .i64 lg, .int .i64 1, .int .i64 999] V fun e V' => e = .returned (.bool (wi lg 1 999)) ∧ Below V.heap.size V V' := fun V => (Within1_c lg 1 999 V).mono fun e w' h => ⟨h.1, h.2 ▸ Below.refl _ _⟩
  by_cases hz : askE bs ps kf wrg (wi lg 1 999) = 0
  · obtain ⟨hi, hc, ht, hne⟩ := trs_of hz
    rw [hi] at hz ht hwi
    replace htr := htr true
    have hle1 := hle true
    rw [hz, ht] at htr
    rw [ht] at hle1
    have hhr : ∀ (A : Option Addr) (c : Nat) (l : List Nat) V, l ∈ trL bs ps kf wrg → Below w.heap.size w V → IntsAt V A np (toI l) → Calls Try.prog 53 #[.agg #[.slice Ab nb cb, .int .i64 kf, .slice Ap np cp, .int .i64 wrg], .slice A np c, .int .i64 lg] V fun e V' => e = .returned (.bool (hrB bs ps kf lg l)) ∧ Below V.heap.size V V' := fun A c l V _ hV hI =>
      refHasRoom_c Ab Ap A nb cb np cp np c kf wrg bs ms ps l V lg hi hc (HB.later hV) (HP.later hV) hI (Nat.le_refl _)
    rw [room_ok hc hne, if_pos hi, ← knI_knP hne]
    have hlen : ∀ l ∈ trL bs ps kf wrg, l.length = np := fun l hl => by rw [(trL_mem.1 hl).1.1, hpl]
    obtain ⟨T, hT⟩ : ∃ T, trL bs ps kf wrg = T := ⟨_, rfl⟩
    rw [hT] at htr hlen hle1 hhr ⊢
    obtain ⟨m, hm⟩ : ∃ m, T.length = m := ⟨_, rfl⟩
    rw [hm] at hle1
    obtain ⟨R, hR2⟩ : ∃ R, knI (T.countP (fun l => hrB bs ps kf lg l) : Nat) (T.length : Nat) = R := ⟨_, rfl⟩
    have HR : Hid (knI ((cntL (fun l => hrB bs ps kf lg l) T m : Nat) : Int) m = R) := Lib.hid (by rw [← hR2, ← hm]; unfold cntL; rw [List.take_length])
    rw [hR2]
    have HM := Lib.hid hm
    have HLEN := Lib.hid hlen
    replace htr := Lib.hid htr
    replace hwi := Lib.hid hwi
    replace hhr := Lib.hid hhr
    clear HB HP h3 hsm hle hi hc ht hne hT hm hR2 hlen hz
    go_enter Try.func33, Try.ntmps33
    go_upto_region 1 with (fail)
    go_name_world X hX
    have BX : Below w.heap.size w X := (al1 hX).1
    have zX : X.heap.size = w.heap.size + 1 := (al1 hX).2
    have P0 := (al1_0 hX).2.1
    have lX : w.heap.size < X.heap.size := by omega
    clear hX
    go_region_held3 (fun w' => ∀ j, w'.cell? ⟨w.heap.size, j, none⟩ = #[Value.slice Ab nb cb, .int .i64 kf, .slice Ap np cp, .int .i64 wrg][j]?)
      (first | exact P0 | exact fun j => (kb3.cell (p := ⟨w.heap.size, j, none⟩) lX).trans (P0 j) | exact fun j => (kb.cell (p := ⟨w.heap.size, j, none⟩) lX).trans (P0 j) | go_keep)
      ((first | (go_at_call 34; refine (hwi.out _).mono ?_; (rintro e w5 ⟨rfl, hb5⟩); have kb : Below X.heap.size X w5 := Below.trans (by (repeat first | with_reducible assumption | with_reducible exact Below.refl _ _ | (with_reducible refine Below.alloc ?_ ?side _; case side => (first | omega | (with_reducible exact Below.size (by assumption)) | (simp; done) | (simp; omega))) | (with_reducible refine Below.setCell ?_ ?side _; case side => (first | omega | (with_reducible exact Below.size (by assumption)) | (simp; done) | (simp; omega))) | with_reducible refine Below.drew ?_ | with_reducible refine below_drewN ?_ _ | (with_reducible refine below_step (by assumption) ?side ?_; case side => (first | omega | (with_reducible exact Below.size (by assumption)) | (simp; done) | (simp; omega))))) (hb5.mono (by simp))) | (go_at_call 64; refine (htr.out _ (by (repeat first | with_reducible assumption | with_reducible exact Below.refl _ _ | (with_reducible refine Below.alloc ?_ ?side _; case side => (first | omega | (with_reducible exact Below.size (by assumption)) | (simp; done) | (simp; omega))) | (with_reducible refine Below.setCell ?_ ?side _; case side => (first | omega | (with_reducible exact Below.size (by assumption)) | (simp; done) | (simp; omega))) | with_reducible refine Below.drew ?_ | with_reducible refine below_drewN ?_ _ | (with_reducible refine below_step (by assumption) ?side ?_; case side => (first | omega | (with_reducible exact Below.size (by assumption)) | (simp; done) | (simp; omega)))))).mono ?_; (rintro e w6 ⟨A6, c6, hs6, rfl, hss, hb6, -⟩); have kb3 : Below X.heap.size X w6 := Below.trans kb (hb6.mono kb.size))))
    rw [HM.out] at hss
    have HSS := Lib.hid hss
    have z6 := kb3.size
    have KB := Lib.hid (BX.trans (kb3.mono BX.size))
    have C6 := Lib.hid (fun j => (kb3.cell (p := ⟨w.heap.size, j, none⟩) lX).trans (P0 j))
    have l6 : w.heap.size < w6.heap.size := by omega
    clear hss P0
    rw [HM.out]
    go_wp2_with fail
    go_loopw [8, 9] (fun v i (wr : World) => ∃ (k : Nat), k ≤ m ∧ i = .int .i64 k ∧ v = .int .i64 (cntL (fun l => hrB bs ps kf lg l) T k : Nat) ∧ Below w6.heap.size w6 wr) (fun _ i _ => m - (intOf i).toNat)
    case atStart => exact ⟨0, by omega, rfl, by rw [cntL_0]; rfl, Below.refl _ _⟩
    case round =>
      obtain ⟨k, hk, rfl, rfl, hb⟩ := hrel
      have zb := hb.size
      have cc := fun j => (hb.cell (p := ⟨w.heap.size, j, none⟩) l6).trans (C6.out j)
      have hbw : Below w.heap.size w wr := KB.out.trans (hb.mono KB.out.size)
      have m0 : w.heap.size < wr.heap.size := by omega
      have hcl : cntL (fun l => hrB bs ps kf lg l) T k ≤ k := by
        unfold cntL
        exact Nat.le_trans List.countP_le_length (by rw [List.length_take]; omega)
      by_cases hlt : k < m
      · have hqB : decide ((k : Int) < m) = true := by simp; omega
        have hcs := cnt_lAt (p := fun l => hrB bs ps kf lg l) (T := T) (k := k) (by rw [HM.out]; exact hlt)
        obtain ⟨b1, o1, rfl, hb1, x1, i1⟩ := (HSS.out.later hb).get hlt
        rw [xAt_map] at i1
        have hmem := lAt_mem (L := T) (k := k) (by rw [HM.out]; exact hlt)
        have hll := HLEN.out _ hmem
        obtain ⟨C, hC⟩ : ∃ C, cntL (fun l => hrB bs ps kf lg l) T k = C := ⟨_, rfl⟩
        rw [hC] at hcs hcl ⊢
        obtain ⟨l, hl⟩ : ∃ l, lAt T k = l := ⟨_, rfl⟩
        obtain ⟨h, hh⟩ : ∃ h, hAt hs6 k = h := ⟨_, rfl⟩
        rw [hl] at i1 hcs hll hmem
        rw [hh] at x1 i1
        have hnn : h.n = np := by rw [← hll, ← toI_len]; exact i1.1.symm
        rw [hnn] at i1 x1
        have hw := fun V hV => hhr.out h.A h.c l V hmem (hbw.trans (hV.mono hbw.size)) (i1.later hV)
        obtain ⟨g, hg⟩ : ∃ g, hrB bs ps kf lg l = g := ⟨_, rfl⟩
        rw [hg] at hw hcs
        have HW2 : Hid (∀ V, Below wr.heap.size wr V → Calls Try.prog 53 #[.agg #[.slice Ab nb cb, .int .i64 kf, .slice Ap np cp, .int .i64 wrg], .slice h.A np h.c, .int .i64 lg] V fun e V' => e = .returned (.bool g) ∧ Below V.heap.size V V') := Lib.hid hw
        have HCS := Lib.hid hcs
        clear hl hh hg hmem hw i1 hnn hll hC hcs
        cases g
        · go_upto_region 8 with (fail)
          have hcq := fun p : Regrown => (bcell (below_regrown wr p.d p.os)).1
          refine wp_region_quiet_below (by kernel_rfl) (by kernel_rfl) ?_
          repeat (go_big_quiet_step ((go_at_call 53; exact Calls.regrown_of (HW2.out _ (below_regrown _ _ _)))))
          refine wpQuiet_nil ?_
          intro wq hq
          obtain ⟨pq, hq⟩ := hq
          have hbq : Below wr.heap.size wr wq := by rw [hq]; exact below_regrown _ _ _
          clear hq hcq pq
          obtain ⟨hcq, hfq⟩ := bcell hbq
          have zq := hbq.size
          go_wp2_with fail
          go_roundw
          case rel => exact ⟨k + 1, by omega, by go_num, by rw [HCS.out]; rfl, by (repeat first | with_reducible assumption | with_reducible exact Below.refl _ _ | (with_reducible refine Below.alloc ?_ ?side _; case side => (first | omega | (with_reducible exact Below.size (by assumption)) | (simp; done) | (simp; omega))) | (with_reducible refine Below.setCell ?_ ?side _; case side => (first | omega | (with_reducible exact Below.size (by assumption)) | (simp; done) | (simp; omega))) | with_reducible refine Below.drew ?_ | with_reducible refine below_drewN ?_ _ | (with_reducible refine below_step (by assumption) ?side ?_; case side => (first | omega | (with_reducible exact Below.size (by assumption)) | (simp; done) | (simp; omega))))⟩
          case measure => simp [intOf]; omega
        · go_upto_region 8 with (fail)
          have hcq := fun p : Regrown => (bcell (below_regrown wr p.d p.os)).1
          refine wp_region_quiet_below (by kernel_rfl) (by kernel_rfl) ?_
          repeat (go_big_quiet_step ((go_at_call 53; exact Calls.regrown_of (HW2.out _ (below_regrown _ _ _)))))
          refine wpQuiet_nil ?_
          intro wq hq
          obtain ⟨pq, hq⟩ := hq
          have hbq : Below wr.heap.size wr wq := by rw [hq]; exact below_regrown _ _ _
          clear hq hcq pq
          obtain ⟨hcq, hfq⟩ := bcell hbq
          have zq := hbq.size
          go_wp2_with fail
          go_roundw
          case rel => exact ⟨k + 1, by omega, by go_num, by rw [HCS.out]; go_num, by (repeat first | with_reducible assumption | with_reducible exact Below.refl _ _ | (with_reducible refine Below.alloc ?_ ?side _; case side => (first | omega | (with_reducible exact Below.size (by assumption)) | (simp; done) | (simp; omega))) | (with_reducible refine Below.setCell ?_ ?side _; case side => (first | omega | (with_reducible exact Below.size (by assumption)) | (simp; done) | (simp; omega))) | with_reducible refine Below.drew ?_ | with_reducible refine below_drewN ?_ _ | (with_reducible refine below_step (by assumption) ?side ?_; case side => (first | omega | (with_reducible exact Below.size (by assumption)) | (simp; done) | (simp; omega))))⟩
          case measure => simp [intOf]; omega
      · obtain rfl : k = m := by omega
        have hqB : decide (((k : Nat) : Int) < k) = false := by simp
        have hkn := fun V => Known_c ((cntL (fun l => hrB bs ps kf lg l) T k : Nat) : Int) (k : Int) V
        rw [HR.out] at hkn
        replace hkn := Lib.hid hkn
        go_wp2_with (go_at_call 70; refine (hkn.out _).mono ?_; rintro e w' ⟨rfl, rfl⟩)
        exact bodyPost_ret (v := .tuple #[.int .i64 R, .int .i64 0]) (by simp [results, Try.results33, go_sem]) rfl ⟨rfl, KB.out.trans (hb.mono KB.out.size)⟩
  · have hz0 := hz
    have hR : roomP bs ps kf wrg lg = (0, askE bs ps kf wrg (wi lg 1 999)) := by unfold roomP; rw [show (askE bs ps kf wrg (wi lg 1 999) == 0) = false by rw [beq_eq_false_iff_ne]; exact hz0]; rfl
    rw [hR]
    obtain ⟨pa, hpaE⟩ : ∃ p, wi lg 1 999 = p := ⟨_, rfl⟩
    rw [hpaE] at hwi hz0 ⊢
    have hte : ∀ V, Below w.heap.size w V → Calls Try.prog 64 #[.agg #[.slice Ab nb cb, .int .i64 kf, .slice Ap np cp, .int .i64 wrg], .bool pa] V fun e V' => e = .returned (.tuple #[.slice none 0 0, .int .i64 (askE bs ps kf wrg pa)]) ∧ Below V.heap.size V V' := fun V hV => (htr pa V hV).mono fun e W' h => h.err hz0
    obtain ⟨z, hz3⟩ : ∃ z, askE bs ps kf wrg pa = z := ⟨_, rfl⟩
    rw [hz3] at hte hz0 ⊢
    have hz0B : (z != 0) = true := by simpa using hz0
    clear HB HP h3 hsm hle hR hpaE hz hz3 hz0 htr
    replace hte := Lib.hid hte
    replace hwi := Lib.hid hwi
    go_enter Try.func33, Try.ntmps33
    go_upto_region 1 with (fail)
    go_name_world X hX
    have BX : Below w.heap.size w X := (al1 hX).1
    have zX : X.heap.size = w.heap.size + 1 := (al1 hX).2
    have P0 := (al1_0 hX).2.1
    have lX : w.heap.size < X.heap.size := by omega
    clear hX
    have hcq := fun p : Regrown => (bcell (below_regrown X p.d p.os)).1
    refine wp_region_quiet_below (by kernel_rfl) (by kernel_rfl) ?_
    repeat (go_big_quiet_step ((first | (go_at_call 34; exact Calls.regrown_of (hwi.out _)) | (go_at_call 64; exact Calls.regrown_of (hte.out _ (BX.trans ((below_regrown _ _ _).mono BX.size)))))))
    refine wpQuiet_nil ?_
    intro wq hq
    obtain ⟨pq, hq⟩ := hq
    have hbq : Below X.heap.size X wq := by rw [hq]; exact below_regrown _ _ _
    clear hq hcq pq
    obtain ⟨hcq, hfq⟩ := bcell hbq
    have zq := hbq.size
    go_wp2_with fail
    exact bodyPost_ret (v := .tuple #[.int .i64 0, .int .i64 z]) (by simp [results, Try.results33, go_sem]) rfl ⟨rfl, by (repeat first | with_reducible assumption | with_reducible exact Below.refl _ _ | (with_reducible refine Below.alloc ?_ ?side _; case side => (first | omega | (with_reducible exact Below.size (by assumption)) | (simp; done) | (simp; omega))) | (with_reducible refine Below.setCell ?_ ?side _; case side => (first | omega | (with_reducible exact Below.size (by assumption)) | (simp; done) | (simp; omega))) | with_reducible refine Below.drew ?_ | with_reducible refine below_drewN ?_ _ | (with_reducible refine below_step (by assumption) ?side ?_; case side => (first | omega | (with_reducible exact Below.size (by assumption)) | (simp; done) | (simp; omega))))⟩
/-- the span so far -/
def RsInv (f : List Nat → Int) (T : List (List Nat)) (k : Nat) (lo hi : Int) : Prop := (k = 0 ∧ lo = 0 ∧ hi = 0) ∨ (0 < k ∧ (∃ j, j < k ∧ f (lAt T j) = lo) ∧ (∃ j, j < k ∧ f (lAt T j) = hi) ∧ ∀ j, j < k → lo ≤ f (lAt T j) ∧ f (lAt T j) ≤ hi)
theorem RsInv.first {f : List Nat → Int} {T : List (List Nat)} : RsInv f T 1 (f (lAt T 0)) (f (lAt T 0)) :=
  .inr ⟨by omega, ⟨0, by omega, rfl⟩, ⟨0, by omega, rfl⟩, fun j hj => (by
    obtain rfl : j = 0 := by omega
    exact ⟨Int.le_refl _, Int.le_refl _⟩)⟩
theorem RsInv.step {f : List Nat → Int} {T : List (List Nat)} {k : Nat} {lo hi : Int} (h : RsInv f T k lo hi) (hk : k ≠ 0) : RsInv f T (k + 1) (min lo (f (lAt T k))) (max hi (f (lAt T k))) := by
  rcases h with ⟨h, -⟩ | ⟨h0, ⟨j1, hj1, e1⟩, ⟨j2, hj2, e2⟩, h3⟩
  · exact absurd h hk
  · refine .inr ⟨Nat.succ_pos k, ?_, ?_, fun j hj => ?_⟩
    · rcases Int.le_total lo (f (lAt T k)) with c | c
      · exact ⟨j1, Nat.lt_succ_of_lt hj1, by rw [e1, Int.min_eq_left c]⟩
      · exact ⟨k, Nat.lt_succ_self k, by rw [Int.min_eq_right c]⟩
    · rcases Int.le_total hi (f (lAt T k)) with c | c
      · exact ⟨k, Nat.lt_succ_self k, by rw [Int.max_eq_right c]⟩
      · exact ⟨j2, Nat.lt_succ_of_lt hj2, by rw [e2, Int.max_eq_left c]⟩
    · rcases Nat.lt_succ_iff_lt_or_eq.1 hj with h' | rfl
      · have := h3 j h'
        exact ⟨Int.le_trans (Int.min_le_left _ _) this.1, Int.le_trans this.2 (Int.le_max_left _ _)⟩
      · exact ⟨Int.min_le_right _ _, Int.le_max_right _ _⟩
theorem rest_end {bar lo hi : Int} (hi' : RsInv (fun l => rsB bs ps kf l bar.toNat) (trsL bs ps kf wrg (wi bar 0 ((bs.length : Int) - 1))) (trsL bs ps kf wrg (wi bar 0 ((bs.length : Int) - 1))).length lo hi) :
    restP bs ps kf wrg bar = (⟨lo, hi⟩, askE bs ps kf wrg (wi bar 0 ((bs.length : Int) - 1))) := by
  by_cases hz : askE bs ps kf wrg (wi bar 0 ((bs.length : Int) - 1)) = 0
  · obtain ⟨hi, hc, ht, hne⟩ := trs_of hz
    have rb := wi_true.1 hi
    obtain ⟨b, rfl⟩ := Int.eq_ofNat_of_zero_le rb.1
    have hb : b < bs.length := by omega
    rw [hz, rest_ok hc hb, if_neg hne]
    rw [ht, Int.toNat_natCast] at hi'
    obtain ⟨a1, a2, a3⟩ := spF_mem (L := (trL bs ps kf wrg).map fun l => rsB bs ps kf l b) (by simpa using hne) (fun x hx => by
      obtain ⟨l, hl, rfl⟩ := List.mem_map.1 hx
      exact rs_bd hc hl hb)
    rcases hi' with ⟨h, -⟩ | ⟨-, ⟨j1, hj1, e1⟩, ⟨j2, hj2, e2⟩, h3⟩
    · exact absurd (List.eq_nil_of_length_eq_zero h) hne
    · have m1 : lo ∈ (trL bs ps kf wrg).map fun l => rsB bs ps kf l b := List.mem_map.2 ⟨_, lAt_mem hj1, e1⟩
      have m2 : _ ∈ (trL bs ps kf wrg).map fun l => rsB bs ps kf l b := List.mem_map.2 ⟨_, lAt_mem hj2, e2⟩
      have key : ∀ x ∈ (trL bs ps kf wrg).map fun l => rsB bs ps kf l b, ∃ j, j < (trL bs ps kf wrg).length ∧ rsB bs ps kf (lAt (trL bs ps kf wrg) j) b = x := fun x hx => by
        obtain ⟨l, hl, rfl⟩ := List.mem_map.1 hx
        obtain ⟨i, hi, rfl⟩ := List.getElem_of_mem hl
        have e : lAt (trL bs ps kf wrg) i = (trL bs ps kf wrg)[i] := by unfold lAt; rw [List.getD_eq_getElem?_getD, List.getElem?_eq_getElem hi]; rfl
        exact ⟨i, hi, by rw [e]⟩
      obtain ⟨i1, hi1, f1⟩ := key _ a1
      obtain ⟨i2, hi2, f2⟩ := key _ a2
      have b1 := (h3 i1 hi1).1
      have b2 := (h3 i2 hi2).2
      have c1 := (a3 _ m1).1
      have c2 := (a3 _ m2).2
      simp only at f1 f2 b1 b2
      obtain ⟨S, hS⟩ : ∃ S, ((trL bs ps kf wrg).map fun l => rsB bs ps kf l b).foldl spF ⟨999, 0⟩ = S := ⟨_, rfl⟩
      rw [hS] at f1 f2 c1 c2 ⊢
      obtain ⟨sl, sh⟩ := S
      simp only at f1 f2 c1 c2
      congr 1
      congr 1 <;> omega
  · have e0 : trsL bs ps kf wrg (wi bar 0 ((bs.length : Int) - 1)) = [] := by
      unfold trsL
      rw [show (askE bs ps kf wrg (wi bar 0 ((bs.length : Int) - 1)) == 0) = false by rw [beq_eq_false_iff_ne]; exact hz]; rfl
    rw [e0] at hi'
    unfold restP
    rw [show (askE bs ps kf wrg (wi bar 0 ((bs.length : Int) - 1)) == 0) = false by rw [beq_eq_false_iff_ne]; exact hz]
    rcases hi' with ⟨-, rfl, rfl⟩ | ⟨h, -⟩
    · rfl
    · simp at h
set_option maxRecDepth 100000 in
set_option maxHeartbeats 3200000 in
theorem refRest_c (bar : Int) (h1 : nb ≤ 40) (h2 : np ≤ 40) (h3 : ∀ k, k < np → (pcAt ps k).hs.length ≤ 40) (hsm : ckS bs ps kf wrg = true → nb ≤ 4 ∧ np ≤ 5) (HB : BrsAt w Ab nb bs) (HP : PcsAt w Ap np ms ps) :
    Calls Try.prog 32 #[.agg #[.slice Ab nb cb, .int .i64 kf, .slice Ap np cp, .int .i64 wrg], .int .i64 bar] w fun e w' => e = .returned (.tuple #[.agg #[.int .i64 (restP bs ps kf wrg bar).1.lo, .int .i64 (restP bs ps kf wrg bar).1.hi], .int .i64 (restP bs ps kf wrg bar).2]) ∧ Below w.heap.size w w' := by
  have HBI := Lib.hid HB
  have HPI := Lib.hid HP
  have hbl := HB.1
  have hpl := HP.pl
  have htr : ∀ is V, Below w.heap.size w V → Calls Try.prog 64 #[.agg #[.slice Ab nb cb, .int .i64 kf, .slice Ap np cp, .int .i64 wrg], .bool is] V (TrsRet (trsL bs ps kf wrg is) (askE bs ps kf wrg is) V) := fun is V hV => reftruths_c Ab Ap nb cb np cp kf wrg bs ms ps V is h1 h2 h3 hsm (HB.later hV) (HP.later hV)
  have hle : ∀ is, (trsL bs ps kf wrg is).length ≤ 1024 := fun is => by
    rcases Nat.eq_zero_or_pos (trsL bs ps kf wrg is).length with e | e
    · omega
    · have hm := lAt_mem e
      obtain ⟨hc, -⟩ := trs_sub hm
      have := hsm hc
      unfold trsL at e hm ⊢
      cases eq : (askE bs ps kf wrg is == 0)
      · simp
      · exact trL_le (by rw [hbl]; omega) (by rw [hpl]; omega)
  have hs0 : IntKind.i64.wrap ((nb : Int) - 1) = (nb : Int) - 1 := IntWalk.i64_in _ (by omega)
  have hwi : ∀ V, Calls Try.prog 34 #[.int .i64 bar, .int .i64 0, .int .i64 ((nb : Int) - 1)] V fun e V' => e = .returned (.bool (wi bar 0 ((nb : Int) - 1))) ∧ Below V.heap.size V V' := fun V => (Within1_c _ _ _ V).mono fun e w' h => ⟨h.1, h.2 ▸ Below.refl _ _⟩
  have hend := fun lo hi => rest_end (kf := kf) (wrg := wrg) (bs := bs) (ps := ps) (bar := bar) (lo := lo) (hi := hi)
  rw [hbl] at hend
  have hro : ∀ (A : Option Addr) (c : Nat) (l : List Nat) V, l ∈ trsL bs ps kf wrg (wi bar 0 ((nb : Int) - 1)) → Below w.heap.size w V → IntsAt V A np (toI l) → Calls Try.prog 51 #[.agg #[.slice Ab nb cb, .int .i64 kf, .slice Ap np cp, .int .i64 wrg], .slice A np c, .int .i64 bar] V fun e V' => e = .returned (.int .i64 (rsB bs ps kf l bar.toNat)) ∧ Below V.heap.size V V' := fun A c l V hl hV hI => by
    have hz : askE bs ps kf wrg (wi bar 0 ((nb : Int) - 1)) = 0 := by
      unfold trsL at hl
      cases e : (askE bs ps kf wrg (wi bar 0 ((nb : Int) - 1)) == 0)
      · rw [e] at hl; cases hl
      · simpa using e
    obtain ⟨hi, hc, -, -⟩ := trs_of hz
    have rb := wi_true.1 hi
    obtain ⟨b, rfl⟩ := Int.eq_ofNat_of_zero_le rb.1
    rw [Int.toNat_natCast]
    exact RestOf_c Ab Ap A nb cb np cp np c b kf wrg bs ms ps l V hc (HB.later hV) (HP.later hV) hI (by omega) (Nat.le_refl _)
  have hlen : ∀ l ∈ trsL bs ps kf wrg (wi bar 0 ((nb : Int) - 1)), l.length = np := fun l hl => by rw [(trL_mem.1 (trs_sub hl).2).1.1, hpl]
  obtain ⟨pa, hpaE⟩ : ∃ p, wi bar 0 ((nb : Int) - 1) = p := ⟨_, rfl⟩
  rw [hpaE] at hwi hend hlen hro
  replace htr := htr pa
  have hle1 := hle pa
  obtain ⟨T, hT⟩ : ∃ T, trsL bs ps kf wrg pa = T := ⟨_, rfl⟩
  obtain ⟨z, hz⟩ : ∃ T, askE bs ps kf wrg pa = T := ⟨_, rfl⟩
  rw [hT, hz] at htr
  rw [hT] at hle1 hend hlen hro
  rw [hz] at hend
  obtain ⟨m, hm⟩ : ∃ m, T.length = m := ⟨_, rfl⟩
  rw [hm] at hle1 hend
  have HM := Lib.hid hm
  have HLEN := Lib.hid hlen
  have HEND := Lib.hid hend
  obtain ⟨R, hR⟩ : ∃ R, restP bs ps kf wrg bar = R := ⟨_, rfl⟩
  rw [hR] at HEND ⊢
  replace htr := Lib.hid htr
  replace hwi := Lib.hid hwi
  replace hro := Lib.hid hro
  clear HB HP h3 hsm hle hpaE hT hz hm hR hlen hend hbl hpl
  go_enter Try.func32, Try.ntmps32
  go_upto_region 1 with (fail)
  go_name_world X hX
  have BX : Below w.heap.size w X := (al2 hX).1
  have zX : X.heap.size = w.heap.size + 2 := (al2 hX).2
  have P0 := (al2_0 hX).2.1
  have K1 := Lib.hid (by rw [← hX]; have h := Blk.new (w.alloc (.cells #[.slice Ab nb cb, .int .i64 kf, .slice Ap np cp, .int .i64 wrg] 25)) 52 #[.int .i64 0, .int .i64 0]; simp only [World.size_alloc] at h; exact h : Blk X (w.heap.size + 1) 52 #[.int .i64 0, .int .i64 0])
  have lX : w.heap.size < X.heap.size := by omega
  have lX1 : w.heap.size + 1 < X.heap.size := by omega
  clear hX
  go_region_held3 (fun w' => ∀ j, w'.cell? ⟨w.heap.size, j, none⟩ = #[Value.slice Ab nb cb, .int .i64 kf, .slice Ap np cp, .int .i64 wrg][j]?)
    (first | exact P0 | exact fun j => (kb3.cell (p := ⟨w.heap.size, j, none⟩) lX).trans (P0 j) | exact fun j => (kb.cell (p := ⟨w.heap.size, j, none⟩) lX).trans (P0 j) | go_keep)
    ((first | (go_at_call 34; refine (hwi.out _).mono ?_; (rintro e w5 ⟨rfl, hb5⟩); have kb : Below X.heap.size X w5 := Below.trans (by (repeat first | with_reducible assumption | with_reducible exact Below.refl _ _ | (with_reducible refine Below.alloc ?_ ?side _; case side => (first | omega | (with_reducible exact Below.size (by assumption)) | (simp; done) | (simp; omega))) | (with_reducible refine Below.setCell ?_ ?side _; case side => (first | omega | (with_reducible exact Below.size (by assumption)) | (simp; done) | (simp; omega))) | with_reducible refine Below.drew ?_ | with_reducible refine below_drewN ?_ _ | (with_reducible refine below_step (by assumption) ?side ?_; case side => (first | omega | (with_reducible exact Below.size (by assumption)) | (simp; done) | (simp; omega))))) (hb5.mono (by simp))) | (go_at_call 64; refine (htr.out _ (by (repeat first | with_reducible assumption | with_reducible exact Below.refl _ _ | (with_reducible refine Below.alloc ?_ ?side _; case side => (first | omega | (with_reducible exact Below.size (by assumption)) | (simp; done) | (simp; omega))) | (with_reducible refine Below.setCell ?_ ?side _; case side => (first | omega | (with_reducible exact Below.size (by assumption)) | (simp; done) | (simp; omega))) | with_reducible refine Below.drew ?_ | with_reducible refine below_drewN ?_ _ | (with_reducible refine below_step (by assumption) ?side ?_; case side => (first | omega | (with_reducible exact Below.size (by assumption)) | (simp; done) | (simp; omega)))))).mono ?_; (rintro e w6 ⟨A6, c6, hs6, rfl, hss, hb6, -⟩); have kb3 : Below X.heap.size X w6 := Below.trans kb (hb6.mono kb.size))))
  rw [HM.out] at hss
  have HSS := Lib.hid hss
  have z6 := kb3.size
  have KB := Lib.hid (BX.trans (kb3.mono BX.size))
  have C6 := Lib.hid (fun j => (kb3.cell (p := ⟨w.heap.size, j, none⟩) lX).trans (P0 j))
  have K16 := Lib.hid (K1.out.below kb3 lX1)
  have l6 : w.heap.size < w6.heap.size := by omega
  have l61 : w.heap.size + 1 < w6.heap.size := by omega
  clear hss P0 hs0
  rw [HM.out]
  go_wp2_with fail
  obtain ⟨W3, hW3⟩ : ∃ W3, w6.alloc (.cells #[.int .i64 0, .int .i64 0] 52) = W3 := ⟨_, rfl⟩
  rw [hW3]
  have K8 := Lib.hid (by rw [← hW3]; exact Blk.new w6 _ _ : Blk W3 w6.heap.size 52 #[.int .i64 0, .int .i64 0])
  have B3 : Below w6.heap.size w6 W3 := (al1 hW3).1
  clear hW3
  go_loopw [9] (fun i (wr : World) => ∃ (k : Nat) (lo hi : Int), k ≤ m ∧ i = .int .i64 k ∧ Hid (Blk wr w6.heap.size 52 #[.int .i64 lo, .int .i64 hi]) ∧ Hid (RsInv (fun l => rsB bs ps kf l bar.toNat) T k lo hi) ∧ Below w6.heap.size w6 wr) (fun i _ => m - (intOf i).toNat)
  case atStart => exact ⟨0, 0, 0, by omega, rfl, K8, Lib.hid (.inl ⟨rfl, rfl, rfl⟩), B3⟩
  case round =>
    obtain ⟨k, lo, hi, hk, rfl, HK, HI, hb⟩ := hrel
    have zb := hb.size
    have cc := fun j => (hb.cell (p := ⟨w.heap.size, j, none⟩) l6).trans (C6.out j)
    have hbw : Below w.heap.size w wr := KB.out.trans (hb.mono KB.out.size)
    have m0 : w.heap.size < wr.heap.size := by omega
    by_cases hlt : k < m
    · have hqB : decide ((k : Int) < m) = true := by simp; omega
      have hmem := lAt_mem (L := T) (k := k) (by rw [HM.out]; exact hlt)
      obtain ⟨b1, o1, rfl, hb1, x1, i1⟩ := (HSS.out.later hb).get hlt
      rw [xAt_map] at i1
      have hll := HLEN.out _ hmem
      have hst := fun h0 => HI.out.step (k := k) h0
      have hs1 : k = 0 → RsInv (fun l => rsB bs ps kf l bar.toNat) T (k + 1) (rsB bs ps kf (lAt T k) bar.toNat) (rsB bs ps kf (lAt T k) bar.toNat) := fun e => by subst e; exact RsInv.first
      obtain ⟨l, hl⟩ : ∃ l, lAt T k = l := ⟨_, rfl⟩
      obtain ⟨h, hh⟩ : ∃ h, hAt hs6 k = h := ⟨_, rfl⟩
      rw [hl] at i1 hll hmem hst hs1
      rw [hh] at x1 i1
      have hnn : h.n = np := by rw [← hll, ← toI_len]; exact i1.1.symm
      rw [hnn] at i1 x1
      have hw := fun V hV => hro.out h.A h.c l V hmem (hbw.trans (hV.mono hbw.size)) (i1.later hV)
      obtain ⟨g, hg⟩ : ∃ g, rsB bs ps kf l bar.toNat = g := ⟨_, rfl⟩
      try simp only at hst
      rw [hg] at hw hst hs1
      have HW2 : Hid (∀ V, Below wr.heap.size wr V → Calls Try.prog 51 #[.agg #[.slice Ab nb cb, .int .i64 kf, .slice Ap np cp, .int .i64 wrg], .slice h.A np h.c, .int .i64 bar] V fun e V' => e = .returned (.int .i64 g) ∧ Below V.heap.size V V') := Lib.hid hw
      have HST := Lib.hid hst
      have HS1 := Lib.hid hs1
      clear hl hh hg hmem hw i1 hnn hll hst hs1 HI
      go_upto_region 6 with (fail)
      have hcq := fun p : Regrown => (bcell (below_regrown wr p.d p.os)).1
      refine wp_region_quiet_below (by kernel_rfl) (by kernel_rfl) ?_
      repeat (go_big_quiet_step ((go_at_call 51; exact Calls.regrown_of (HW2.out _ (below_regrown _ _ _)))))
      refine wpQuiet_nil ?_
      intro wq hq
      obtain ⟨pq, hq⟩ := hq
      have hbq : Below wr.heap.size wr wq := by rw [hq]; exact below_regrown _ _ _
      clear hq hcq pq
      obtain ⟨hcq, hfq⟩ := bcell hbq
      have zq := hbq.size
      have KQ := Lib.hid (HK.out.below hbq HK.out.lt)
      have kq := KQ.out.cell
      have fq := KQ.out.frozen
      have lq := KQ.out.lt
      clear HK HW2 x1
      by_cases hk0 : k = 0
      · have q0 : ((k : Int) == 0) = true := by rw [beq_iff_eq]; omega
        have HN := Lib.hid (HS1.out hk0)
        clear hk0 HS1 HST
        go_upto_region 9 with (fail)
        go_name_world Wn hWn
        have KN : Hid (Blk Wn w6.heap.size 52 #[.int .i64 g, .int .i64 g]) := Lib.hid (by rw [← hWn]; have h := (KQ.out.set_ 0 (.int .i64 g)).set_ 1 (.int .i64 g); simpa using h)
        have bn : Below w6.heap.size w6 Wn := by
          rw [← hWn]
          exact ((hb.trans (hbq.mono zb)).setCell (Nat.le_refl _) _).setCell (Nat.le_refl _) _
        have kn := KN.out.cell
        have fn := KN.out.frozen
        have e1 : min g g = g := Int.min_self g
        have e2 : max g g = g := Int.max_self g
        clear hWn kq fq cc hcq hfq
        go_wp2_with fail
        go_roundw
        case rel => exact ⟨k + 1, g, g, by omega, by go_num, Lib.hid (by have h := (KN.out.set_ 0 (.int .i64 g)).set_ 1 (.int .i64 g); simpa using h), HN, (bn.setCell (Nat.le_refl _) _).setCell (Nat.le_refl _) _⟩
        case measure => simp [intOf]; omega
      · have q0 : ((k : Int) == 0) = false := by rw [beq_eq_false_iff_ne]; omega
        have hN := HST.out hk0
        obtain ⟨lo2, e1⟩ : ∃ v, min lo g = v := ⟨_, rfl⟩
        obtain ⟨hi2, e2⟩ : ∃ v, max hi g = v := ⟨_, rfl⟩
        rw [e1, e2] at hN
        have HN := Lib.hid hN
        clear hk0 HS1 HST hN cc hcq hfq
        go_wp2_with fail
        go_roundw
        case rel => exact ⟨k + 1, lo2, hi2, by omega, by go_num, Lib.hid (by have h := (KQ.out.set_ 0 (.int .i64 lo2)).set_ 1 (.int .i64 hi2); simpa using h), HN, ((hb.trans (hbq.mono zb)).setCell (Nat.le_refl _) _).setCell (Nat.le_refl _) _⟩
        case measure => simp [intOf]; omega
    · obtain rfl : k = m := by omega
      have hqB : decide (((k : Nat) : Int) < k) = false := by simp
      have hE := Lib.hid (HEND.out lo hi HI.out)
      have kq := HK.out.cell
      have c4 := fun j => (hb.cell (p := ⟨w.heap.size + 1, j, none⟩) l61).trans (K16.out.cell j)
      have f4 := fun j => (hb.frozen (p := ⟨w.heap.size + 1, j, none⟩) l61).trans (K16.out.frozen j)
      have K1r := K16.out.below hb l61
      clear HI HEND
      go_wp2_with fail
      have d1 := ((K1r.set_ 0 (.int .i64 lo)).set_ 1 (.int .i64 hi)).cell 0
      have d2 := ((K1r.set_ 0 (.int .i64 lo)).set_ 1 (.int .i64 hi)).cell 1
      simp at d1 d2
      exact bodyPost_ret (v := .tuple #[.agg #[.int .i64 lo, .int .i64 hi], .int .i64 z]) (by simp [results, Try.results32, go_sem, d1, d2]) rfl ⟨by rw [hE.out], by (repeat first | with_reducible assumption | with_reducible exact Below.refl _ _ | (with_reducible refine Below.alloc ?_ ?side _; case side => (first | omega | (with_reducible exact Below.size (by assumption)) | (simp; done) | (simp; omega))) | (with_reducible refine Below.setCell ?_ ?side _; case side => (first | omega | (with_reducible exact Below.size (by assumption)) | (simp; done) | (simp; omega))) | with_reducible refine Below.drew ?_ | with_reducible refine below_drewN ?_ _ | (with_reducible refine below_step (by assumption) ?side ?_; case side => (first | omega | (with_reducible exact Below.size (by assumption)) | (simp; done) | (simp; omega))))⟩
end

end Go.Proofs.Ytmopnbijfcamjaa
