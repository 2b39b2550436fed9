/- Alike and Room of the specification (layer 1). -/
import Derived.Handy
import Derived.Test.YtmopnbijfcamjaaRf5
namespace Go.Proofs.Ytmopnbijfcamjaa
open Go.RowKit
open Go.Sort (grow)
set_option linter.unusedVariables false

theorem cnt_lAt {p : List Nat → Bool} {T : List (List Nat)} {k : Nat} (h : k < T.length) : cntL p T (k + 1) = cntL p T k + (bif p (lAt T k) then 1 else 0) :=
  cntL_succ (by unfold lAt; rw [List.getD_eq_getElem?_getD, List.getElem?_eq_getElem h]; rfl)
theorem trs_of {bs : List Br} {ps : List Pc} {kf wr : Int} {is : Bool} (h : askE bs ps kf wr is = 0) : is = true ∧ ckS bs ps kf wr = true ∧ trsL bs ps kf wr is = trL bs ps kf wr ∧ trL bs ps kf wr ≠ [] := by
  obtain ⟨hc, hi, -⟩ := askE_0 h
  subst hi
  refine ⟨rfl, hc, trs_ok hc, fun e => ?_⟩
  rw [askE_ok hc, if_pos e] at h
  cases h
section
variable (Ab Ap : Option Addr) (nb cb np cp : Nat) (kf wrg : Int) (bs : List Br) (ms : List Pm) (ps : List Pc) (w : World)
set_option maxRecDepth 100000 in
set_option maxHeartbeats 3200000 in
theorem refAlike_c (a c : Int) (h1 : nb ≤ 40) (h2 : np ≤ 40) (h3 : ∀ k, k < np → (pcAt ps k).hs.length ≤ 40) (hsm : ckS bs ps kf wrg = true → nb ≤ 4 ∧ np ≤ 5) (HB : BrsAt w Ab nb bs) (HP : PcsAt w Ap np ms ps) :
    Calls Try.prog 30 #[.agg #[.slice Ab nb cb, .int .i64 kf, .slice Ap np cp, .int .i64 wrg], .int .i64 a, .int .i64 c] w fun e w' => e = .returned (.tuple #[.int .i64 (alikeP bs ps kf wrg a c).1, .int .i64 (alikeP bs ps kf wrg a c).2]) ∧ Below w.heap.size w w' := by
  have HBI := Lib.hid HB
  have HPI := Lib.hid HP
  have hbl := HB.1
  have hpl := HP.pl
  have htr : ∀ is V, Below w.heap.size w V → Calls Try.prog 64 #[.agg #[.slice Ab nb cb, .int .i64 kf, .slice Ap np cp, .int .i64 wrg], .bool is] V (TrsRet (trsL bs ps kf wrg is) (askE bs ps kf wrg is) V) := fun is V hV => reftruths_c Ab Ap nb cb np cp kf wrg bs ms ps V is h1 h2 h3 hsm (HB.later hV) (HP.later hV)
  have hle : ∀ is, (trsL bs ps kf wrg is).length ≤ 1024 := fun is => by
    rcases Nat.eq_zero_or_pos (trsL bs ps kf wrg is).length with e | e
    · omega
    · have hm := lAt_mem e
      obtain ⟨hc, -⟩ := trs_sub hm
      have := hsm hc
      unfold trsL at e hm ⊢
      cases eq : (askE bs ps kf wrg is == 0)
      · simp
      · exact trL_le (by rw [hbl]; omega) (by rw [hpl]; omega)
  have hpa : ∀ V, Calls Try.prog 14 #[.agg #[.slice Ab nb cb, .int .i64 kf, .slice Ap np cp, .int .i64 wrg], .int .i64 a] V fun e V' => e = .returned (.bool (wi a 0 ((np : Int) - 1))) ∧ Below V.heap.size V V' := fun V => IsPiece_c Ab Ap nb cb np cp kf wrg a V h2
  have hpc : ∀ V, Calls Try.prog 14 #[.agg #[.slice Ab nb cb, .int .i64 kf, .slice Ap np cp, .int .i64 wrg], .int .i64 c] V fun e V' => e = .returned (.bool (wi c 0 ((np : Int) - 1))) ∧ Below V.heap.size V V' := fun V => IsPiece_c Ab Ap nb cb np cp kf wrg c V h2
  have hR : alikeP bs ps kf wrg a c = bif askE bs ps kf wrg (wi a 0 ((np : Int) - 1) && wi c 0 ((np : Int) - 1)) == 0 then (knP (fun x => iAt x.of a.toNat == iAt x.of c.toNat) (swA bs ps kf wrg), 0) else (0, askE bs ps kf wrg (wi a 0 ((np : Int) - 1) && wi c 0 ((np : Int) - 1))) := by unfold alikeP; rw [hpl]
  by_cases hz : askE bs ps kf wrg (wi a 0 ((np : Int) - 1) && wi c 0 ((np : Int) - 1)) = 0
  · obtain ⟨hi, hc, ht, hne⟩ := trs_of hz
    have ea : wi a 0 ((np : Int) - 1) = true := by cases e : wi a 0 ((np : Int) - 1) <;> rw [e] at hi <;> first | rfl | cases hi
    have ec : wi c 0 ((np : Int) - 1) = true := by cases e : wi c 0 ((np : Int) - 1) <;> rw [e, ea] at hi <;> first | rfl | cases hi
    rw [hi] at hz ht
    replace htr := htr true
    have hle1 := hle true
    rw [hz, ht] at htr
    rw [ht] at hle1
    rw [ea] at hpa
    rw [ec] at hpc
    have ra := wi_true.1 ea
    have rc := wi_true.1 ec
    obtain ⟨an, rfl⟩ := Int.eq_ofNat_of_zero_le ra.1
    obtain ⟨cn, rfl⟩ := Int.eq_ofNat_of_zero_le rc.1
    have ha : an < np := by omega
    have hcc : cn < np := by omega
    rw [alike_ok hc (by rw [hpl]; exact ha) (by rw [hpl]; exact hcc), if_neg hne, ← knI_knP hne]
    have hlen : ∀ l ∈ trL bs ps kf wrg, l.length = np := fun l hl => by rw [(trL_mem.1 hl).1.1, hpl]
    obtain ⟨T, hT⟩ : ∃ T, trL bs ps kf wrg = T := ⟨_, rfl⟩
    rw [hT] at htr hlen hle1 ⊢
    obtain ⟨m, hm⟩ : ∃ m, T.length = m := ⟨_, rfl⟩
    rw [hm] at hle1
    obtain ⟨R, hR2⟩ : ∃ R, knI (T.countP (fun l => gN l an == gN l cn) : Nat) (T.length : Nat) = R := ⟨_, rfl⟩
    have HR : Hid (knI ((cntL (fun l => gN l an == gN l cn) T m : Nat) : Int) m = R) := Lib.hid (by rw [← hR2, ← hm]; unfold cntL; rw [List.take_length])
    rw [hR2]
    have HM := Lib.hid hm
    have HLEN := Lib.hid hlen
    replace htr := Lib.hid htr
    replace hpa := Lib.hid hpa
    replace hpc := Lib.hid hpc
    clear HB HP h3 hsm hle hR hi hc ht hne ea ec hT hm hR2 hlen hz ra rc
    go_enter Try.func30, Try.ntmps30
    go_upto_region 1 with (fail)
    go_name_world X hX
    have BX : Below w.heap.size w X := (al1 hX).1
    have zX : X.heap.size = w.heap.size + 1 := (al1 hX).2
    have P0 := (al1_0 hX).2.1
    have lX : w.heap.size < X.heap.size := by omega
    clear hX
    go_region_held3 (fun w' => ∀ j, w'.cell? ⟨w.heap.size, j, none⟩ = #[Value.slice Ab nb cb, .int .i64 kf, .slice Ap np cp, .int .i64 wrg][j]?)
      (first | exact P0 | exact fun j => (kb3.cell (p := ⟨w.heap.size, j, none⟩) lX).trans (P0 j) | exact fun j => (kb2.cell (p := ⟨w.heap.size, j, none⟩) lX).trans (P0 j) | exact fun j => (kb.cell (p := ⟨w.heap.size, j, none⟩) lX).trans (P0 j) | go_keep)
      ((first | (go_at_call 14; with_reducible refine (hpa.out _).mono ?_; (rintro e w5 ⟨rfl, hb5⟩); have kb : Below X.heap.size X w5 := Below.trans (by (repeat first | with_reducible assumption | with_reducible exact Below.refl _ _ | (with_reducible refine Below.alloc ?_ ?side _; case side => (first | omega | (with_reducible exact Below.size (by assumption)) | (simp; done) | (simp; omega))) | (with_reducible refine Below.setCell ?_ ?side _; case side => (first | omega | (with_reducible exact Below.size (by assumption)) | (simp; done) | (simp; omega))) | with_reducible refine Below.drew ?_ | with_reducible refine below_drewN ?_ _ | (with_reducible refine below_step (by assumption) ?side ?_; case side => (first | omega | (with_reducible exact Below.size (by assumption)) | (simp; done) | (simp; omega))))) (hb5.mono (by simp))) | (go_at_call 14; with_reducible refine (hpc.out _).mono ?_; (rintro e w5' ⟨rfl, hb5'⟩); have kb2 : Below X.heap.size X w5' := Below.trans kb (hb5'.mono kb.size)) | (go_at_call 64; refine (htr.out _ (by (repeat first | with_reducible assumption | with_reducible exact Below.refl _ _ | (with_reducible refine Below.alloc ?_ ?side _; case side => (first | omega | (with_reducible exact Below.size (by assumption)) | (simp; done) | (simp; omega))) | (with_reducible refine Below.setCell ?_ ?side _; case side => (first | omega | (with_reducible exact Below.size (by assumption)) | (simp; done) | (simp; omega))) | with_reducible refine Below.drew ?_ | with_reducible refine below_drewN ?_ _ | (with_reducible refine below_step (by assumption) ?side ?_; case side => (first | omega | (with_reducible exact Below.size (by assumption)) | (simp; done) | (simp; omega)))))).mono ?_; (rintro e w6 ⟨A6, c6, hs6, rfl, hss, hb6, -⟩); (first | have kb3 : Below X.heap.size X w6 := Below.trans kb2 (hb6.mono kb2.size) | have kb3 : Below X.heap.size X w6 := Below.trans kb (hb6.mono kb.size)))))
    rw [HM.out] at hss
    have HSS := Lib.hid hss
    have z6 := kb3.size
    have KB := Lib.hid (BX.trans (kb3.mono BX.size))
    clear hss P0
    rw [HM.out]
    go_wp2_with fail
    go_loopw [10, 11] (fun v i (wr : World) => ∃ (k : Nat), k ≤ m ∧ i = .int .i64 k ∧ v = .int .i64 (cntL (fun l => gN l an == gN l cn) T k : Nat) ∧ Below w6.heap.size w6 wr) (fun _ i _ => m - (intOf i).toNat)
    case atStart => exact ⟨0, by omega, rfl, by rw [cntL_0]; rfl, Below.refl _ _⟩
    case round =>
      obtain ⟨k, hk, rfl, rfl, hb⟩ := hrel
      have zb := hb.size
      have hcl : cntL (fun l => gN l an == gN l cn) T k ≤ k := by
        unfold cntL
        exact Nat.le_trans List.countP_le_length (by rw [List.length_take]; omega)
      by_cases hlt : k < m
      · have hqB : decide ((k : Int) < m) = true := by simp; omega
        have hcs := cnt_lAt (p := fun l => gN l an == gN l cn) (T := T) (k := k) (by rw [HM.out]; exact hlt)
        obtain ⟨b1, o1, rfl, hb1, x1, i1⟩ := (HSS.out.later hb).get hlt
        rw [xAt_map] at i1
        have hll := HLEN.out _ (lAt_mem (L := T) (k := k) (by rw [HM.out]; exact hlt))
        obtain ⟨C, hC⟩ : ∃ C, cntL (fun l => gN l an == gN l cn) T k = C := ⟨_, rfl⟩
        rw [hC] at hcs hcl ⊢
        obtain ⟨l, hl⟩ : ∃ l, lAt T k = l := ⟨_, rfl⟩
        obtain ⟨h, hh⟩ : ∃ h, hAt hs6 k = h := ⟨_, rfl⟩
        rw [hl] at i1 hcs hll
        rw [hh] at x1 i1
        have hnn : h.n = np := by rw [← hll, ← toI_len]; exact i1.1.symm
        obtain ⟨hA, hN, hC2⟩ := h
        simp only at hnn
        subst hnn
        obtain ⟨g, o, e, hg, y1⟩ := i1.get ha
        simp only at e
        subst e
        obtain ⟨_, _, e, -, y2⟩ := i1.get hcc
        cases e
        rw [toI_at] at y1 y2
        have j1 : decide ((an : Int) < hN) = true := by simp; omega
        have j2 : decide ((cn : Int) < hN) = true := by simp; omega
        obtain ⟨va, hva⟩ : ∃ v, gN l an = v := ⟨_, rfl⟩
        obtain ⟨vc, hvc⟩ : ∃ v, gN l cn = v := ⟨_, rfl⟩
        rw [hva] at y1 hcs
        rw [hvc] at y2 hcs
        clear hl hh hva hvc i1 hll hC
        cases eq : (va == vc)
        · have q1 : ((va : Int) == (vc : Int)) = false := by rw [beq_eq_false_iff_ne] at eq ⊢; omega
          rw [eq] at hcs
          have HCS := Lib.hid hcs
          clear hcs eq
          go_upto_region 8 with (fail)
          have hcq := fun p : Regrown => (bcell (below_regrown wr p.d p.os)).1
          refine wp_region_quiet_below (by kernel_rfl) (by kernel_rfl) ?_
          repeat (go_big_quiet_step ((fail)))
          refine wpQuiet_nil ?_
          intro wq hq
          obtain ⟨pq, hq⟩ := hq
          have hbq : Below wr.heap.size wr wq := by rw [hq]; exact below_regrown _ _ _
          clear hq hcq pq
          obtain ⟨hcq, hfq⟩ := bcell hbq
          have zq := hbq.size
          go_wp2_with fail
          go_roundw
          case rel => exact ⟨k + 1, by omega, by go_num, by rw [HCS.out]; rfl, by (repeat first | with_reducible assumption | with_reducible exact Below.refl _ _ | (with_reducible refine Below.alloc ?_ ?side _; case side => (first | omega | (with_reducible exact Below.size (by assumption)) | (simp; done) | (simp; omega))) | (with_reducible refine Below.setCell ?_ ?side _; case side => (first | omega | (with_reducible exact Below.size (by assumption)) | (simp; done) | (simp; omega))) | with_reducible refine Below.drew ?_ | with_reducible refine below_drewN ?_ _ | (with_reducible refine below_step (by assumption) ?side ?_; case side => (first | omega | (with_reducible exact Below.size (by assumption)) | (simp; done) | (simp; omega))))⟩
          case measure => simp [intOf]; omega
        · have q1 : ((va : Int) == (vc : Int)) = true := by rw [beq_iff_eq] at eq ⊢; omega
          rw [eq] at hcs
          have HCS := Lib.hid hcs
          clear hcs eq
          go_upto_region 8 with (fail)
          have hcq := fun p : Regrown => (bcell (below_regrown wr p.d p.os)).1
          refine wp_region_quiet_below (by kernel_rfl) (by kernel_rfl) ?_
          repeat (go_big_quiet_step ((fail)))
          refine wpQuiet_nil ?_
          intro wq hq
          obtain ⟨pq, hq⟩ := hq
          have hbq : Below wr.heap.size wr wq := by rw [hq]; exact below_regrown _ _ _
          clear hq hcq pq
          obtain ⟨hcq, hfq⟩ := bcell hbq
          have zq := hbq.size
          go_wp2_with fail
          go_roundw
          case rel => exact ⟨k + 1, by omega, by go_num, by rw [HCS.out]; go_num, by (repeat first | with_reducible assumption | with_reducible exact Below.refl _ _ | (with_reducible refine Below.alloc ?_ ?side _; case side => (first | omega | (with_reducible exact Below.size (by assumption)) | (simp; done) | (simp; omega))) | (with_reducible refine Below.setCell ?_ ?side _; case side => (first | omega | (with_reducible exact Below.size (by assumption)) | (simp; done) | (simp; omega))) | with_reducible refine Below.drew ?_ | with_reducible refine below_drewN ?_ _ | (with_reducible refine below_step (by assumption) ?side ?_; case side => (first | omega | (with_reducible exact Below.size (by assumption)) | (simp; done) | (simp; omega))))⟩
          case measure => simp [intOf]; omega
      · obtain rfl : k = m := by omega
        have hqB : decide (((k : Nat) : Int) < k) = false := by simp
        have hkn := fun V => Known_c ((cntL (fun l => gN l an == gN l cn) T k : Nat) : Int) (k : Int) V
        rw [HR.out] at hkn
        replace hkn := Lib.hid hkn
        go_wp2_with (go_at_call 70; refine (hkn.out _).mono ?_; rintro e w' ⟨rfl, rfl⟩)
        exact bodyPost_ret (v := .tuple #[.int .i64 R, .int .i64 0]) (by simp [results, Try.results30, go_sem]) rfl ⟨rfl, KB.out.trans (hb.mono KB.out.size)⟩
  · have hz0 := hz
    rw [hR, show (askE bs ps kf wrg (wi a 0 ((np : Int) - 1) && wi c 0 ((np : Int) - 1)) == 0) = false by rw [beq_eq_false_iff_ne]; exact hz0]
    obtain ⟨pa, hpaE⟩ : ∃ p, wi a 0 ((np : Int) - 1) = p := ⟨_, rfl⟩
    obtain ⟨pc, hpcE⟩ : ∃ p, wi c 0 ((np : Int) - 1) = p := ⟨_, rfl⟩
    rw [hpaE] at hpa hz0 ⊢
    rw [hpcE] at hpc hz0 ⊢
    have hte : ∀ V, Below w.heap.size w V → Calls Try.prog 64 #[.agg #[.slice Ab nb cb, .int .i64 kf, .slice Ap np cp, .int .i64 wrg], .bool (pa && pc)] V fun e V' => e = .returned (.tuple #[.slice none 0 0, .int .i64 (askE bs ps kf wrg (pa && pc))]) ∧ Below V.heap.size V V' := fun V hV => (htr (pa && pc) V hV).mono fun e W' h => h.err hz0
    obtain ⟨z, hz3⟩ : ∃ z, askE bs ps kf wrg (pa && pc) = z := ⟨_, rfl⟩
    rw [hz3] at hte hz0 ⊢
    have hz0B : (z != 0) = true := by simpa using hz0
    clear HB HP h3 hsm hle hR hpaE hpcE hz hz3 hz0 htr
    replace hte := Lib.hid hte
    replace hpa := Lib.hid hpa
    replace hpc := Lib.hid hpc
    cases pa <;> cases pc
    all_goals
      go_enter Try.func30, Try.ntmps30
      go_upto_region 1 with (fail)
      go_name_world X hX
      have BX : Below w.heap.size w X := (al1 hX).1
      have zX : X.heap.size = w.heap.size + 1 := (al1 hX).2
      have P0 := (al1_0 hX).2.1
      have lX : w.heap.size < X.heap.size := by omega
      clear hX
      have hcq := fun p : Regrown => (bcell (below_regrown X p.d p.os)).1
      refine wp_region_quiet_below (by kernel_rfl) (by kernel_rfl) ?_
      repeat (go_big_quiet_step ((first | (go_at_call 14; first | with_reducible exact Calls.regrown_of (hpa.out _) | with_reducible exact Calls.regrown_of (hpc.out _)) | (go_at_call 64; exact Calls.regrown_of (hte.out _ (BX.trans ((below_regrown _ _ _).mono BX.size)))))))
      refine wpQuiet_nil ?_
      intro wq hq
      obtain ⟨pq, hq⟩ := hq
      have hbq : Below X.heap.size X wq := by rw [hq]; exact below_regrown _ _ _
      clear hq hcq pq
      obtain ⟨hcq, hfq⟩ := bcell hbq
      have zq := hbq.size
      go_wp2_with fail
      exact bodyPost_ret (v := .tuple #[.int .i64 0, .int .i64 z]) (by simp [results, Try.results30, go_sem]) rfl ⟨rfl, by (repeat first | with_reducible assumption | with_reducible exact Below.refl _ _ | (with_reducible refine Below.alloc ?_ ?side _; case side => (first | omega | (with_reducible exact Below.size (by assumption)) | (simp; done) | (simp; omega))) | (with_reducible refine Below.setCell ?_ ?side _; case side => (first | omega | (with_reducible exact Below.size (by assumption)) | (simp; done) | (simp; omega))) | with_reducible refine Below.drew ?_ | with_reducible refine below_drewN ?_ _ | (with_reducible refine below_step (by assumption) ?side ?_; case side => (first | omega | (with_reducible exact Below.size (by assumption)) | (simp; done) | (simp; omega))))⟩
end

end Go.Proofs.Ytmopnbijfcamjaa
