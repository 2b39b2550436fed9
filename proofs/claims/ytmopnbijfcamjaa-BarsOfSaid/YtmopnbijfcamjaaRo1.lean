/- Of of the specification (layer 1). -/
import Derived.Handy
import Derived.Test.YtmopnbijfcamjaaRf9
namespace Go.Proofs.Ytmopnbijfcamjaa
open Go.RowKit
open Go.Sort (grow)
set_option linter.unusedVariables false

theorem upto_yes {P : Nat → Bool} {k : Nat} (h : P k = true) : uptoL (k + 1) P = uptoL k P ++ [(k : Int)] := by
  unfold uptoL
  rw [List.range_succ, List.filter_append, List.map_append]
  simp [h]
theorem upto_no {P : Nat → Bool} {k : Nat} (h : P k = false) : uptoL (k + 1) P = uptoL k P := by
  unfold uptoL
  rw [List.range_succ, List.filter_append, List.map_append]
  simp [h]
theorem upto_le {P : Nat → Bool} {k : Nat} : (uptoL k P).length ≤ k := by
  unfold uptoL
  rw [List.length_map]
  exact Nat.le_trans (List.length_filter_le _ _) (by simp)
theorem any_lAt {T : List (List Nat)} {p : List Nat → Bool} : T.any p = anyN T.length fun j => p (lAt T j) := by
  rw [Bool.eq_iff_iff, anyN_ex, List.any_eq_true]
  constructor
  · rintro ⟨x, hx, hp⟩
    obtain ⟨i, hi, rfl⟩ := List.getElem_of_mem hx
    have e : lAt T i = T[i] := by unfold lAt; rw [List.getD_eq_getElem?_getD, List.getElem?_eq_getElem hi]; rfl
    exact ⟨i, hi, by rw [e]; exact hp⟩
  · rintro ⟨j, hj, hp⟩
    exact ⟨_, lAt_mem hj, hp⟩
/-- a slice of numbers, and an error -/
def IntsRet (L : List Int) (z : Int) (w : World) (e : Ending) (w' : World) : Prop := ∃ A c, e = .returned (.tuple #[.slice A L.length c, .int .i64 z]) ∧ IntsAt w' A L.length L ∧ Below w.heap.size w w'
section
variable (Ab Ap : Option Addr) (nb cb np cp : Nat) (kf wrg : Int) (bs : List Br) (ms : List Pm) (ps : List Pc) (w : World)
set_option maxRecDepth 100000 in
set_option maxHeartbeats 3200000 in
theorem refOf_c (a : Int) (h1 : nb ≤ 40) (h2 : np ≤ 40) (h3 : ∀ k, k < np → (pcAt ps k).hs.length ≤ 40) (hsm : ckS bs ps kf wrg = true → nb ≤ 4 ∧ np ≤ 5) (HB : BrsAt w Ab nb bs) (HP : PcsAt w Ap np ms ps) :
    Calls Try.prog 37 #[.agg #[.slice Ab nb cb, .int .i64 kf, .slice Ap np cp, .int .i64 wrg], .int .i64 a] w (IntsRet (ofP bs ps kf wrg a) (askE bs ps kf wrg (wi a 0 ((np : Int) - 1))) w) := by
  have HBI := Lib.hid HB
  have HPI := Lib.hid HP
  have hbl := HB.1
  have hpl := HP.pl
  have htr : ∀ is V, Below w.heap.size w V → Calls Try.prog 64 #[.agg #[.slice Ab nb cb, .int .i64 kf, .slice Ap np cp, .int .i64 wrg], .bool is] V (TrsRet (trsL bs ps kf wrg is) (askE bs ps kf wrg is) V) := fun is V hV => reftruths_c Ab Ap nb cb np cp kf wrg bs ms ps V is h1 h2 h3 hsm (HB.later hV) (HP.later hV)
  have hle : ∀ is, (trsL bs ps kf wrg is).length ≤ 1024 := fun is => by
    rcases Nat.eq_zero_or_pos (trsL bs ps kf wrg is).length with e | e
    · omega
    · have hm := lAt_mem e
      obtain ⟨hc, -⟩ := trs_sub hm
      have := hsm hc
      unfold trsL at e hm ⊢
      cases eq : (askE bs ps kf wrg is == 0)
      · simp
      · exact trL_le (by rw [hbl]; omega) (by rw [hpl]; omega)
  have hpa : ∀ V, Calls Try.prog 14 #[.agg #[.slice Ab nb cb, .int .i64 kf, .slice Ap np cp, .int .i64 wrg], .int .i64 a] V fun e V' => e = .returned (.bool (wi a 0 ((np : Int) - 1))) ∧ Below V.heap.size V V' := fun V => IsPiece_c Ab Ap nb cb np cp kf wrg a V h2
  by_cases hz : askE bs ps kf wrg (wi a 0 ((np : Int) - 1)) = 0
  · obtain ⟨hi, hc, ht, hne⟩ := trs_of hz
    rw [hi] at hz ht hpa ⊢
    rw [hz]
    replace htr := htr true
    have hle1 := hle true
    rw [hz, ht] at htr
    rw [ht] at hle1
    have ra := wi_true.1 hi
    obtain ⟨an, rfl⟩ := Int.eq_ofNat_of_zero_le ra.1
    have ha : an < np := by omega
    rw [of_ok hc hne (by rw [hpl]; exact ha), hbl]
    have hlen : ∀ l ∈ trL bs ps kf wrg, l.length = np := fun l hl => by rw [(trL_mem.1 hl).1.1, hpl]
    have hany := fun (j : Nat) => any_lAt (T := trL bs ps kf wrg) (p := fun l => gN l an == j)
    obtain ⟨T, hT⟩ : ∃ T, trL bs ps kf wrg = T := ⟨_, rfl⟩
    rw [hT] at htr hlen hle1 hany ⊢
    obtain ⟨m, hm⟩ : ∃ m, T.length = m := ⟨_, rfl⟩
    rw [hm] at hle1 hany
    obtain ⟨P, hP⟩ : ∃ P : Nat → Bool, (fun j => T.any fun l => gN l an == j) = P := ⟨_, rfl⟩
    have HPJ : Hid (∀ j, P j = anyN m fun i => gN (lAt T i) an == j) := Lib.hid fun j => by rw [← hP]; exact hany j
    rw [hP]
    have HM := Lib.hid hm
    have HLEN := Lib.hid hlen
    replace htr := Lib.hid htr
    replace hpa := Lib.hid hpa
    clear HB HP h3 hsm hle hi hc ht hne hT hm hlen hz ra hany hP
    go_enter Try.func37, Try.ntmps37
    go_upto_region 1 with (fail)
    go_name_world X hX
    have BX : Below w.heap.size w X := (al1 hX).1
    have zX : X.heap.size = w.heap.size + 1 := (al1 hX).2
    have P0 := (al1_0 hX).2.1
    have lX : w.heap.size < X.heap.size := by omega
    clear hX
    go_region_held3 (fun w' => ∀ j, w'.cell? ⟨w.heap.size, j, none⟩ = #[Value.slice Ab nb cb, .int .i64 kf, .slice Ap np cp, .int .i64 wrg][j]?)
      (first | exact P0 | exact fun j => (kb3.cell (p := ⟨w.heap.size, j, none⟩) lX).trans (P0 j) | exact fun j => (kb.cell (p := ⟨w.heap.size, j, none⟩) lX).trans (P0 j) | go_keep)
      ((first | (go_at_call 14; refine (hpa.out _).mono ?_; (rintro e w5 ⟨rfl, hb5⟩); have kb : Below X.heap.size X w5 := Below.trans (by (repeat first | with_reducible assumption | with_reducible exact Below.refl _ _ | (with_reducible refine Below.alloc ?_ ?side _; case side => (first | omega | (with_reducible exact Below.size (by assumption)) | (simp; done) | (simp; omega))) | (with_reducible refine Below.setCell ?_ ?side _; case side => (first | omega | (with_reducible exact Below.size (by assumption)) | (simp; done) | (simp; omega))) | with_reducible refine Below.drew ?_ | with_reducible refine below_drewN ?_ _ | (with_reducible refine below_step (by assumption) ?side ?_; case side => (first | omega | (with_reducible exact Below.size (by assumption)) | (simp; done) | (simp; omega))))) (hb5.mono (by simp))) | (go_at_call 64; refine (htr.out _ (by (repeat first | with_reducible assumption | with_reducible exact Below.refl _ _ | (with_reducible refine Below.alloc ?_ ?side _; case side => (first | omega | (with_reducible exact Below.size (by assumption)) | (simp; done) | (simp; omega))) | (with_reducible refine Below.setCell ?_ ?side _; case side => (first | omega | (with_reducible exact Below.size (by assumption)) | (simp; done) | (simp; omega))) | with_reducible refine Below.drew ?_ | with_reducible refine below_drewN ?_ _ | (with_reducible refine below_step (by assumption) ?side ?_; case side => (first | omega | (with_reducible exact Below.size (by assumption)) | (simp; done) | (simp; omega)))))).mono ?_; (rintro e w6 ⟨A6, c6, hs6, rfl, hss, hb6, -⟩); have kb3 : Below X.heap.size X w6 := Below.trans kb (hb6.mono kb.size))))
    rw [HM.out] at hss
    have HSS := Lib.hid hss
    have z6 := kb3.size
    have KB := Lib.hid (BX.trans (kb3.mono BX.size))
    have C6 := Lib.hid (fun j => (kb3.cell (p := ⟨w.heap.size, j, none⟩) lX).trans (P0 j))
    have l6 : w.heap.size < w6.heap.size := by omega
    have own0 := Lib.hid (World.ownsRow_nil w6 w6.heap.size 3 1)
    clear hss P0
    rw [HM.out]
    go_wp2_with fail
    go_loopw [8, 9] (fun v i (wr : World) => ∃ (k : Nat), k ≤ nb ∧ i = .int .i64 k ∧ Hid (wr.ownsRow w6.heap.size 3 1 v (uptoL k P).length ((uptoL k P).flatMap encI)) ∧ Below w6.heap.size w6 wr) (fun _ i _ => nb - (intOf i).toNat)
    case atStart => exact ⟨0, by omega, rfl, by rw [show uptoL 0 P = [] by rfl]; exact own0, Below.refl _ _⟩
    case round =>
      obtain ⟨k, hk, rfl, HO, hb⟩ := hrel
      have zb := hb.size
      have cc := fun j => (hb.cell (p := ⟨w.heap.size, j, none⟩) l6).trans (C6.out j)
      by_cases hlt : k < nb
      · have hqB : decide ((k : Int) < nb) = true := by simp; omega
        go_wp2_with fail
        clear cc hqB
        obtain ⟨wo, rfl⟩ : ∃ wo : World, wo = wr := ⟨_, rfl⟩
        obtain ⟨vo, hvo⟩ : ∃ v, u8 = v := ⟨_, rfl⟩
        rw [hvo] at HO ⊢
        clear hvo
        go_loopw [8, 10] (fun v i (wr : World) => ∃ (q : Nat), q ≤ m ∧ i = .int .i64 q ∧ v = vo ∧ Hid (∀ j, j < q → (gN (lAt T j) an == k) = false) ∧ wr = wo) (fun _ i _ => m - (intOf i).toNat)
        case atStart => exact ⟨0, by omega, rfl, rfl, fun j hj => absurd hj (by omega), rfl⟩
        case round =>
          obtain ⟨q, hq, rfl, rfl, HQ, rfl⟩ := hrel
          by_cases hlq : q < m
          · have hqC : decide ((q : Int) < m) = true := by simp; omega
            obtain ⟨b1, o1, rfl, hb1, x1, i1⟩ := (HSS.out.later hb).get hlq
            rw [xAt_map] at i1
            have hll := HLEN.out _ (lAt_mem (L := T) (k := q) (by rw [HM.out]; exact hlq))
            obtain ⟨h, hh⟩ : ∃ h, hAt hs6 q = h := ⟨_, rfl⟩
            rw [hh] at x1 i1
            have hnn : h.n = np := by rw [← hll, ← toI_len]; exact i1.1.symm
            obtain ⟨hA, hN, hC2⟩ := h
            simp only at hnn
            subst hnn
            obtain ⟨g, o, e, hg, y1⟩ := i1.get ha
            simp only at e
            subst e
            rw [toI_at] at y1
            have j1 : decide ((an : Int) < hN) = true := by simp; omega
            obtain ⟨va, hva⟩ : ∃ v, gN (lAt T q) an = v := ⟨_, rfl⟩
            rw [hva] at y1
            clear hh i1 hll
            cases eq : (va == k)
            · have q1 : ((va : Int) == (k : Int)) = false := by rw [beq_eq_false_iff_ne] at eq ⊢; omega
              have HE := Lib.hid (show (gN (lAt T q) an == k) = false by rw [hva]; exact eq)
              clear eq hva
              go_wp2_with fail
              go_roundw
              case rel => exact ⟨q + 1, by omega, by go_num, rfl, fun j hj => by
                rcases Nat.lt_succ_iff_lt_or_eq.1 hj with h' | rfl
                · exact HQ.out j h'
                · exact HE.out, trivial⟩
              case measure => simp [intOf]; omega
            · have q1 : ((va : Int) == (k : Int)) = true := by rw [beq_iff_eq] at eq ⊢; omega
              have HU := Lib.hid (upto_yes (P := P) (k := k) (by rw [HPJ.out]; exact anyN_yes hlq (by rw [hva]; exact eq)))
              have hul := upto_le (P := P) (k := k)
              clear eq hva
              go_wp2_with (at_builtin; go_must (refine wpList_append_T _ (d := (0 : Int)) rfl (.tmp 44) (.tmp 46) _ rfl w6.heap.size _ 1 8 intE encI_len encI_one u8 u8.ownBlock (uptoL k P).length (uptoL k P) rfl rfl ?_ _ 1 _ [(k : Int)] rfl ?_ ?_ ?_ ?_; (exact HO.out.alloc _); (exact sl_new encI_len rfl rfl rfl); (focus omega); (focus (simp only [World.size_alloc]; omega)); (intro v' w7 hown7 hg7 hat7; have hb7 : Below w6.heap.size w6 w7 := (Below.grown (by (repeat first | with_reducible assumption | with_reducible exact Below.refl _ _ | (with_reducible refine Below.alloc ?_ ?side _; case side => (first | omega | (with_reducible exact Below.size (by assumption)) | (simp; done) | (simp; omega))) | (with_reducible refine Below.setCell ?_ ?side _; case side => (first | omega | (with_reducible exact Below.size (by assumption)) | (simp; done) | (simp; omega))) | with_reducible refine Below.drew ?_ | with_reducible refine below_drewN ?_ _ | (with_reducible refine below_step (by assumption) ?side ?_; case side => (first | omega | (with_reducible exact Below.size (by assumption)) | (simp; done) | (simp; omega))))) hg7 (by simp only [World.size_alloc]; omega) (own_ge HO.out)); have HO7 := Lib.hid hown7; clear hown7 hg7 hat7)))
              go_roundw
              case rel => exact ⟨k + 1, by omega, by go_num, by rw [HU.out, List.length_append]; exact HO7, hb7⟩
              case measure => simp [intOf]; omega
          · obtain rfl : q = m := by omega
            have hqC : decide (((q : Nat) : Int) < q) = false := by simp
            have HU := Lib.hid (upto_no (P := P) (k := k) (by rw [HPJ.out]; exact anyN_no HQ.out))
            clear HQ
            go_wp2_with fail
            go_roundw
            case rel => exact ⟨k + 1, by omega, by go_num, by rw [HU.out]; exact HO, hb⟩
            case measure => simp [intOf]; omega
      · obtain rfl : k = nb := by omega
        have hqB : decide (((k : Nat) : Int) < k) = false := by simp
        obtain ⟨A3, c3, rfl, -, hs3⟩ := SlAt.of_own (d := (0 : Int)) encI_len HO.out rfl
        have HS3 := Lib.hid (ints_iff.2 hs3)
        clear hs3 HO
        go_wp2_with fail
        exact bodyPost_ret (v := .tuple #[.slice A3 (uptoL k P).length c3, .int .i64 0]) (by simp [results, Try.results37, go_sem]) rfl (by show IntsRet (uptoL k P) 0 w _ _; exact ⟨A3, c3, rfl, HS3.out, KB.out.trans (hb.mono KB.out.size)⟩)
  · have hz0 := hz
    have hR : ofP bs ps kf wrg a = [] := by unfold ofP; rw [hpl, show (askE bs ps kf wrg (wi a 0 ((np : Int) - 1)) == 0) = false by rw [beq_eq_false_iff_ne]; exact hz0]; rfl
    rw [hR]
    obtain ⟨pa, hpaE⟩ : ∃ p, wi a 0 ((np : Int) - 1) = p := ⟨_, rfl⟩
    rw [hpaE] at hpa hz0 ⊢
    have hte : ∀ V, Below w.heap.size w V → Calls Try.prog 64 #[.agg #[.slice Ab nb cb, .int .i64 kf, .slice Ap np cp, .int .i64 wrg], .bool pa] V fun e V' => e = .returned (.tuple #[.slice none 0 0, .int .i64 (askE bs ps kf wrg pa)]) ∧ Below V.heap.size V V' := fun V hV => (htr pa V hV).mono fun e W' h => h.err hz0
    obtain ⟨z, hz3⟩ : ∃ z, askE bs ps kf wrg pa = z := ⟨_, rfl⟩
    rw [hz3] at hte hz0 ⊢
    have hz0B : (z != 0) = true := by simpa using hz0
    clear HB HP h3 hsm hle hR hpaE hz hz3 hz0 htr
    replace hte := Lib.hid hte
    replace hpa := Lib.hid hpa
    go_enter Try.func37, Try.ntmps37
    go_upto_region 1 with (fail)
    go_name_world X hX
    have BX : Below w.heap.size w X := (al1 hX).1
    have zX : X.heap.size = w.heap.size + 1 := (al1 hX).2
    have P0 := (al1_0 hX).2.1
    have lX : w.heap.size < X.heap.size := by omega
    clear hX
    have hcq := fun p : Regrown => (bcell (below_regrown X p.d p.os)).1
    refine wp_region_quiet_below (by kernel_rfl) (by kernel_rfl) ?_
    repeat (go_big_quiet_step ((first | (go_at_call 14; exact Calls.regrown_of (hpa.out _)) | (go_at_call 64; exact Calls.regrown_of (hte.out _ (BX.trans ((below_regrown _ _ _).mono BX.size)))))))
    refine wpQuiet_nil ?_
    intro wq hq
    obtain ⟨pq, hq⟩ := hq
    have hbq : Below X.heap.size X wq := by rw [hq]; exact below_regrown _ _ _
    clear hq hcq pq
    obtain ⟨hcq, hfq⟩ := bcell hbq
    have zq := hbq.size
    go_wp2_with fail
    exact bodyPost_ret (v := .tuple #[.slice none 0 0, .int .i64 z]) (by simp [results, Try.results37, go_sem]) rfl (by show IntsRet [] z w _ _; exact ⟨none, 0, rfl, ⟨rfl, fun h => absurd h (by simp)⟩, by (repeat first | with_reducible assumption | with_reducible exact Below.refl _ _ | (with_reducible refine Below.alloc ?_ ?side _; case side => (first | omega | (with_reducible exact Below.size (by assumption)) | (simp; done) | (simp; omega))) | (with_reducible refine Below.setCell ?_ ?side _; case side => (first | omega | (with_reducible exact Below.size (by assumption)) | (simp; done) | (simp; omega))) | with_reducible refine Below.drew ?_ | with_reducible refine below_drewN ?_ _ | (with_reducible refine below_step (by assumption) ?side ?_; case side => (first | omega | (with_reducible exact Below.size (by assumption)) | (simp; done) | (simp; omega))))⟩)
theorem heats_upto {a : Int} (hc : ckS bs ps kf wrg = true) : heatsP bs ps kf wrg a = uptoL 10 fun h => anyN (ofP bs ps kf wrg a).length fun j => (brAt bs (iAt (ofP bs ps kf wrg a) j).toNat).heat == (h : Int) := by
  have e0 : heatsP bs ps kf wrg a = srtC (htL bs (ofP bs ps kf wrg a)) := rfl
  rw [e0, srtC_upto (n := 10) (fun v hv => by
    unfold htL at hv
    obtain ⟨b, hb, rfl⟩ := List.mem_map.1 hv
    obtain ⟨k, hk, rfl⟩ := ofP_bar b hb
    have := ((ckS_vals hc).2.2.2.2.1 k hk).1
    rw [Int.toNat_natCast]
    exact ⟨(brAt bs k).heat.toNat, by omega, by omega⟩)]
  unfold uptoL
  congr 1
  refine List.filter_congr fun h _ => ?_
  rw [Bool.eq_iff_iff, decide_eq_true_eq, anyN_ex]
  unfold htL
  rw [List.mem_map]
  constructor
  · rintro ⟨b, hb, e⟩
    obtain ⟨i, hi, rfl⟩ := List.getElem_of_mem hb
    exact ⟨i, hi, by rw [iAt_get hi, e]; simp⟩
  · rintro ⟨j, hj, e⟩
    exact ⟨_, iAt_mem hj, by simpa using e⟩
set_option maxRecDepth 100000 in
set_option maxHeartbeats 3200000 in
theorem refHeats_c (a : Int) (h1 : nb ≤ 40) (h2 : np ≤ 40) (h3 : ∀ k, k < np → (pcAt ps k).hs.length ≤ 40) (hsm : ckS bs ps kf wrg = true → nb ≤ 4 ∧ np ≤ 5) (HB : BrsAt w Ab nb bs) (HP : PcsAt w Ap np ms ps) :
    Calls Try.prog 39 #[.agg #[.slice Ab nb cb, .int .i64 kf, .slice Ap np cp, .int .i64 wrg], .int .i64 a] w (IntsRet (heatsP bs ps kf wrg a) (askE bs ps kf wrg (wi a 0 ((np : Int) - 1))) w) := by
  have HBI := Lib.hid HB
  have hbl := HB.1
  have hof : ∀ V, Below w.heap.size w V → Calls Try.prog 37 #[.agg #[.slice Ab nb cb, .int .i64 kf, .slice Ap np cp, .int .i64 wrg], .int .i64 a] V (IntsRet (ofP bs ps kf wrg a) (askE bs ps kf wrg (wi a 0 ((np : Int) - 1))) V) := fun V hV => refOf_c Ab Ap nb cb np cp kf wrg bs ms ps V a h1 h2 h3 hsm (HB.later hV) (HP.later hV)
  have hlo := ofP_len (bs := bs) (ps := ps) (kf := kf) (wr := wrg) (piece := a)
  rw [hbl] at hlo
  by_cases hz : askE bs ps kf wrg (wi a 0 ((np : Int) - 1)) = 0
  · obtain ⟨hi, hc, -, -⟩ := trs_of hz
    rw [heats_upto (kf := kf) (wrg := wrg) (bs := bs) (ps := ps) (a := a) hc, hz]
    rw [hz] at hof
    have hbar := ofP_bar (bs := bs) (ps := ps) (kf := kf) (wr := wrg) (piece := a)
    rw [hbl] at hbar
    obtain ⟨L, hL⟩ : ∃ L, ofP bs ps kf wrg a = L := ⟨_, rfl⟩
    rw [hL] at hof hlo hbar ⊢
    obtain ⟨m, hm⟩ : ∃ m, L.length = m := ⟨_, rfl⟩
    rw [hm] at hlo ⊢
    obtain ⟨P, hP⟩ : ∃ P : Nat → Bool, (fun (h : Nat) => anyN m fun j => (brAt bs (iAt L j).toNat).heat == (h : Int)) = P := ⟨_, rfl⟩
    have HPJ : Hid (∀ h, P h = anyN m fun j => (brAt bs (iAt L j).toNat).heat == (h : Int)) := Lib.hid fun h => by rw [← hP]
    rw [hP]
    have HM := Lib.hid hm
    have HBAR : Hid (∀ j, j < m → ∃ b : Nat, b < nb ∧ iAt L j = (b : Int)) := Lib.hid fun j hj => hbar _ (iAt_mem (by omega))
    replace hof := Lib.hid hof
    clear HB HP h3 hsm hi hc hbar hL hm hz hP hbl
    go_enter Try.func39, Try.ntmps39
    go_wp2_with fail
    obtain ⟨X, hX⟩ : ∃ X, w.alloc (.cells #[.slice Ab nb cb, .int .i64 kf, .slice Ap np cp, .int .i64 wrg] 25) = X := ⟨_, rfl⟩
    rw [hX]
    have BX : Below w.heap.size w X := (al1 hX).1
    have P0 := (al1_0 hX).2.1
    have lX : w.heap.size < X.heap.size := (al1_0 hX).1
    clear hX
    refine (hof.out _ BX).mono ?_
    rintro e w6 ⟨A6, c6, rfl, hI6, hb6⟩
    rw [HM.out] at hI6
    have HI6 := Lib.hid hI6
    have z6 := hb6.size
    have KB := Lib.hid (BX.trans (hb6.mono BX.size))
    have C6 := Lib.hid (fun j => (hb6.cell (p := ⟨w.heap.size, j, none⟩) lX).trans (P0 j))
    have l6 : w.heap.size < w6.heap.size := by omega
    have own0 := Lib.hid (World.ownsRow_nil w6 w6.heap.size 3 1)
    clear hI6 P0 hb6
    rw [HM.out]
    go_wp2_with fail
    go_loopw [8, 9] (fun v i (wr : World) => ∃ (k : Nat), k ≤ 10 ∧ i = .int .i64 k ∧ Hid (wr.ownsRow w6.heap.size 3 1 v (uptoL k P).length ((uptoL k P).flatMap encI)) ∧ Below w6.heap.size w6 wr) (fun _ i _ => 10 - (intOf i).toNat)
    case atStart => exact ⟨0, by omega, rfl, by rw [show uptoL 0 P = [] by rfl]; exact own0, Below.refl _ _⟩
    case round =>
      obtain ⟨k, hk, rfl, HO, hb⟩ := hrel
      have zb := hb.size
      by_cases hlt : k < 10
      · have hqB : decide ((k : Int) ≤ 9) = true := by simp; omega
        go_wp2_with fail
        clear hqB
        obtain ⟨wo, rfl⟩ : ∃ wo : World, wo = wr := ⟨_, rfl⟩
        obtain ⟨vo, hvo⟩ : ∃ v, u8 = v := ⟨_, rfl⟩
        rw [hvo] at HO ⊢
        clear hvo
        go_loopw [8, 10] (fun v i (wr : World) => ∃ (q : Nat), q ≤ m ∧ i = .int .i64 q ∧ v = vo ∧ Hid (∀ j, j < q → ((brAt bs (iAt L j).toNat).heat == (k : Int)) = false) ∧ Below wo.heap.size wo wr) (fun _ i _ => m - (intOf i).toNat)
        case atStart => exact ⟨0, by omega, rfl, rfl, fun j hj => absurd hj (by omega), Below.refl _ _⟩
        case round =>
          obtain ⟨q, hq, rfl, rfl, HQ, hb2⟩ := hrel
          have zb2 := hb2.size
          have hb3 : Below w6.heap.size w6 wr := hb.trans (hb2.mono zb)
          have cc := fun j => (hb3.cell (p := ⟨w.heap.size, j, none⟩) l6).trans (C6.out j)
          have HOr := Lib.hid (own_below HO.out hb2)
          have m0 : w.heap.size < wr.heap.size := by omega
          by_cases hlq : q < m
          · have hqC : decide ((q : Int) < m) = true := by simp; omega
            obtain ⟨g, o, rfl, hg, y1⟩ := (HI6.out.later hb3).get hlq
            obtain ⟨b, hbn, hbe⟩ := HBAR.out q hlq
            rw [hbe] at y1
            obtain ⟨gb, ob, rfl, hgb, y3, -⟩ := (HBI.out.later (KB.out.trans (hb3.mono KB.out.size))).get hbn
            obtain ⟨v, hv⟩ : ∃ v, (brAt bs b).heat = v := ⟨_, rfl⟩
            rw [hv] at y3
            have j1 : decide ((b : Int) < nb) = true := by simp; omega
            have hev : (brAt bs (iAt L q).toNat).heat = v := by rw [hbe, Int.toNat_natCast]; exact hv
            clear hv hbe
            cases eq : (v == (k : Int))
            · have HE := Lib.hid (show ((brAt bs (iAt L q).toNat).heat == (k : Int)) = false by rw [hev]; exact eq)
              clear hev
              go_upto_region 11 with (fail)
              have hcq := fun p : Regrown => (bcell (below_regrown wr p.d p.os)).1
              refine wp_region_quiet_below (by kernel_rfl) (by kernel_rfl) ?_
              repeat (go_big_quiet_step ((fail)))
              refine wpQuiet_nil ?_
              intro wq hq
              obtain ⟨pq, hq⟩ := hq
              have hbq : Below wr.heap.size wr wq := by rw [hq]; exact below_regrown _ _ _
              clear hq hcq pq
              obtain ⟨hcq, hfq⟩ := bcell hbq
              have zq := hbq.size
              go_wp2_with fail
              go_roundw
              case rel => exact ⟨q + 1, by omega, by go_num, rfl, fun j hj => by
                rcases Nat.lt_succ_iff_lt_or_eq.1 hj with h' | rfl
                · exact HQ.out j h'
                · exact HE.out, hb2.trans (hbq.mono zb2)⟩
              case measure => simp [intOf]; omega
            · have HU := Lib.hid (upto_yes (P := P) (k := k) (by rw [HPJ.out]; exact anyN_yes hlq (by rw [hev]; exact eq)))
              have hul := upto_le (P := P) (k := k)
              clear hev
              go_upto_region 11 with (fail)
              have hcq := fun p : Regrown => (bcell (below_regrown wr p.d p.os)).1
              refine wp_region_quiet_below (by kernel_rfl) (by kernel_rfl) ?_
              repeat (go_big_quiet_step ((fail)))
              refine wpQuiet_nil ?_
              intro wq hq
              obtain ⟨pq, hq⟩ := hq
              have hbq : Below wr.heap.size wr wq := by rw [hq]; exact below_regrown _ _ _
              clear hq hcq pq
              obtain ⟨hcq, hfq⟩ := bcell hbq
              have zq := hbq.size
              have HOq := Lib.hid (own_below HOr.out hbq)
              have bq : Below w6.heap.size w6 wq := hb3.trans (hbq.mono (by omega))
              go_wp2_with (at_builtin; go_must (refine wpList_append_T _ (d := (0 : Int)) rfl (.tmp 41) (.tmp 43) _ rfl w6.heap.size _ 1 8 intE encI_len encI_one u8 u8.ownBlock (uptoL k P).length (uptoL k P) rfl rfl ?_ _ 1 _ [(k : Int)] rfl ?_ ?_ ?_ ?_; (exact HOq.out.alloc _); (exact sl_new encI_len rfl rfl rfl); (focus omega); (focus (simp only [World.size_alloc]; omega)); (intro v' w7 hown7 hg7 hat7; have hb7 : Below w6.heap.size w6 w7 := (Below.grown (by (repeat first | with_reducible assumption | with_reducible exact Below.refl _ _ | (with_reducible refine Below.alloc ?_ ?side _; case side => (first | omega | (with_reducible exact Below.size (by assumption)) | (simp; done) | (simp; omega))) | (with_reducible refine Below.setCell ?_ ?side _; case side => (first | omega | (with_reducible exact Below.size (by assumption)) | (simp; done) | (simp; omega))) | with_reducible refine Below.drew ?_ | with_reducible refine below_drewN ?_ _ | (with_reducible refine below_step (by assumption) ?side ?_; case side => (first | omega | (with_reducible exact Below.size (by assumption)) | (simp; done) | (simp; omega))))) hg7 (by simp only [World.size_alloc]; omega) (own_ge HOq.out)); have HO7 := Lib.hid hown7; clear hown7 hg7 hat7)))
              go_roundw
              case rel => exact ⟨k + 1, by omega, by go_num, by rw [HU.out, List.length_append]; exact HO7, hb7⟩
              case measure => simp [intOf]; omega
          · obtain rfl : q = m := by omega
            have hqC : decide (((q : Nat) : Int) < q) = false := by simp
            have HU := Lib.hid (upto_no (P := P) (k := k) (by rw [HPJ.out]; exact anyN_no HQ.out))
            clear HQ
            go_wp2_with fail
            go_roundw
            case rel => exact ⟨k + 1, by omega, by go_num, by rw [HU.out]; exact HOr, hb3⟩
            case measure => simp [intOf]; omega
      · obtain rfl : k = 10 := by omega
        have hqB : decide (((10 : Nat) : Int) ≤ 9) = false := by simp
        obtain ⟨A3, c3, rfl, -, hs3⟩ := SlAt.of_own (d := (0 : Int)) encI_len HO.out rfl
        have HS3 := Lib.hid (ints_iff.2 hs3)
        clear hs3 HO
        go_wp2_with fail
        exact bodyPost_ret (v := .tuple #[.slice A3 (uptoL 10 P).length c3, .int .i64 0]) (by simp [results, Try.results39, go_sem]) rfl (by show IntsRet (uptoL 10 P) 0 w _ _; exact ⟨A3, c3, rfl, HS3.out, KB.out.trans (hb.mono KB.out.size)⟩)
  · have hz0 := hz
    have hO : ofP bs ps kf wrg a = [] := by unfold ofP; rw [HP.pl, show (askE bs ps kf wrg (wi a 0 ((np : Int) - 1)) == 0) = false by rw [beq_eq_false_iff_ne]; exact hz0]; rfl
    have hH : heatsP bs ps kf wrg a = [] := by
      have e0 : heatsP bs ps kf wrg a = srtC (htL bs (ofP bs ps kf wrg a)) := rfl
      rw [e0, hO]
      exact List.eq_nil_iff_forall_not_mem.2 fun v hv => by have := srtC_mem.1 hv; cases this
    rw [hH]
    rw [hO] at hof
    obtain ⟨z, hz3⟩ : ∃ z, askE bs ps kf wrg (wi a 0 ((np : Int) - 1)) = z := ⟨_, rfl⟩
    rw [hz3] at hof hz0 ⊢
    have hz0B : (z != 0) = true := by simpa using hz0
    clear HB HP h3 hsm hO hH hz hz3 hz0 hlo hbl
    replace hof := Lib.hid hof
    go_enter Try.func39, Try.ntmps39
    go_wp2_with fail
    refine (hof.out _ (by (repeat first | with_reducible assumption | with_reducible exact Below.refl _ _ | (with_reducible refine Below.alloc ?_ ?side _; case side => (first | omega | (with_reducible exact Below.size (by assumption)) | (simp; done) | (simp; omega))) | (with_reducible refine Below.setCell ?_ ?side _; case side => (first | omega | (with_reducible exact Below.size (by assumption)) | (simp; done) | (simp; omega))) | with_reducible refine Below.drew ?_ | with_reducible refine below_drewN ?_ _ | (with_reducible refine below_step (by assumption) ?side ?_; case side => (first | omega | (with_reducible exact Below.size (by assumption)) | (simp; done) | (simp; omega)))))).mono ?_
    rintro e w6 ⟨A6, c6, rfl, -, hb6⟩
    go_wp2_with fail
    exact bodyPost_ret (v := .tuple #[.slice none 0 0, .int .i64 z]) (by simp [results, Try.results39, go_sem]) rfl (by show IntsRet [] z w _ _; exact ⟨none, 0, rfl, ⟨rfl, fun h => absurd h (by simp)⟩, by (repeat first | with_reducible assumption | with_reducible exact Below.refl _ _ | (with_reducible refine Below.alloc ?_ ?side _; case side => (first | omega | (with_reducible exact Below.size (by assumption)) | (simp; done) | (simp; omega))) | (with_reducible refine Below.setCell ?_ ?side _; case side => (first | omega | (with_reducible exact Below.size (by assumption)) | (simp; done) | (simp; omega))) | with_reducible refine Below.drew ?_ | with_reducible refine below_drewN ?_ _ | (with_reducible refine below_step (by assumption) ?side ?_; case side => (first | omega | (with_reducible exact Below.size (by assumption)) | (simp; done) | (simp; omega))))⟩)
theorem str_upto (hc : ckS bs ps kf wrg = true) (hne : trL bs ps kf wrg ≠ []) : strP bs ps kf wrg = uptoL ps.length fun q => allN (trL bs ps kf wrg).length fun j => wrB bs ps q (gN (lAt (trL bs ps kf wrg) j) q) := by
  unfold strP
  rw [askE_ok hc, if_neg hne]
  unfold stL uptoL
  simp only [beq_self_eq_true, cond_true]
  congr 1
  refine List.filter_congr fun q _ => ?_
  rw [Bool.eq_iff_iff, beq_iff_eq, List.countP_eq_zero, allN_iff, swA_ok hc (ckS_vals hc).2.2.2.1.1]
  constructor
  · intro h j hj
    have := h _ (List.mem_map.2 ⟨_, lAt_mem hj, rfl⟩)
    unfold rtB at this
    simp only [swOf, toI_at, Int.toNat_natCast] at this
    simpa using this
  · intro h x hx
    obtain ⟨l, hl, rfl⟩ := List.mem_map.1 hx
    obtain ⟨i, hi, rfl⟩ := List.getElem_of_mem hl
    have e : lAt (trL bs ps kf wrg) i = (trL bs ps kf wrg)[i] := by unfold lAt; rw [List.getD_eq_getElem?_getD, List.getElem?_eq_getElem hi]; rfl
    have := h i hi
    rw [e] at this
    unfold rtB
    simp only [swOf, toI_at, Int.toNat_natCast]
    simpa using this
theorem allN_succ {n : Nat} {p : Nat → Bool} : allN (n + 1) p = (allN n p && p n) := by
  unfold allN
  rw [List.range_succ, List.all_append]
  simp
set_option maxRecDepth 100000 in
set_option maxHeartbeats 3200000 in
theorem refStrange_c (h1 : nb ≤ 40) (h2 : np ≤ 40) (h3 : ∀ k, k < np → (pcAt ps k).hs.length ≤ 40) (hsm : ckS bs ps kf wrg = true → nb ≤ 4 ∧ np ≤ 5) (HB : BrsAt w Ab nb bs) (HP : PcsAt w Ap np ms ps) :
    Calls Try.prog 41 #[.agg #[.slice Ab nb cb, .int .i64 kf, .slice Ap np cp, .int .i64 wrg]] w (IntsRet (strP bs ps kf wrg) (askE bs ps kf wrg true) w) := by
  have HBI := Lib.hid HB
  have HPI := Lib.hid HP
  have hbl := HB.1
  have hpl := HP.pl
  have htr : ∀ is V, Below w.heap.size w V → Calls Try.prog 64 #[.agg #[.slice Ab nb cb, .int .i64 kf, .slice Ap np cp, .int .i64 wrg], .bool is] V (TrsRet (trsL bs ps kf wrg is) (askE bs ps kf wrg is) V) := fun is V hV => reftruths_c Ab Ap nb cb np cp kf wrg bs ms ps V is h1 h2 h3 hsm (HB.later hV) (HP.later hV)
  have hle : ∀ is, (trsL bs ps kf wrg is).length ≤ 1024 := fun is => by
    rcases Nat.eq_zero_or_pos (trsL bs ps kf wrg is).length with e | e
    · omega
    · have hm := lAt_mem e
      obtain ⟨hc, -⟩ := trs_sub hm
      have := hsm hc
      unfold trsL at e hm ⊢
      cases eq : (askE bs ps kf wrg is == 0)
      · simp
      · exact trL_le (by rw [hbl]; omega) (by rw [hpl]; omega)
  replace htr := htr true
  replace hle := hle true
  by_cases hz : askE bs ps kf wrg true = 0
  · obtain ⟨-, hc, ht, hne⟩ := trs_of hz
    rw [hz, ht] at htr
    rw [ht] at hle
    rw [str_upto (bs := bs) (ps := ps) (kf := kf) (wrg := wrg) hc hne, hz, hpl]
    have hlen : ∀ l ∈ trL bs ps kf wrg, l.length = np ∧ ∀ b ∈ l, b < nb := fun l hl => by
      obtain ⟨⟨k1, k2⟩, -⟩ := trL_mem.1 hl
      rw [hpl] at k1
      rw [hbl] at k2
      exact ⟨k1, k2⟩
    have hwr : ∀ (A : Option Addr) (c q : Nat) (l : List Nat) V, (∀ b ∈ l, b < nb) → q < np → Below w.heap.size w V → IntsAt V A np (toI l) → Calls Try.prog 50 #[.agg #[.slice Ab nb cb, .int .i64 kf, .slice Ap np cp, .int .i64 wrg], .slice A np c, .int .i64 q] V fun e V' => e = .returned (.bool (wrB bs ps q (gN l q))) ∧ Below V.heap.size V V' := fun A c q l V hl hq hV hI =>
      refWrong_c Ab Ap A nb cb np cp np c kf wrg bs ms ps l V q hl h3 (HB.later hV) (HP.later hV) hI (Nat.le_refl _) hq
    obtain ⟨T, hT⟩ : ∃ T, trL bs ps kf wrg = T := ⟨_, rfl⟩
    rw [hT] at htr hlen hle ⊢
    obtain ⟨m, hm⟩ : ∃ m, T.length = m := ⟨_, rfl⟩
    rw [hm] at hle ⊢
    obtain ⟨P, hP⟩ : ∃ P : Nat → Bool, (fun q => allN m fun j => wrB bs ps q (gN (lAt T j) q)) = P := ⟨_, rfl⟩
    have HPJ : Hid (∀ q, P q = allN m fun j => wrB bs ps q (gN (lAt T j) q)) := Lib.hid fun q => by rw [← hP]
    rw [hP]
    have HM := Lib.hid hm
    have HLEN := Lib.hid hlen
    replace htr := Lib.hid htr
    replace hwr := Lib.hid hwr
    clear HB HP h3 hsm hc ht hne hT hm hlen hz hP
    go_enter Try.func41, Try.ntmps41
    go_wp2_with fail
    obtain ⟨X, hX⟩ : ∃ X, w.alloc (.cells #[.slice Ab nb cb, .int .i64 kf, .slice Ap np cp, .int .i64 wrg] 25) = X := ⟨_, rfl⟩
    rw [hX]
    have BX : Below w.heap.size w X := (al1 hX).1
    have P0 := (al1_0 hX).2.1
    have lX : w.heap.size < X.heap.size := (al1_0 hX).1
    clear hX
    refine (htr.out _ BX).mono ?_
    rintro e w6 ⟨A6, c6, hs6, rfl, hss, hb6, -⟩
    rw [HM.out] at hss
    have HSS := Lib.hid hss
    have z6 := hb6.size
    have KB := Lib.hid (BX.trans (hb6.mono BX.size))
    have C6 := Lib.hid (fun j => (hb6.cell (p := ⟨w.heap.size, j, none⟩) lX).trans (P0 j))
    have l6 : w.heap.size < w6.heap.size := by omega
    have own0 := Lib.hid (World.ownsRow_nil w6 w6.heap.size 3 1)
    clear hss P0 hb6
    rw [HM.out]
    go_wp2_with fail
    go_loopw [6, 7] (fun v i (wr : World) => ∃ (k : Nat), k ≤ np ∧ i = .int .i64 k ∧ Hid (wr.ownsRow w6.heap.size 3 1 v (uptoL k P).length ((uptoL k P).flatMap encI)) ∧ Below w6.heap.size w6 wr) (fun _ i _ => np - (intOf i).toNat)
    case atStart => exact ⟨0, by omega, rfl, by rw [show uptoL 0 P = [] by rfl]; exact own0, Below.refl _ _⟩
    case round =>
      obtain ⟨k, hk, rfl, HO, hb⟩ := hrel
      have zb := hb.size
      have cc := fun j => (hb.cell (p := ⟨w.heap.size, j, none⟩) l6).trans (C6.out j)
      by_cases hlt : k < np
      · have hqB : decide ((k : Int) < np) = true := by simp; omega
        go_wp2_with fail
        clear hqB cc
        obtain ⟨wo, rfl⟩ : ∃ wo : World, wo = wr := ⟨_, rfl⟩
        go_loopw [8, 9] (fun v i (wr : World) => ∃ (q : Nat), q ≤ m ∧ i = .int .i64 q ∧ v = .bool (allN q fun j => wrB bs ps k (gN (lAt T j) k)) ∧ Below wo.heap.size wo wr) (fun _ i _ => m - (intOf i).toNat)
        case atStart => exact ⟨0, by omega, rfl, rfl, Below.refl _ _⟩
        case round =>
          obtain ⟨q, hq, rfl, rfl, hb2⟩ := hrel
          have zb2 := hb2.size
          have hb3 : Below w6.heap.size w6 wr := hb.trans (hb2.mono zb)
          have hbw : Below w.heap.size w wr := KB.out.trans (hb3.mono KB.out.size)
          have cc := fun j => (hb3.cell (p := ⟨w.heap.size, j, none⟩) l6).trans (C6.out j)
          have m0 : w.heap.size < wr.heap.size := by omega
          by_cases hlq : q < m
          · have hqC : decide ((q : Int) < m) = true := by simp; omega
            have hsu := allN_succ (n := q) (p := fun j => wrB bs ps k (gN (lAt T j) k))
            obtain ⟨b1, o1, rfl, hb1, x1, i1⟩ := (HSS.out.later hb3).get hlq
            rw [xAt_map] at i1
            have hll := HLEN.out _ (lAt_mem (L := T) (k := q) (by rw [HM.out]; exact hlq))
            obtain ⟨h, hh⟩ : ∃ h, hAt hs6 q = h := ⟨_, rfl⟩
            rw [hh] at x1 i1
            have hnn : h.n = np := by rw [← hll.1, ← toI_len]; exact i1.1.symm
            rw [hnn] at x1 i1
            have hw := fun V hV => hwr.out h.A h.c k (lAt T q) V hll.2 hlt (hbw.trans (hV.mono hbw.size)) (i1.later hV)
            obtain ⟨g, hg⟩ : ∃ g, wrB bs ps k (gN (lAt T q) k) = g := ⟨_, rfl⟩
            rw [hg] at hw
            simp only [hg] at hsu
            have HW2 : Hid (∀ V, Below wr.heap.size wr V → Calls Try.prog 50 #[.agg #[.slice Ab nb cb, .int .i64 kf, .slice Ap np cp, .int .i64 wrg], .slice h.A np h.c, .int .i64 k] V fun e V' => e = .returned (.bool g) ∧ Below V.heap.size V V') := Lib.hid hw
            obtain ⟨B, hB⟩ : ∃ B, (allN q fun j => wrB bs ps k (gN (lAt T j) k)) = B := ⟨_, rfl⟩
            rw [hB] at hsu ⊢
            have HSU := Lib.hid hsu
            clear hh hg hw i1 hnn hll hsu hB
            cases B
            · go_upto_region 12 with (fail)
              have hcq := fun p : Regrown => (bcell (below_regrown wr p.d p.os)).1
              refine wp_region_quiet_below (by kernel_rfl) (by kernel_rfl) ?_
              repeat (go_big_quiet_step ((fail)))
              refine wpQuiet_nil ?_
              intro wq hq
              obtain ⟨pq, hq⟩ := hq
              have hbq : Below wr.heap.size wr wq := by rw [hq]; exact below_regrown _ _ _
              clear hq hcq pq
              obtain ⟨hcq, hfq⟩ := bcell hbq
              have zq := hbq.size
              go_wp2_with fail
              go_roundw
              case rel => exact ⟨q + 1, by omega, by go_num, by rw [HSU.out]; rfl, hb2.trans (hbq.mono zb2)⟩
              case measure => simp [intOf]; omega
            · go_upto_region 12 with (fail)
              have hcq := fun p : Regrown => (bcell (below_regrown wr p.d p.os)).1
              refine wp_region_quiet_below (by kernel_rfl) (by kernel_rfl) ?_
              repeat (go_big_quiet_step ((go_at_call 50; exact Calls.regrown_of (HW2.out _ (below_regrown _ _ _)))))
              refine wpQuiet_nil ?_
              intro wq hq
              obtain ⟨pq, hq⟩ := hq
              have hbq : Below wr.heap.size wr wq := by rw [hq]; exact below_regrown _ _ _
              clear hq hcq pq
              obtain ⟨hcq, hfq⟩ := bcell hbq
              have zq := hbq.size
              go_wp2_with fail
              go_roundw
              case rel => exact ⟨q + 1, by omega, by go_num, by rw [HSU.out, Bool.true_and], hb2.trans (hbq.mono zb2)⟩
              case measure => simp [intOf]; omega
          · obtain rfl : q = m := by omega
            have hqC : decide (((q : Nat) : Int) < q) = false := by simp
            have hPk := HPJ.out k
            have HOr := Lib.hid (own_below HO.out hb2)
            have hul := upto_le (P := P) (k := k)
            obtain ⟨B, hB⟩ : ∃ B, (allN q fun j => wrB bs ps k (gN (lAt T j) k)) = B := ⟨_, rfl⟩
            rw [hB] at hPk ⊢
            clear hB
            cases B
            · have HU := Lib.hid (upto_no (P := P) (k := k) hPk)
              clear hPk
              go_wp2_with fail
              go_roundw
              case rel => exact ⟨k + 1, by omega, by go_num, by rw [HU.out]; exact HOr, hb3⟩
              case measure => simp [intOf]; omega
            · have HU := Lib.hid (upto_yes (P := P) (k := k) hPk)
              clear hPk
              go_wp2_with (at_builtin; go_must (refine wpList_append_T _ (d := (0 : Int)) rfl (.tmp 42) (.tmp 44) _ rfl w6.heap.size _ 1 8 intE encI_len encI_one u6 u6.ownBlock (uptoL k P).length (uptoL k P) rfl rfl ?_ _ 1 _ [(k : Int)] rfl ?_ ?_ ?_ ?_; (exact HOr.out.alloc _); (exact sl_new encI_len rfl rfl rfl); (focus omega); (focus (simp only [World.size_alloc]; omega)); (intro v' w7 hown7 hg7 hat7; have hb7 : Below w6.heap.size w6 w7 := (Below.grown (by (repeat first | with_reducible assumption | with_reducible exact Below.refl _ _ | (with_reducible refine Below.alloc ?_ ?side _; case side => (first | omega | (with_reducible exact Below.size (by assumption)) | (simp; done) | (simp; omega))) | (with_reducible refine Below.setCell ?_ ?side _; case side => (first | omega | (with_reducible exact Below.size (by assumption)) | (simp; done) | (simp; omega))) | with_reducible refine Below.drew ?_ | with_reducible refine below_drewN ?_ _ | (with_reducible refine below_step (by assumption) ?side ?_; case side => (first | omega | (with_reducible exact Below.size (by assumption)) | (simp; done) | (simp; omega))))) hg7 (by simp only [World.size_alloc]; omega) (own_ge HOr.out)); have HO7 := Lib.hid hown7; clear hown7 hg7 hat7)))
              go_roundw
              case rel => exact ⟨k + 1, by omega, by go_num, by rw [HU.out, List.length_append]; exact HO7, hb7⟩
              case measure => simp [intOf]; omega
      · obtain rfl : k = np := by omega
        have hqB : decide (((k : Nat) : Int) < k) = false := by simp
        obtain ⟨A3, c3, rfl, -, hs3⟩ := SlAt.of_own (d := (0 : Int)) encI_len HO.out rfl
        have HS3 := Lib.hid (ints_iff.2 hs3)
        clear hs3 HO
        go_wp2_with fail
        exact bodyPost_ret (v := .tuple #[.slice A3 (uptoL k P).length c3, .int .i64 0]) (by simp [results, Try.results41, go_sem]) rfl (by show IntsRet (uptoL k P) 0 w _ _; exact ⟨A3, c3, rfl, HS3.out, KB.out.trans (hb.mono KB.out.size)⟩)
  · have hte : ∀ V, Below w.heap.size w V → Calls Try.prog 64 #[.agg #[.slice Ab nb cb, .int .i64 kf, .slice Ap np cp, .int .i64 wrg], .bool true] V fun e V' => e = .returned (.tuple #[.slice none 0 0, .int .i64 (askE bs ps kf wrg true)]) ∧ Below V.heap.size V V' := fun V hV => (htr V hV).mono fun e W' h => h.err hz
    have hR : strP bs ps kf wrg = [] := by unfold strP; rw [show (askE bs ps kf wrg true == 0) = false by rw [beq_eq_false_iff_ne]; exact hz]; rfl
    rw [hR]
    obtain ⟨z, hz3⟩ : ∃ z, askE bs ps kf wrg true = z := ⟨_, rfl⟩
    rw [hz3] at hte hz ⊢
    have hz0B : (z != 0) = true := by simpa using hz
    clear HB HP h3 hsm hle hR hz hz3 htr
    replace hte := Lib.hid hte
    go_enter Try.func41, Try.ntmps41
    go_wp2_with fail
    refine (hte.out _ (by (repeat first | with_reducible assumption | with_reducible exact Below.refl _ _ | (with_reducible refine Below.alloc ?_ ?side _; case side => (first | omega | (with_reducible exact Below.size (by assumption)) | (simp; done) | (simp; omega))) | (with_reducible refine Below.setCell ?_ ?side _; case side => (first | omega | (with_reducible exact Below.size (by assumption)) | (simp; done) | (simp; omega))) | with_reducible refine Below.drew ?_ | with_reducible refine below_drewN ?_ _ | (with_reducible refine below_step (by assumption) ?side ?_; case side => (first | omega | (with_reducible exact Below.size (by assumption)) | (simp; done) | (simp; omega)))))).mono ?_
    rintro e w6 ⟨rfl, hb6⟩
    go_wp2_with fail
    exact bodyPost_ret (v := .tuple #[.slice none 0 0, .int .i64 z]) (by simp [results, Try.results41, go_sem]) rfl (by show IntsRet [] z w _ _; exact ⟨none, 0, rfl, ⟨rfl, fun h => absurd h (by simp)⟩, by (repeat first | with_reducible assumption | with_reducible exact Below.refl _ _ | (with_reducible refine Below.alloc ?_ ?side _; case side => (first | omega | (with_reducible exact Below.size (by assumption)) | (simp; done) | (simp; omega))) | (with_reducible refine Below.setCell ?_ ?side _; case side => (first | omega | (with_reducible exact Below.size (by assumption)) | (simp; done) | (simp; omega))) | with_reducible refine Below.drew ?_ | with_reducible refine below_drewN ?_ _ | (with_reducible refine below_step (by assumption) ?side ?_; case side => (first | omega | (with_reducible exact Below.size (by assumption)) | (simp; done) | (simp; omega))))⟩)
end

end Go.Proofs.Ytmopnbijfcamjaa
