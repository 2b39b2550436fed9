/- within, IsAsk and Check of the specification (layer 3), Far of the statements. -/
import Derived.Test.YtcinhibmohkeiaaQy33
import Derived.Shelf.Abstract
import Derived.Laws.EntriesVeiled
import Derived.Handy
import Derived.Deep.DrawnRows
import Derived.Deep.DeepCutAuto
namespace Go.Proofs.Ytcinhibmohkeiaa
open Go.RowKit
open Go.Sort (grow)
set_option linter.unusedVariables false
set_option linter.unusedSimpArgs false

set_option maxHeartbeats 400000 in
theorem Within13_c (n a b : Int) (w : World) :
    Calls Try.prog 34 #[.int .i64 n, .int .i64 a, .int .i64 b] w fun e w' => e = .returned (.bool (wn n a b)) ∧ w = w' := by
  go_enter Try.func34, Try.ntmps34
  go_wp2
  all_goals
    go_ret
    exact ⟨ret_bool (by simp [wn, *] <;> omega), rfl⟩
set_option maxHeartbeats 400000 in
theorem refWithin3_c (n a b : Int) (w : World) :
    Calls Try.prog 17 #[.int .i64 n, .int .i64 a, .int .i64 b] w fun e w' => e = .returned (.bool (wn n a b)) ∧ w = w' := by
  go_enter Try.func17, Try.ntmps17
  go_wp2_with (go_at_call 34; refine (Within13_c _ _ _ _).mono ?_; rintro e w' ⟨rfl, rfl⟩)
  go_ret
  exact ⟨rfl, rfl⟩
theorem refWithin3_b (n a b : Int) (w : World) :
    Calls Try.prog 17 #[.int .i64 n, .int .i64 a, .int .i64 b] w fun e w' => e = .returned (.bool (wn n a b)) ∧ Below w.heap.size w w' :=
  (refWithin3_c n a b w).mono fun e w' h => ⟨h.1, by rw [← h.2]; exact Below.refl _ _⟩
set_option maxHeartbeats 800000 in
theorem refAsk3_c (a b c : Int) (w : World) :
    Calls Try.prog 7 #[.int .i64 a, .int .i64 b, .int .i64 c] w fun e w' => e = .returned (.bool (ask3 a b c)) ∧ w = w' := by
  unfold ask3
  have c1 := fun V => refWithin3_c a 0 9999 V
  have c2 := fun V => refWithin3_c b 0 99 V
  have c3 := fun V => refWithin3_c c 0 999999999 V
  cases e1 : wn a 0 9999 <;> cases e2 : wn b 0 99 <;> cases e3 : wn c 0 999999999 <;> rw [e1] at c1 <;> rw [e2] at c2 <;> rw [e3] at c3 <;> replace c1 := Lib.hid c1 <;> replace c2 := Lib.hid c2 <;> replace c3 := Lib.hid c3 <;> clear e1 e2 e3
  all_goals
    go_enter Try.func7, Try.ntmps7
    go_wp2_with (go_at_call 17; (first | with_reducible refine (c1.out _).mono ?_ | with_reducible refine (c2.out _).mono ?_ | with_reducible refine (c3.out _).mono ?_); rintro e w' ⟨rfl, rfl⟩)
    go_ret
    exact ⟨rfl, rfl⟩
set_option maxRecDepth 100000 in
set_option maxHeartbeats 6400000 in
theorem refCheck3_c (Al : Option Addr) (nl cl : Nat) (wa l0 l1 : Int) (Ab : Option Addr) (nb cb : Nat) (wrg : Int) (lv : List Lv) (bl : List Bal) (w : World) (hn : nl ≤ 40) (hnb : nb ≤ 40) (HL : LvsAt w Al nl lv) (HB : BasAt w Ab nb bl) :
    Calls Try.prog 5 #[.agg #[.slice Al nl cl, .int .i64 wa, .int .i64 l0, .int .i64 l1, .slice Ab nb cb, .int .i64 wrg]] w fun e w' => e = .returned (.int .i64 (erM (ckM nl nb wa l0 l1 wrg lv bl))) ∧ Below w.heap.size w w' := by
  have HLI := Lib.hid HL
  have HBI := Lib.hid HB
  clear HL HB
  obtain ⟨z, hz⟩ : ∃ x, erM (ckM nl nb wa l0 l1 wrg lv bl) = x := ⟨_, rfl⟩
  rw [hz]
  unfold ckM at hz
  have c1 := fun V => refWithin3_c wa 0 9999 V
  have c2 := fun V => refWithin3_c l0 0 l1 V
  have c3 := fun V => refWithin3_c wrg 0 6 V
  by_cases g1 : (3 : Int) < nl
  · have gB : decide ((3 : Int) < nl) = true := decide_eq_true g1
    rw [gB] at hz
    have hck := Lib.hid hz; replace c1 := Lib.hid c1; replace c2 := Lib.hid c2; replace c3 := Lib.hid c3
    clear hz
    go_enter Try.func5, Try.ntmps5
    go_wp2_with (go_at_call 17; (first | with_reducible refine (c1.out _).mono ?_ | with_reducible refine (c2.out _).mono ?_ | with_reducible refine (c3.out _).mono ?_); rintro e w' ⟨rfl, rfl⟩)
    go_ret
    exact ⟨ret_int hck.out, by (repeat first | with_reducible assumption | with_reducible exact Below.refl _ _ | (with_reducible refine Below.alloc ?_ ?side _; case side => (first | omega | (with_reducible exact Below.size (by assumption)) | (simp; done) | (simp; omega))) | (with_reducible refine Below.setCell ?_ ?side _; case side => (first | omega | (with_reducible exact Below.size (by assumption)) | (simp; done) | (simp; omega))) | with_reducible refine Below.drew ?_ | with_reducible refine below_drewN ?_ _ | (with_reducible refine below_step (by assumption) ?side ?_; case side => (first | omega | (with_reducible exact Below.size (by assumption)) | (simp; done) | (simp; omega))))⟩
  have g1B : decide ((3 : Int) < nl) = false := decide_eq_false g1
  rw [g1B] at hz
  cases e1 : wn wa 0 9999
  · rw [e1] at hz c1
    simp only [Bool.false_and, Bool.and_false] at hz
    clear e1
    have hck := Lib.hid hz; replace c1 := Lib.hid c1; replace c2 := Lib.hid c2; replace c3 := Lib.hid c3
    clear hz
    go_enter Try.func5, Try.ntmps5
    go_wp2_with (go_at_call 17; (first | with_reducible refine (c1.out _).mono ?_ | with_reducible refine (c2.out _).mono ?_ | with_reducible refine (c3.out _).mono ?_); rintro e w' ⟨rfl, rfl⟩)
    go_ret
    exact ⟨ret_int hck.out, by (repeat first | with_reducible assumption | with_reducible exact Below.refl _ _ | (with_reducible refine Below.alloc ?_ ?side _; case side => (first | omega | (with_reducible exact Below.size (by assumption)) | (simp; done) | (simp; omega))) | (with_reducible refine Below.setCell ?_ ?side _; case side => (first | omega | (with_reducible exact Below.size (by assumption)) | (simp; done) | (simp; omega))) | with_reducible refine Below.drew ?_ | with_reducible refine below_drewN ?_ _ | (with_reducible refine below_step (by assumption) ?side ?_; case side => (first | omega | (with_reducible exact Below.size (by assumption)) | (simp; done) | (simp; omega))))⟩
  rw [e1] at hz c1
  replace c1 := Lib.hid c1
  clear e1
  cases e2 : wn l0 0 l1
  · rw [e2] at hz c2
    simp only [Bool.false_and, Bool.and_false] at hz
    have hck := Lib.hid hz; replace c2 := Lib.hid c2; replace c3 := Lib.hid c3
    clear e2 hz
    go_enter Try.func5, Try.ntmps5
    go_wp2_with (go_at_call 17; (first | with_reducible refine (c1.out _).mono ?_ | with_reducible refine (c2.out _).mono ?_ | with_reducible refine (c3.out _).mono ?_); rintro e w' ⟨rfl, rfl⟩)
    go_ret
    exact ⟨ret_int hck.out, by (repeat first | with_reducible assumption | with_reducible exact Below.refl _ _ | (with_reducible refine Below.alloc ?_ ?side _; case side => (first | omega | (with_reducible exact Below.size (by assumption)) | (simp; done) | (simp; omega))) | (with_reducible refine Below.setCell ?_ ?side _; case side => (first | omega | (with_reducible exact Below.size (by assumption)) | (simp; done) | (simp; omega))) | with_reducible refine Below.drew ?_ | with_reducible refine below_drewN ?_ _ | (with_reducible refine below_step (by assumption) ?side ?_; case side => (first | omega | (with_reducible exact Below.size (by assumption)) | (simp; done) | (simp; omega))))⟩
  rw [e2] at hz c2
  replace c2 := Lib.hid c2
  clear e2
  by_cases g3 : 20 < l1
  · have gB : decide (20 < l1) = true := decide_eq_true g3
    rw [gB] at hz
    simp only [Bool.not_true, Bool.false_and, Bool.and_false] at hz
    have hck := Lib.hid hz; replace c3 := Lib.hid c3
    clear hz
    go_enter Try.func5, Try.ntmps5
    go_wp2_with (go_at_call 17; (first | with_reducible refine (c1.out _).mono ?_ | with_reducible refine (c2.out _).mono ?_ | with_reducible refine (c3.out _).mono ?_); rintro e w' ⟨rfl, rfl⟩)
    go_ret
    exact ⟨ret_int hck.out, by (repeat first | with_reducible assumption | with_reducible exact Below.refl _ _ | (with_reducible refine Below.alloc ?_ ?side _; case side => (first | omega | (with_reducible exact Below.size (by assumption)) | (simp; done) | (simp; omega))) | (with_reducible refine Below.setCell ?_ ?side _; case side => (first | omega | (with_reducible exact Below.size (by assumption)) | (simp; done) | (simp; omega))) | with_reducible refine Below.drew ?_ | with_reducible refine below_drewN ?_ _ | (with_reducible refine below_step (by assumption) ?side ?_; case side => (first | omega | (with_reducible exact Below.size (by assumption)) | (simp; done) | (simp; omega))))⟩
  have g3B : decide (20 < l1) = false := decide_eq_false g3
  rw [g3B] at hz
  by_cases g4 : (6 : Int) < nb
  · have gB : decide ((6 : Int) < nb) = true := decide_eq_true g4
    rw [gB] at hz
    simp only [Bool.not_true, Bool.false_and, Bool.and_false] at hz
    have hck := Lib.hid hz; replace c3 := Lib.hid c3
    clear hz
    go_enter Try.func5, Try.ntmps5
    go_wp2_with (go_at_call 17; (first | with_reducible refine (c1.out _).mono ?_ | with_reducible refine (c2.out _).mono ?_ | with_reducible refine (c3.out _).mono ?_); rintro e w' ⟨rfl, rfl⟩)
    go_ret
    exact ⟨ret_int hck.out, by (repeat first | with_reducible assumption | with_reducible exact Below.refl _ _ | (with_reducible refine Below.alloc ?_ ?side _; case side => (first | omega | (with_reducible exact Below.size (by assumption)) | (simp; done) | (simp; omega))) | (with_reducible refine Below.setCell ?_ ?side _; case side => (first | omega | (with_reducible exact Below.size (by assumption)) | (simp; done) | (simp; omega))) | with_reducible refine Below.drew ?_ | with_reducible refine below_drewN ?_ _ | (with_reducible refine below_step (by assumption) ?side ?_; case side => (first | omega | (with_reducible exact Below.size (by assumption)) | (simp; done) | (simp; omega))))⟩
  have g4B : decide ((6 : Int) < nb) = false := decide_eq_false g4
  rw [g4B] at hz
  cases e4 : wn wrg 0 6
  · rw [e4] at hz c3
    simp only [Bool.and_false] at hz
    have hck := Lib.hid hz; replace c3 := Lib.hid c3
    clear hz e4
    go_enter Try.func5, Try.ntmps5
    go_wp2_with (go_at_call 17; (first | with_reducible refine (c1.out _).mono ?_ | with_reducible refine (c2.out _).mono ?_ | with_reducible refine (c3.out _).mono ?_); rintro e w' ⟨rfl, rfl⟩)
    go_ret
    exact ⟨ret_int hck.out, by (repeat first | with_reducible assumption | with_reducible exact Below.refl _ _ | (with_reducible refine Below.alloc ?_ ?side _; case side => (first | omega | (with_reducible exact Below.size (by assumption)) | (simp; done) | (simp; omega))) | (with_reducible refine Below.setCell ?_ ?side _; case side => (first | omega | (with_reducible exact Below.size (by assumption)) | (simp; done) | (simp; omega))) | with_reducible refine Below.drew ?_ | with_reducible refine below_drewN ?_ _ | (with_reducible refine below_step (by assumption) ?side ?_; case side => (first | omega | (with_reducible exact Below.size (by assumption)) | (simp; done) | (simp; omega))))⟩
  rw [e4] at hz c3
  replace c3 := Lib.hid c3
  clear e4
  simp only [Bool.true_and, Bool.not_false, Bool.and_true] at hz
  have HF1 : Hid (∀ k, k < nl → ckLv (lvAt lv k) = false → z = 30) := Lib.hid (fun k hk h => by
    rw [← hz, show (allN nl fun k => ckLv (lvAt lv k)) = false from allN_no hk h]; rfl)
  have HF2 : Hid (∀ k, k < nb → ckBa (baAt bl k) = false → z = 30) := Lib.hid (fun k hk h => by
    rw [← hz, show (allN nb fun k => ckBa (baAt bl k)) = false from allN_no hk h, Bool.and_false]; rfl)
  have HT : Hid ((∀ k, k < nl → ckLv (lvAt lv k) = true) → (∀ k, k < nb → ckBa (baAt bl k) = true) → z = 0) := Lib.hid (fun h1 h2 => by
    rw [← hz, allN_iff.2 h1, allN_iff.2 h2]; rfl)
  clear hz g1 g3 g4
  go_enter Try.func5, Try.ntmps5
  go_upto_region 3 with (go_at_call 17; (first | with_reducible refine (c1.out _).mono ?_ | with_reducible refine (c2.out _).mono ?_ | with_reducible refine (c3.out _).mono ?_); rintro e w' ⟨rfl, rfl⟩)
  go_name_world X hX
  have BX : Below w.heap.size w X := (al1 hX).1
  have HPX : Hid (Blk X w.heap.size 27 #[Value.slice Al nl cl, .int .i64 wa, .int .i64 l0, .int .i64 l1, .slice Ab nb cb, .int .i64 wrg]) := by rw [← hX]; exact Lib.hid (Blk.new w _ _)
  clear hX c1 c2 c3
  go_wp2_with fail
  go_loopw [3] (fun i (wr : World) => ∃ k : Nat, k ≤ nl ∧ i = .int .i64 k ∧ Hid (∀ j, j < k → ckLv (lvAt lv j) = true) ∧ Below X.heap.size X wr) (fun i _ => nl - (intOf i).toNat)
  case atStart => exact ⟨0, by omega, by simp, Lib.hid (fun j hj => absurd hj (by omega)), Below.refl _ _⟩
  case round =>
    obtain ⟨k, hk, rfl, H1, hbr⟩ := hrel
    have hw := Lib.hid (BX.trans (hbr.mono BX.size))
    have zr := hbr.size
    have HPR := Lib.hid (HPX.out.below hbr HPX.out.lt)
    have q0r := HPR.out.cell
    have l0r := HPR.out.lt
    by_cases hkn : k < nl
    · have hkB : decide ((k : Int) < nl) = true := decide_eq_true (by omega)
      have vk : IntKind.i64.wrap ((k : Int) + 1) = (k : Int) + 1 := IntWalk.i64_in _ (by omega)
      obtain ⟨b, o, hA, hb, x0, x1, x2⟩ := (HLI.out.later hw.out).get hkn
      subst hA
      have HF := Lib.hid (HF1.out k hkn)
      have HN : Hid (ckLv (lvAt lv k) = true → ∀ j, j < k + 1 → ckLv (lvAt lv j) = true) := Lib.hid (fun h j hj => by
        rcases Nat.lt_succ_iff_lt_or_eq.1 hj with h' | rfl
        · exact H1.out j h'
        · exact h)
      obtain ⟨x, hx⟩ : ∃ x, lvAt lv k = x := ⟨_, rfl⟩
      rw [hx] at x0 x1 x2 HF HN
      clear hx
      obtain ⟨lg, lo, hi⟩ := x
      simp only at x0 x1 x2
      rw [show ckLv ⟨lg, lo, hi⟩ = (wn lg 1 1000 && (wn lo 1 hi && !decide (1000 < hi))) from rfl] at HF HN
      have d1 := fun V => refWithin3_b lg 1 1000 V
      have d2 := fun V => refWithin3_b lo 1 hi V
      cases e1 : wn lg 1 1000
      · rw [e1] at d1 HF
        have hz30 := Lib.hid (HF.out (by simp))
        replace d1 := Lib.hid d1; replace d2 := Lib.hid d2
        clear e1
        go_upto_region 6 with (fail)
        have hcq := fun p : Regrown => (bcell (below_regrown wr p.d p.os)).1
        refine wp_region_quiet_below (by kernel_rfl) (by kernel_rfl) ?_
        repeat (go_big_quiet_step ((go_at_call 17; first | exact Calls.regrown_of (d1.out _) | exact Calls.regrown_of (d2.out _))))
        refine wpQuiet_nil ?_
        intro wq hq
        obtain ⟨pq, hq⟩ := hq
        have hbq : Below wr.heap.size wr wq := by rw [hq]; exact below_regrown _ _ _
        clear hq hcq pq
        obtain ⟨hcq, hfq⟩ := bcell hbq
        have zq := hbq.size
        have BQ := Lib.hid (hbr.trans (hbq.mono zr))
        clear hcq hfq hbq x0 x1 x2 q0r
        go_wp2_with fail
        go_ret
        exact ⟨ret_int hz30.out.symm, BX.trans (BQ.out.mono BX.size)⟩
      rw [e1] at d1 HF HN
      replace d1 := Lib.hid d1
      clear e1
      cases e2 : wn lo 1 hi
      · rw [e2] at d2 HF
        have hz30 := Lib.hid (HF.out (by simp))
        replace d2 := Lib.hid d2
        clear e2
        go_upto_region 6 with (fail)
        have hcq := fun p : Regrown => (bcell (below_regrown wr p.d p.os)).1
        refine wp_region_quiet_below (by kernel_rfl) (by kernel_rfl) ?_
        repeat (go_big_quiet_step ((go_at_call 17; first | exact Calls.regrown_of (d1.out _) | exact Calls.regrown_of (d2.out _))))
        refine wpQuiet_nil ?_
        intro wq hq
        obtain ⟨pq, hq⟩ := hq
        have hbq : Below wr.heap.size wr wq := by rw [hq]; exact below_regrown _ _ _
        clear hq hcq pq
        obtain ⟨hcq, hfq⟩ := bcell hbq
        have zq := hbq.size
        have BQ := Lib.hid (hbr.trans (hbq.mono zr))
        clear hcq hfq hbq x0 x1 x2 q0r
        go_wp2_with fail
        go_ret
        exact ⟨ret_int hz30.out.symm, BX.trans (BQ.out.mono BX.size)⟩
      rw [e2] at d2 HF HN
      replace d2 := Lib.hid d2
      clear e2
      by_cases g : 1000 < hi
      · have gB : decide (1000 < hi) = true := decide_eq_true g
        rw [gB] at HF
        have hz30 := Lib.hid (HF.out (by simp))
        go_upto_region 6 with (fail)
        have hcq := fun p : Regrown => (bcell (below_regrown wr p.d p.os)).1
        refine wp_region_quiet_below (by kernel_rfl) (by kernel_rfl) ?_
        repeat (go_big_quiet_step ((go_at_call 17; first | exact Calls.regrown_of (d1.out _) | exact Calls.regrown_of (d2.out _))))
        refine wpQuiet_nil ?_
        intro wq hq
        obtain ⟨pq, hq⟩ := hq
        have hbq : Below wr.heap.size wr wq := by rw [hq]; exact below_regrown _ _ _
        clear hq hcq pq
        obtain ⟨hcq, hfq⟩ := bcell hbq
        have zq := hbq.size
        have BQ := Lib.hid (hbr.trans (hbq.mono zr))
        clear hcq hfq hbq x0 x1 x2 q0r
        go_wp2_with fail
        go_ret
        exact ⟨ret_int hz30.out.symm, BX.trans (BQ.out.mono BX.size)⟩
      have gB : decide (1000 < hi) = false := decide_eq_false g
      rw [gB] at HN
      have HN2 := Lib.hid (HN.out (by simp))
      go_upto_region 6 with (fail)
      have hcq := fun p : Regrown => (bcell (below_regrown wr p.d p.os)).1
      refine wp_region_quiet_below (by kernel_rfl) (by kernel_rfl) ?_
      repeat (go_big_quiet_step ((go_at_call 17; first | exact Calls.regrown_of (d1.out _) | exact Calls.regrown_of (d2.out _))))
      refine wpQuiet_nil ?_
      intro wq hq
      obtain ⟨pq, hq⟩ := hq
      have hbq : Below wr.heap.size wr wq := by rw [hq]; exact below_regrown _ _ _
      clear hq hcq pq
      obtain ⟨hcq, hfq⟩ := bcell hbq
      have zq := hbq.size
      have BQ := Lib.hid (hbr.trans (hbq.mono zr))
      clear hcq hfq hbq x0 x1 x2 q0r
      go_wp2_with fail
      go_roundw
      case rel => exact ⟨k + 1, by omega, by go_num, HN2, BQ.out⟩
      case measure => simp [intOf]; omega
    · obtain rfl : nl = k := by omega
      have hkB : decide (((nl : Nat) : Int) < nl) = false := decide_eq_false (by omega)
      obtain ⟨X2, rfl⟩ : ∃ X2 : World, X2 = wr := ⟨_, rfl⟩
      clear hbr HF1 hkn
      go_wp2_with fail
      clear q0r
      go_loopw [4] (fun i (wr : World) => ∃ j : Nat, j ≤ nb ∧ i = .int .i64 j ∧ Hid (∀ i, i < j → ckBa (baAt bl i) = true) ∧ Below X2.heap.size X2 wr) (fun i _ => nb - (intOf i).toNat)
      case atStart => exact ⟨0, by omega, by simp, Lib.hid (fun j hj => absurd hj (by omega)), Below.refl _ _⟩
      case round =>
        obtain ⟨j, hj, rfl, H2, hbr⟩ := hrel
        have hw2 := Lib.hid (hw.out.trans (hbr.mono hw.out.size))
        have zs := hbr.size
        have HPS := Lib.hid (HPR.out.below hbr l0r)
        have q0s := HPS.out.cell
        have l0s := HPS.out.lt
        by_cases hjn : j < nb
        · have hjB : decide ((j : Int) < nb) = true := decide_eq_true (by omega)
          have vj : IntKind.i64.wrap ((j : Int) + 1) = (j : Int) + 1 := IntWalk.i64_in _ (by omega)
          obtain ⟨b, o, hA, hb, x0, x1, x2, x3⟩ := (HBI.out.later hw2.out).get hjn
          subst hA
          have HF := Lib.hid (HF2.out j hjn)
          have HN : Hid (ckBa (baAt bl j) = true → ∀ i, i < j + 1 → ckBa (baAt bl i) = true) := Lib.hid (fun h i hi => by
            rcases Nat.lt_succ_iff_lt_or_eq.1 hi with h' | rfl
            · exact H2.out i h'
            · exact h)
          obtain ⟨x, hx⟩ : ∃ x, baAt bl j = x := ⟨_, rfl⟩
          rw [hx] at x0 x1 x2 x3 HF HN
          clear hx
          obtain ⟨wt, mi, ld, of⟩ := x
          simp only at x0 x1 x2 x3
          rw [show ckBa ⟨wt, mi, ld, of⟩ = (ask3 wt mi ld && wn of 0 999999999) from rfl] at HF HN
          go_upto_region 12 with (fail)
          go_name_world Y hY
          have BY : Below wr.heap.size wr Y := (al1 hY).1
          have qY := (al1_0 hY).2.1
          have lY := (al1_0 hY).1
          have BF := Lib.hid (hbr.trans (BY.mono zs))
          clear hY x0 x1 x2 x3 q0s l0s
          have d1 := fun V => refAsk3_c wt mi ld V
          have d2 := fun V => refWithin3_c of 0 999999999 V
          cases e1 : ask3 wt mi ld
          · rw [e1] at d1 HF
            have hz30 := Lib.hid (HF.out (by simp))
            replace d1 := Lib.hid d1; replace d2 := Lib.hid d2
            clear e1
            go_wp2_with (first | (go_at_call 7; refine (d1.out _).mono ?_; rintro e w' ⟨rfl, rfl⟩) | (go_at_call 17; refine (d2.out _).mono ?_; rintro e w' ⟨rfl, rfl⟩))
            go_ret
            exact ⟨ret_int hz30.out.symm, hw.out.trans (BF.out.mono hw.out.size)⟩
          rw [e1] at d1 HF HN
          replace d1 := Lib.hid d1
          clear e1
          cases e2 : wn of 0 999999999
          · rw [e2] at d2 HF
            have hz30 := Lib.hid (HF.out (by simp))
            replace d2 := Lib.hid d2
            clear e2
            go_wp2_with (first | (go_at_call 7; refine (d1.out _).mono ?_; rintro e w' ⟨rfl, rfl⟩) | (go_at_call 17; refine (d2.out _).mono ?_; rintro e w' ⟨rfl, rfl⟩))
            go_ret
            exact ⟨ret_int hz30.out.symm, hw.out.trans (BF.out.mono hw.out.size)⟩
          rw [e2] at d2 HN
          replace d2 := Lib.hid d2
          clear e2
          have HN2 := Lib.hid (HN.out (by simp))
          go_wp2_with (first | (go_at_call 7; refine (d1.out _).mono ?_; rintro e w' ⟨rfl, rfl⟩) | (go_at_call 17; refine (d2.out _).mono ?_; rintro e w' ⟨rfl, rfl⟩))
          go_roundw
          case rel => exact ⟨j + 1, by omega, by go_num, HN2, BF.out⟩
          case measure => simp [intOf]; omega
        · obtain rfl : nb = j := by omega
          have hjB : decide (((nb : Nat) : Int) < nb) = false := decide_eq_false (by omega)
          have hz0 := Lib.hid (HT.out H1.out H2.out)
          clear HT H1 H2
          go_wp2_with fail
          go_ret
          exact ⟨ret_int hz0.out.symm, hw2.out⟩
/-- how many settings the first k levers make -/
def nK3 (lv : List Lv) (l0 l1 : Int) : Nat → Int
  | 0 => l1 - l0 + 1
  | k + 1 => nK3 lv l0 l1 k * ((lvAt lv k).hi - (lvAt lv k).lo + 1)
def far3 (nl nb : Nat) (wa l0 l1 wrg : Int) (lv : List Lv) (bl : List Bal) : Bool :=
  decide ((40 : Int) < nl) || (decide ((40 : Int) < nb) || (ckM nl nb wa l0 l1 wrg lv bl && anyN nl fun k => decide (150 < nK3 lv l0 l1 (k + 1))))
theorem far3_no {nl nb : Nat} {wa l0 l1 wrg : Int} {lv : List Lv} {bl : List Bal} (h : far3 nl nb wa l0 l1 wrg lv bl = false) : nl ≤ 40 ∧ nb ≤ 40 := by
  unfold far3 at h
  simp only [Bool.or_eq_false_iff, decide_eq_false_iff_not] at h
  omega
theorem nK3_nn {lv : List Lv} {l0 l1 : Int} (h0 : l0 ≤ l1) {n : Nat} (h : ∀ k, k < n → (lvAt lv k).lo ≤ (lvAt lv k).hi) : ∀ k, k ≤ n → 0 ≤ nK3 lv l0 l1 k
  | 0, _ => by show 0 ≤ l1 - l0 + 1; omega
  | k + 1, hk => Int.mul_nonneg (nK3_nn h0 h k (by omega)) (by have := h k (by omega); omega)
set_option maxRecDepth 100000 in
set_option maxHeartbeats 3200000 in
theorem Far3_c (Al : Option Addr) (nl cl : Nat) (wa l0 l1 : Int) (Ab : Option Addr) (nb cb : Nat) (wrg : Int) (lv : List Lv) (bl : List Bal) (w : World) (HL : LvsAt w Al nl lv) (HB : BasAt w Ab nb bl) :
    Calls Try.prog 4 #[.agg #[.slice Al nl cl, .int .i64 wa, .int .i64 l0, .int .i64 l1, .slice Ab nb cb, .int .i64 wrg]] w fun e w' => e = .returned (.bool (far3 nl nb wa l0 l1 wrg lv bl)) ∧ Below w.heap.size w w' := by
  by_cases g1 : (40 : Int) < nl
  · have gB : decide ((40 : Int) < nl) = true := decide_eq_true g1
    have hf : far3 nl nb wa l0 l1 wrg lv bl = true := by unfold far3; rw [gB]; rfl
    rw [hf]
    clear hf HL HB
    go_enter Try.func4, Try.ntmps4
    go_wp2_with fail
    go_ret
    exact ⟨rfl, by (repeat first | with_reducible assumption | with_reducible exact Below.refl _ _ | (with_reducible refine Below.alloc ?_ ?side _; case side => (first | omega | (with_reducible exact Below.size (by assumption)) | (simp; done) | (simp; omega))) | (with_reducible refine Below.setCell ?_ ?side _; case side => (first | omega | (with_reducible exact Below.size (by assumption)) | (simp; done) | (simp; omega))) | with_reducible refine Below.drew ?_ | with_reducible refine below_drewN ?_ _ | (with_reducible refine below_step (by assumption) ?side ?_; case side => (first | omega | (with_reducible exact Below.size (by assumption)) | (simp; done) | (simp; omega))))⟩
  have g1B : decide ((40 : Int) < nl) = false := decide_eq_false g1
  by_cases g2 : (40 : Int) < nb
  · have gB : decide ((40 : Int) < nb) = true := decide_eq_true g2
    have hf : far3 nl nb wa l0 l1 wrg lv bl = true := by unfold far3; rw [gB, g1B]; rfl
    rw [hf]
    clear hf HL HB
    go_enter Try.func4, Try.ntmps4
    go_wp2_with fail
    go_ret
    exact ⟨rfl, by (repeat first | with_reducible assumption | with_reducible exact Below.refl _ _ | (with_reducible refine Below.alloc ?_ ?side _; case side => (first | omega | (with_reducible exact Below.size (by assumption)) | (simp; done) | (simp; omega))) | (with_reducible refine Below.setCell ?_ ?side _; case side => (first | omega | (with_reducible exact Below.size (by assumption)) | (simp; done) | (simp; omega))) | with_reducible refine Below.drew ?_ | with_reducible refine below_drewN ?_ _ | (with_reducible refine below_step (by assumption) ?side ?_; case side => (first | omega | (with_reducible exact Below.size (by assumption)) | (simp; done) | (simp; omega))))⟩
  have g2B : decide ((40 : Int) < nb) = false := decide_eq_false g2
  have HCK := Lib.hid (fun V (hV : Below w.heap.size w V) => refCheck3_c Al nl cl wa l0 l1 Ab nb cb wrg lv bl V (by omega) (by omega) (HL.later hV) (HB.later hV))
  have hf : far3 nl nb wa l0 l1 wrg lv bl = (ckM nl nb wa l0 l1 wrg lv bl && anyN nl fun k => decide (150 < nK3 lv l0 l1 (k + 1))) := by unfold far3; rw [g1B, g2B]; rfl
  rw [hf]
  have hok := fun h => (okM_of (nl := nl) (nb := nb) (wa := wa) (l0 := l0) (l1 := l1) (wrg := wrg) (lv := lv) (bl := bl) h HL.1 HB.1).1
  have HLI := Lib.hid HL
  obtain ⟨ck, hck⟩ : ∃ c, ckM nl nb wa l0 l1 wrg lv bl = c := ⟨_, rfl⟩
  rw [hck] at HCK hok ⊢
  clear hf hck HL HB
  cases ck
  · rw [show erM false = 30 from rfl] at HCK
    rw [Bool.false_and]
    clear hok
    go_enter Try.func4, Try.ntmps4
    go_upto_region 3 with (fail)
    go_name_world X hX
    have BX : Below w.heap.size w X := by rw [← hX]; (repeat first | with_reducible assumption | with_reducible exact Below.refl _ _ | (with_reducible refine Below.alloc ?_ ?side _; case side => (first | omega | (with_reducible exact Below.size (by assumption)) | (simp; done) | (simp; omega))) | (with_reducible refine Below.setCell ?_ ?side _; case side => (first | omega | (with_reducible exact Below.size (by assumption)) | (simp; done) | (simp; omega))) | with_reducible refine Below.drew ?_ | with_reducible refine below_drewN ?_ _ | (with_reducible refine below_step (by assumption) ?side ?_; case side => (first | omega | (with_reducible exact Below.size (by assumption)) | (simp; done) | (simp; omega))))
    have q0 : ∀ j, X.cell? ⟨w.heap.size, j, none⟩ = #[Value.slice Al nl cl, .int .i64 wa, .int .i64 l0, .int .i64 l1, .slice Ab nb cb, .int .i64 wrg][j]? := by rw [← hX]; exact (Blk.new w _ _).cell
    have l0 : w.heap.size < X.heap.size := by rw [← hX]; simp
    clear hX
    go_wp2_with (go_at_call 5; refine (HCK.out X BX).mono ?_; (rintro e w1 ⟨rfl, hb1⟩); (have B1 := BX.trans (hb1.mono BX.size)); clear hb1)
    go_ret
    exact ⟨rfl, B1⟩
  rw [show erM true = 0 from rfl] at HCK
  rw [Bool.true_and]
  have ok := hok rfl
  have hnl := ok.nl3
  have hlk := ok.lk
  have HLV := Lib.hid (fun k (hk : k < nl) => ok.lv k hk)
  have HNN := Lib.hid (nK3_nn (lv := lv) (l0 := l0) (l1 := l1) hlk.2.1 (n := nl) (fun k hk => (ok.lv k hk).2.1))
  have HS : Hid (∀ k, nK3 lv l0 l1 (k + 1) = nK3 lv l0 l1 k * ((lvAt lv k).hi - (lvAt lv k).lo + 1)) := Lib.hid fun k => rfl
  have H0 : Hid (nK3 lv l0 l1 0 = l1 - l0 + 1) := Lib.hid rfl
  obtain ⟨F, hF⟩ : ∃ F, nK3 lv l0 l1 = F := ⟨_, rfl⟩
  rw [hF] at HS H0 HNN ⊢
  have HY : Hid (∀ k, k < nl → 150 < F (k + 1) → (anyN nl fun k => decide (150 < F (k + 1))) = true) := Lib.hid fun k hk h => anyN_yes hk (decide_eq_true h)
  have HN : Hid ((∀ k, k < nl → ¬150 < F (k + 1)) → (anyN nl fun k => decide (150 < F (k + 1))) = false) := Lib.hid fun h => anyN_no fun k hk => decide_eq_false (h k hk)
  obtain ⟨R, hR⟩ : ∃ R, (anyN nl fun k => decide (150 < F (k + 1))) = R := ⟨_, rfl⟩
  rw [hR] at HY HN ⊢
  clear hok ok hF hR
  go_enter Try.func4, Try.ntmps4
  go_upto_region 3 with (fail)
  go_name_world X hX
  have BX : Below w.heap.size w X := by rw [← hX]; (repeat first | with_reducible assumption | with_reducible exact Below.refl _ _ | (with_reducible refine Below.alloc ?_ ?side _; case side => (first | omega | (with_reducible exact Below.size (by assumption)) | (simp; done) | (simp; omega))) | (with_reducible refine Below.setCell ?_ ?side _; case side => (first | omega | (with_reducible exact Below.size (by assumption)) | (simp; done) | (simp; omega))) | with_reducible refine Below.drew ?_ | with_reducible refine below_drewN ?_ _ | (with_reducible refine below_step (by assumption) ?side ?_; case side => (first | omega | (with_reducible exact Below.size (by assumption)) | (simp; done) | (simp; omega))))
  have HPX : Hid (Blk X w.heap.size 27 #[Value.slice Al nl cl, .int .i64 wa, .int .i64 l0, .int .i64 l1, .slice Ab nb cb, .int .i64 wrg]) := by rw [← hX]; exact Lib.hid (Blk.new w _ _)
  have q0 := HPX.out.cell
  have l0' := HPX.out.lt
  have v0 : IntKind.i64.wrap (l1 - l0) = l1 - l0 := IntWalk.i64_in _ (by omega)
  have v1 : IntKind.i64.wrap (l1 - l0 + 1) = l1 - l0 + 1 := IntWalk.i64_in _ (by omega)
  clear hX
  go_wp2_with (go_at_call 5; refine (HCK.out X BX).mono ?_; (rintro e w1 ⟨rfl, hb1⟩); (have B1 := BX.trans (hb1.mono BX.size)); (have HP1 := Lib.hid (HPX.out.below hb1 HPX.out.lt)); (have q1 := HP1.out.cell); (have l1' := HP1.out.lt); clear hb1 q0 l0')
  clear q1
  go_loopw [3, 4] (fun v i (wr : World) => ∃ k : Nat, k ≤ nl ∧ i = .int .i64 k ∧ v = .int .i64 (F k) ∧ F k ≤ 150 ∧ Hid (∀ j, j < k → ¬150 < F (j + 1)) ∧ Below w1.heap.size w1 wr) (fun _ i _ => nl - (intOf i).toNat)
  case atStart => exact ⟨0, by omega, by simp, by rw [H0.out], by rw [H0.out]; omega, Lib.hid (fun j hj => absurd hj (by omega)), Below.refl _ _⟩
  case round =>
    obtain ⟨k, hk, rfl, rfl, h150, H1, hbr⟩ := hrel
    have zr := hbr.size
    have HPR := Lib.hid (HP1.out.below hbr l1')
    have qR := HPR.out.cell
    have lR := HPR.out.lt
    have hw := Lib.hid (B1.trans (hbr.mono B1.size))
    have hnn := HNN.out k hk
    by_cases hkn : k < nl
    · have hkB : decide ((k : Int) < nl) = true := decide_eq_true (by omega)
      have vk : IntKind.i64.wrap ((k : Int) + 1) = (k : Int) + 1 := IntWalk.i64_in _ (by omega)
      obtain ⟨b, o, hA, hb, x0, x1, x2⟩ := (HLI.out.later hw.out).get hkn
      subst hA
      have hlv := HLV.out k hkn
      have HSK := HS.out k
      have HYK := Lib.hid (HY.out k hkn)
      obtain ⟨x, hx⟩ : ∃ x, lvAt lv k = x := ⟨_, rfl⟩
      rw [hx] at x1 x2 hlv HSK
      obtain ⟨f, hf⟩ : ∃ f, F k = f := ⟨_, rfl⟩
      rw [hf] at HSK h150 hnn ⊢
      obtain ⟨g, hg⟩ : ∃ g, F (k + 1) = g := ⟨_, rfl⟩
      rw [hg] at HSK HYK
      obtain ⟨lg, lo, hi⟩ := x
      simp only at x1 x2 hlv HSK
      have hp0 : 0 ≤ f * (hi - lo + 1) := Int.mul_nonneg hnn (by omega)
      have hp1 : f * (hi - lo + 1) ≤ 150 * 1000 := Int.mul_le_mul h150 (by omega) (by omega) (by omega)
      have v2 : IntKind.i64.wrap (hi - lo) = hi - lo := IntWalk.i64_in _ (by omega)
      have v3 : IntKind.i64.wrap (hi - lo + 1) = hi - lo + 1 := IntWalk.i64_in _ (by omega)
      have v4 : IntKind.i64.wrap (f * (hi - lo + 1)) = g := by rw [HSK]; exact IntWalk.i64_in _ (by omega)
      have HG := Lib.hid hg
      have HXX := Lib.hid hx
      clear HSK hg hf hp0 hp1 hx
      go_upto_region 9 with (fail)
      have hcq := fun p : Regrown => (bcell (below_regrown wr p.d p.os)).1
      refine wp_region_quiet_below (by kernel_rfl) (by kernel_rfl) ?_
      repeat (go_big_quiet_step ((fail)))
      refine wpQuiet_nil ?_
      intro wq hq
      obtain ⟨pq, hq⟩ := hq
      have hbq : Below wr.heap.size wr wq := by rw [hq]; exact below_regrown _ _ _
      clear hq hcq pq
      obtain ⟨hcq, hfq⟩ := bcell hbq
      have zq := hbq.size
      have BQ := Lib.hid (hbr.trans (hbq.mono zr))
      clear hcq hfq hbq x0 x1 x2 qR
      by_cases h1 : 150 < g
      · have hB : decide (150 < g) = true := decide_eq_true h1
        have hR := Lib.hid (HYK.out h1)
        go_wp2_with fail
        go_ret
        exact ⟨ret_bool hR.out.symm, B1.trans (BQ.out.mono B1.size)⟩
      · have hB : decide (150 < g) = false := decide_eq_false h1
        go_wp2_with fail
        go_roundw
        case rel =>
          refine ⟨k + 1, by omega, by go_num, by rw [HG.out], by rw [HG.out]; omega, Lib.hid (fun j hj => ?_), BQ.out⟩
          rcases Nat.lt_succ_iff_lt_or_eq.1 hj with h | rfl
          · exact H1.out j h
          · rw [HG.out]; exact h1
        case measure => simp [intOf]; omega
    · obtain rfl : nl = k := by omega
      have hkB : decide (((nl : Nat) : Int) < nl) = false := decide_eq_false (by omega)
      have hR := Lib.hid (HN.out (fun j hj => by have := H1.out j hj; omega))
      go_wp2_with fail
      go_ret
      exact ⟨ret_bool hR.out.symm, hw.out⟩

end Go.Proofs.Ytcinhibmohkeiaa
