/- IsTruth of the specification (layer 4). -/
import Derived.Test.YtjlibgledkdfiaaTw4
import Derived.Shelf.Abstract
import Derived.Laws.EntriesVeiled
import Derived.Handy
import Derived.Deep.DrawnRows
import Derived.Deep.DeepCutAuto
namespace Go.Proofs.Ytjlibgledkdfiaa
open Go.RowKit
open Go.Sort (grow)
set_option linter.unusedVariables false

theorem refWithin4_b (n a b : Int) (w : World) :
    Calls Try.prog 64 #[.int .i64 n, .int .i64 a, .int .i64 b] w fun e w' => e = .returned (.bool (wn n a b)) ∧ Below w.heap.size w w' :=
  (refWithin4_c n a b w).mono fun e w' h => ⟨h.1, by rw [← h.2]; exact Below.refl _ _⟩
set_option maxRecDepth 100000 in
set_option maxHeartbeats 3200000 in
theorem refTruth4_c (Ar : Option Addr) (nr cr : Nat) (Ad : Option Addr) (nd cd : Nat) (p : P4) (T : Option Addr) (nt ct : Nat) (us : List Int) (b a : Int) (w : World) (ok : Ok4 nr nd p) (HM : MemP Ar nr Ad nd p w) (HT : IntsAt w T nt us) (hnt : nt ≤ 40) :
    Calls Try.prog 42 #[.agg #[.int .i64 p.ir, .int .i64 p.glo, .int .i64 p.ghi, .slice Ar nr cr, .slice Ad nd cd, .int .i64 p.wr], .agg #[.int .i64 b, .int .i64 a, .slice T nt ct]] w
      fun e w' => e = .returned (.bool (isT4 p us b a)) ∧ Below w.heap.size w w' := by
  have hg := ok.g
  have hul : us.length = nt := HT.1
  have HW1 := fun V => refWithin4_c b p.glo p.ghi V
  have HW2 := fun V => refWithin4_c a p.glo p.ghi V
  have hI : isT4 p us b a = (wn b p.glo p.ghi && (wn a p.glo p.ghi && (nt == nr && (allN nt (fun k => wn (iAt us k) ((roAt p.rods k).lg - (roAt p.rods k).we) (roAt p.rods k).lg) && decide ((cw4 (rgT4 p us b a) nd : Int) ≤ p.wr))))) := by
    unfold isT4; rw [hul, ok.lr, ok.ld]
  rw [hI]
  cases e1 : wn b p.glo p.ghi
  · rw [e1] at HW1
    replace HW1 := Lib.hid HW1
    replace HW2 := Lib.hid HW2
    rw [Bool.false_and]
    clear hI e1 hg ok HM HT hul
    obtain ⟨ir, glo, ghi, wrg, rods, res⟩ := p
    simp only at HW1 HW2 ⊢
    go_enter Try.func42, Try.ntmps42
    go_upto_region 1 with (fail)
    go_name_world W hW
    obtain ⟨hB, hz⟩ := al2 hW
    obtain ⟨l_0, q_0, f_0⟩ := al2_0 hW
    obtain ⟨l_1, q_1, f_1⟩ := al2_1 hW
    have HZ := Lib.hid hz
    have zs := hB.size
    clear hW hz
    go_wp2_with (go_at_call 64; (first | with_reducible refine (HW1.out _).mono ?_ | with_reducible refine (HW2.out _).mono ?_); rintro e w' ⟨rfl, rfl⟩)
    go_ret
    exact ⟨rfl, hB⟩
  rw [e1] at HW1
  have h1 := wn_true.1 e1
  replace HW1 := Lib.hid HW1
  rw [Bool.true_and]
  cases e2 : wn a p.glo p.ghi
  · rw [e2] at HW2
    replace HW2 := Lib.hid HW2
    rw [Bool.false_and]
    clear hI e1 e2 hg ok HM HT hul h1
    obtain ⟨ir, glo, ghi, wrg, rods, res⟩ := p
    simp only at HW1 HW2 ⊢
    go_enter Try.func42, Try.ntmps42
    go_upto_region 1 with (fail)
    go_name_world W hW
    obtain ⟨hB, hz⟩ := al2 hW
    obtain ⟨l_0, q_0, f_0⟩ := al2_0 hW
    obtain ⟨l_1, q_1, f_1⟩ := al2_1 hW
    have HZ := Lib.hid hz
    have zs := hB.size
    clear hW hz
    go_wp2_with (go_at_call 64; (first | with_reducible refine (HW1.out _).mono ?_ | with_reducible refine (HW2.out _).mono ?_); rintro e w' ⟨rfl, rfl⟩)
    go_ret
    exact ⟨rfl, hB⟩
  rw [e2] at HW2
  have h2 := wn_true.1 e2
  replace HW2 := Lib.hid HW2
  rw [Bool.true_and]
  cases e3 : (nt == nr)
  · have e3B : (((nt : Int)) == ((nr : Nat) : Int)) = false := by
      have : nt ≠ nr := by simpa using e3
      simp; omega
    have e3C : (((nt : Int)) != ((nr : Nat) : Int)) = true := by simpa [bne] using e3B
    have e3N : ¬ nt = nr := by simpa using e3
    rw [Bool.false_and]
    clear hI e1 e2 hg ok HM HT hul h1 h2
    obtain ⟨ir, glo, ghi, wrg, rods, res⟩ := p
    simp only at HW1 HW2 ⊢
    go_enter Try.func42, Try.ntmps42
    go_upto_region 1 with (fail)
    go_name_world W hW
    obtain ⟨hB, hz⟩ := al2 hW
    obtain ⟨l_0, q_0, f_0⟩ := al2_0 hW
    obtain ⟨l_1, q_1, f_1⟩ := al2_1 hW
    have HZ := Lib.hid hz
    have zs := hB.size
    clear hW hz
    go_wp2_with (go_at_call 64; (first | with_reducible refine (HW1.out _).mono ?_ | with_reducible refine (HW2.out _).mono ?_); rintro e w' ⟨rfl, rfl⟩)
    go_ret
    exact ⟨rfl, hB⟩
  obtain rfl : nt = nr := by simpa using e3
  rw [Bool.true_and]
  have HTI := Lib.hid HT
  have HMI := Lib.hid HM
  have hnr4 := ok.nr4
  have HWG := Lib.hid (fun (hall : ∀ k, k < nt → wn (iAt us k) ((roAt p.rods k).lg - (roAt p.rods k).we) (roAt p.rods k).lg = true) V (hV : Below w.heap.size w V) => refWrongs4_c Ar nt cr Ad nd cd p T ct us b a V ok (HM.later hV) (HT.later hV) (by omega) (by omega) (fun q hq => by
    have h3 := wn_true.1 (hall q hq)
    have h4 := ok.ro q hq
    omega))
  have HRO := Lib.hid (fun k (hk : k < nt) => (ok.ro k hk))
  obtain ⟨f, hf⟩ : ∃ f, (fun k => wn (iAt us k) ((roAt p.rods k).lg - (roAt p.rods k).we) (roAt p.rods k).lg) = f := ⟨_, rfl⟩
  have HF := Lib.hid (fun k => congrFun hf k)
  obtain ⟨cw, hcw⟩ : ∃ c, cw4 (rgT4 p us b a) nd = c := ⟨_, rfl⟩
  have hcl := cw4_le (f := rgT4 p us b a) (k := nd)
  rw [hcw] at HWG hcl ⊢
  rw [hf]
  have hnd8 := ok.nd8
  have hbeq : (((nt : Int)) == ((nt : Nat) : Int)) = true := by simp
  clear hI e1 e2 e3 hg ok HM HT hul h1 h2 hf hcw
  obtain ⟨ir, glo, ghi, wrg, rods, res⟩ := p
  simp only at HW1 HW2 HMI HWG HRO HF ⊢
  go_enter Try.func42, Try.ntmps42
  go_upto_region 1 with (fail)
  go_name_world W hW
  obtain ⟨hB, hz⟩ := al2 hW
  obtain ⟨l_0, q_0, f_0⟩ := al2_0 hW
  obtain ⟨l_1, q_1, f_1⟩ := al2_1 hW
  have HZ := Lib.hid hz
  have zs := hB.size
  clear hW hz
  go_wp2_with (go_at_call 64; (first | with_reducible refine (HW1.out _).mono ?_ | with_reducible refine (HW2.out _).mono ?_); rintro e w' ⟨rfl, rfl⟩)
  go_loopw [5] (fun i (wr : World) => ∃ k : Nat, k ≤ nt ∧ i = .int .i64 k ∧ Hid (∀ j, j < k → f j = true) ∧ Below W.heap.size W wr) (fun i _ => nt - (intOf i).toNat)
  case atStart => exact ⟨0, by omega, by simp, Lib.hid (fun j hj => absurd hj (by omega)), Below.refl _ _⟩
  case round =>
    obtain ⟨k, hk, rfl, H, hb⟩ := hrel
    have zb := hb.size
    have cx := fun i => (hb.cell (p := ⟨w.heap.size, i, none⟩) l_0).trans (q_0 i)
    have cy := fun i => (hb.cell (p := ⟨w.heap.size + 1, i, none⟩) l_1).trans (q_1 i)
    have lr0 : w.heap.size < wr.heap.size := by omega
    have lr1 : w.heap.size + 1 < wr.heap.size := by omega
    have hbw := hB.trans (hb.mono zs)
    by_cases hlt : k < nt
    · have hqB : decide ((k : Int) < nt) = true := by simp; omega
      have vk : IntKind.i64.wrap ((k : Int) + 1) = (k : Int) + 1 := IntWalk.i64_in _ (by omega)
      obtain ⟨bt, ot, hA, hbt, t0⟩ := (HTI.out.later hbw).get hlt
      subst hA
      obtain ⟨br, or', hA, hbr, y0, y1, y2⟩ := (HMI.out.hr.later hbw).get hlt
      subst hA
      have hro := HRO.out k hlt
      have hfk := HF.out k
      obtain ⟨x, hx⟩ : ∃ x, iAt us k = x := ⟨_, rfl⟩
      rw [hx] at t0 hfk
      obtain ⟨⟨lg, we, gr⟩, hr⟩ : ∃ r, roAt rods k = r := ⟨_, rfl⟩
      rw [hr] at y0 y1 y2 hro hfk
      simp only at y0 y1 y2 hro hfk
      have v1 : IntKind.i64.wrap (lg - we) = lg - we := IntWalk.i64_in _ (by omega)
      have HC := fun V => refWithin4_b x (lg - we) lg V
      rw [hfk] at HC
      have HFK := Lib.hid hfk
      clear hx hr hfk hro
      cases e1 : f k
      · rw [e1] at HC
        replace HC := Lib.hid HC
        have hA : allN nt f = false := allN_no hlt e1
        have HA := Lib.hid hA
        clear hA e1
        go_upto_region 6 with (fail)
        have hcq := fun p : Regrown => (bcell (below_regrown wr p.d p.os)).1
        refine wp_region_quiet_below (by kernel_rfl) (by kernel_rfl) ?_
        repeat (go_big_quiet_step ((go_at_call 64; exact Calls.regrown_of (HC.out _))))
        refine wpQuiet_nil ?_
        intro wq hq
        obtain ⟨pq, hq⟩ := hq
        have hbq : Below wr.heap.size wr wq := by rw [hq]; exact below_regrown _ _ _
        clear hq hcq pq
        obtain ⟨hcq, hfq⟩ := bcell hbq
        have zq := hbq.size
        have BQ := Lib.hid (hbw.trans (hbq.mono hbw.size))
        clear hcq hfq hbq cx cy
        go_wp2_with fail
        go_ret
        exact ⟨ret_bool (by rw [HA.out] <;> rfl), BQ.out⟩
      · rw [e1] at HC
        replace HC := Lib.hid HC
        have HN : Hid (∀ j, j < k + 1 → f j = true) := Lib.hid (fun j hj => by
          rcases Nat.lt_succ_iff_lt_or_eq.1 hj with h | rfl
          · exact H.out j h
          · exact e1)
        clear e1
        go_upto_region 6 with (fail)
        have hcq := fun p : Regrown => (bcell (below_regrown wr p.d p.os)).1
        refine wp_region_quiet_below (by kernel_rfl) (by kernel_rfl) ?_
        repeat (go_big_quiet_step ((go_at_call 64; exact Calls.regrown_of (HC.out _))))
        refine wpQuiet_nil ?_
        intro wq hq
        obtain ⟨pq, hq⟩ := hq
        have hbq : Below wr.heap.size wr wq := by rw [hq]; exact below_regrown _ _ _
        clear hq hcq pq
        obtain ⟨hcq, hfq⟩ := bcell hbq
        have zq := hbq.size
        have BQ := Lib.hid (hb.trans (hbq.mono zb))
        clear hcq hfq hbq cx cy
        go_wp2_with fail
        go_roundw
        case rel => exact ⟨k + 1, by omega, by go_num, HN, BQ.out⟩
        case measure => simp [intOf]; omega
    · obtain rfl : nt = k := by omega
      have hqB : decide (((nt : Nat) : Int) < nt) = false := by simp
      have HA := Lib.hid (allN_iff.2 H.out)
      have HC := Lib.hid (HWG.out (fun k hk => by rw [HF.out k]; exact H.out k hk))
      clear H
      go_upto_region 8 with (fail)
      have hcq := fun p : Regrown => (bcell (below_regrown wr p.d p.os)).1
      refine wp_region_quiet_below (by kernel_rfl) (by kernel_rfl) ?_
      repeat (go_big_quiet_step ((go_at_call 45; exact Calls.regrown_of (HC.out _ (hbw.trans ((below_regrown _ _ _).mono hbw.size))))))
      refine wpQuiet_nil ?_
      intro wq hq
      obtain ⟨pq, hq⟩ := hq
      have hbq : Below wr.heap.size wr wq := by rw [hq]; exact below_regrown _ _ _
      clear hq hcq pq
      obtain ⟨hcq, hfq⟩ := bcell hbq
      have zq := hbq.size
      have BQ := Lib.hid (hbw.trans (hbq.mono hbw.size))
      clear hcq hfq hbq cx cy
      go_wp2_with fail
      go_ret
      exact ⟨ret_bool (by rw [HA.out] <;> simp), BQ.out⟩

set_option maxRecDepth 100000 in
set_option maxHeartbeats 6400000 in
theorem strtrue4_c (Ar : Option Addr) (nr cr : Nat) (Ad : Option Addr) (nd cd : Nat) (p : P4) (T : Option Addr) (nt ct : Nat) (us : List Int) (b a pt : Int) (w : World) (HM : MemP Ar nr Ad nd p w) (HT : IntsAt w T nt us) :
    Calls Try.prog 10 #[.agg #[.int .i64 p.ir, .int .i64 p.glo, .int .i64 p.ghi, .slice Ar nr cr, .slice Ad nd cd, .int .i64 p.wr], .agg #[.int .i64 b, .int .i64 a, .slice T nt ct], .int .i64 pt] w fun e w' => e = .returned (.bool true) ∧ Below w.heap.size w w' := by
  have HRD := Lib.hid (fun V (hV : Below w.heap.size w V) => ready4_c Ar nr cr Ad nd cd p V (HM.later hV))
  cases hrd : ready4 p
  · rw [hrd] at HRD
    clear hrd HM HT
    obtain ⟨ir, glo, ghi, wrg, rods, res⟩ := p
    simp only at HRD ⊢
    go_enter Try.func10, Try.ntmps10
    go_upto_region 1 with (fail)
    go_name_world X hX
    have BX : Below w.heap.size w X := (al2 hX).1
    have HPX : Hid (Blk X w.heap.size 27 #[.int .i64 ir, .int .i64 glo, .int .i64 ghi, .slice Ar nr cr, .slice Ad nd cd, .int .i64 wrg]) := by rw [← hX]; exact Lib.hid ((Blk.new w _ _).alloc _)
    have HTX : Hid (Blk X (w.heap.size + 1) 63 #[.int .i64 b, .int .i64 a, .slice T nt ct]) := by
      rw [← hX]
      have := Blk.new (w.alloc (.cells #[.int .i64 ir, .int .i64 glo, .int .i64 ghi, .slice Ar nr cr, .slice Ad nd cd, .int .i64 wrg] 27)) 63 #[.int .i64 b, .int .i64 a, .slice T nt ct]
      rw [World.size_alloc] at this
      exact Lib.hid this
    have qX := HPX.out.cell
    have lX := HPX.out.lt
    have pX := HTX.out.cell
    have gX := HTX.out.lt
    clear hX
    go_wp2_with (first | (go_at_call 12; refine (HRD.out X BX).mono ?_; (rintro e w1 ⟨rfl, hb1⟩); (have B1 := BX.trans (hb1.mono BX.size)); clear hb1) | (go_at_call 13; refine (works4_c _).mono ?_; (rintro e w9 ⟨rfl, hb9⟩); (have B9 := B1.trans (hb9.mono B1.size)); clear hb9))
    go_ret
    exact ⟨rfl, B9⟩
  rw [hrd] at HRD
  have rdy := ready4_iff hrd
  have hr := HM.hr.1
  have hd := HM.hd.1
  have ok : Ok4 nr nd p := ok4_of rdy.ck hr hd
  by_cases hnt : nt ≤ 40
  case neg =>
    have hntB : decide ((40 : Int) < nt) = true := by simp; omega
    clear hrd HM HT rdy hr hd ok
    obtain ⟨ir, glo, ghi, wrg, rods, res⟩ := p
    simp only at HRD ⊢
    go_enter Try.func10, Try.ntmps10
    go_upto_region 1 with (fail)
    go_name_world X hX
    have BX : Below w.heap.size w X := (al2 hX).1
    have HPX : Hid (Blk X w.heap.size 27 #[.int .i64 ir, .int .i64 glo, .int .i64 ghi, .slice Ar nr cr, .slice Ad nd cd, .int .i64 wrg]) := by rw [← hX]; exact Lib.hid ((Blk.new w _ _).alloc _)
    have HTX : Hid (Blk X (w.heap.size + 1) 63 #[.int .i64 b, .int .i64 a, .slice T nt ct]) := by
      rw [← hX]
      have := Blk.new (w.alloc (.cells #[.int .i64 ir, .int .i64 glo, .int .i64 ghi, .slice Ar nr cr, .slice Ad nd cd, .int .i64 wrg] 27)) 63 #[.int .i64 b, .int .i64 a, .slice T nt ct]
      rw [World.size_alloc] at this
      exact Lib.hid this
    have qX := HPX.out.cell
    have lX := HPX.out.lt
    have pX := HTX.out.cell
    have gX := HTX.out.lt
    clear hX
    go_wp2_with (first | (go_at_call 12; refine (HRD.out X BX).mono ?_; (rintro e w1 ⟨rfl, hb1⟩); (have B1 := BX.trans (hb1.mono BX.size)); (have HT1 := Lib.hid (HTX.out.below hb1 HTX.out.lt)); (have p1 := HT1.out.cell); (have g1 := HT1.out.lt); clear hb1 qX lX pX gX) | (go_at_call 13; refine (works4_c _).mono ?_; (rintro e w9 ⟨rfl, hb9⟩); (have B9 := B1.trans (hb9.mono B1.size)); clear hb9))
    go_ret
    exact ⟨rfl, B9⟩
  have hntB : decide ((40 : Int) < nt) = false := by simp; omega
  have HIT := fun V (hV : Below w.heap.size w V) => refTruth4_c Ar nr cr Ad nd cd p T nt ct us b a V ok (HM.later hV) (HT.later hV) hnt
  have HPT := fun V => isPart4_c pt V
  cases his : isT4 p us b a
  · rw [his] at HIT
    replace HIT := Lib.hid HIT
    replace HPT := Lib.hid HPT
    clear hrd HM HT rdy hr hd ok his
    obtain ⟨ir, glo, ghi, wrg, rods, res⟩ := p
    simp only at HRD HIT ⊢
    go_enter Try.func10, Try.ntmps10
    go_upto_region 1 with (fail)
    go_name_world X hX
    have BX : Below w.heap.size w X := (al2 hX).1
    have HPX : Hid (Blk X w.heap.size 27 #[.int .i64 ir, .int .i64 glo, .int .i64 ghi, .slice Ar nr cr, .slice Ad nd cd, .int .i64 wrg]) := by rw [← hX]; exact Lib.hid ((Blk.new w _ _).alloc _)
    have HTX : Hid (Blk X (w.heap.size + 1) 63 #[.int .i64 b, .int .i64 a, .slice T nt ct]) := by
      rw [← hX]
      have := Blk.new (w.alloc (.cells #[.int .i64 ir, .int .i64 glo, .int .i64 ghi, .slice Ar nr cr, .slice Ad nd cd, .int .i64 wrg] 27)) 63 #[.int .i64 b, .int .i64 a, .slice T nt ct]
      rw [World.size_alloc] at this
      exact Lib.hid this
    have qX := HPX.out.cell
    have lX := HPX.out.lt
    have pX := HTX.out.cell
    have gX := HTX.out.lt
    clear hX
    go_wp2_with (first | (go_at_call 12; refine (HRD.out X BX).mono ?_; (rintro e w1 ⟨rfl, hb1⟩); (have B1 := BX.trans (hb1.mono BX.size)); (have HP1 := Lib.hid (HPX.out.below hb1 HPX.out.lt)); (have HT1 := Lib.hid (HTX.out.below hb1 HTX.out.lt)); (have q1 := HP1.out.cell); (have l1 := HP1.out.lt); (have p1 := HT1.out.cell); (have g1 := HT1.out.lt); clear hb1 qX lX pX gX) | (go_at_call 43; refine (HPT.out _).mono ?_; rintro e w' ⟨rfl, rfl⟩) | (go_at_call 42; refine (HIT.out w1 B1).mono ?_; (rintro e w2 ⟨rfl, hb2⟩); (have B2 := B1.trans (hb2.mono B1.size)); clear hb2) | (go_at_call 13; refine (works4_c _).mono ?_; (rintro e w9 ⟨rfl, hb9⟩); (have B9 : Below w.heap.size w w9 := by first | exact B2.trans (hb9.mono B2.size) | exact B1.trans (hb9.mono B1.size)); clear hb9))
    go_ret
    exact ⟨rfl, B9⟩
  rw [his] at HIT
  cases hpt : wn pt 0 1000
  · rw [hpt] at HPT
    replace HIT := Lib.hid HIT
    replace HPT := Lib.hid HPT
    clear hrd HM HT rdy hr hd ok his hpt
    obtain ⟨ir, glo, ghi, wrg, rods, res⟩ := p
    simp only at HRD HIT ⊢
    go_enter Try.func10, Try.ntmps10
    go_upto_region 1 with (fail)
    go_name_world X hX
    have BX : Below w.heap.size w X := (al2 hX).1
    have HPX : Hid (Blk X w.heap.size 27 #[.int .i64 ir, .int .i64 glo, .int .i64 ghi, .slice Ar nr cr, .slice Ad nd cd, .int .i64 wrg]) := by rw [← hX]; exact Lib.hid ((Blk.new w _ _).alloc _)
    have HTX : Hid (Blk X (w.heap.size + 1) 63 #[.int .i64 b, .int .i64 a, .slice T nt ct]) := by
      rw [← hX]
      have := Blk.new (w.alloc (.cells #[.int .i64 ir, .int .i64 glo, .int .i64 ghi, .slice Ar nr cr, .slice Ad nd cd, .int .i64 wrg] 27)) 63 #[.int .i64 b, .int .i64 a, .slice T nt ct]
      rw [World.size_alloc] at this
      exact Lib.hid this
    have qX := HPX.out.cell
    have lX := HPX.out.lt
    have pX := HTX.out.cell
    have gX := HTX.out.lt
    clear hX
    go_wp2_with (first | (go_at_call 12; refine (HRD.out X BX).mono ?_; (rintro e w1 ⟨rfl, hb1⟩); (have B1 := BX.trans (hb1.mono BX.size)); (have HP1 := Lib.hid (HPX.out.below hb1 HPX.out.lt)); (have HT1 := Lib.hid (HTX.out.below hb1 HTX.out.lt)); (have q1 := HP1.out.cell); (have l1 := HP1.out.lt); (have p1 := HT1.out.cell); (have g1 := HT1.out.lt); clear hb1 qX lX pX gX) | (go_at_call 43; refine (HPT.out _).mono ?_; rintro e w' ⟨rfl, rfl⟩) | (go_at_call 42; refine (HIT.out w1 B1).mono ?_; (rintro e w2 ⟨rfl, hb2⟩); (have B2 := B1.trans (hb2.mono B1.size)); clear hb2) | (go_at_call 13; refine (works4_c _).mono ?_; (rintro e w9 ⟨rfl, hb9⟩); (have B9 : Below w.heap.size w w9 := by first | exact B2.trans (hb9.mono B2.size) | exact B1.trans (hb9.mono B1.size)); clear hb9))
    go_ret
    exact ⟨rfl, B9⟩
  rw [hpt] at HPT
  have hpb := wn_true.1 hpt
  obtain ⟨hul, ht⟩ := (isT4_iff ok).1 his
  obtain rfl : nr = nt := by rw [← hul]; exact HT.1
  have hnr4 := ok.nr4
  have hnd8 := ok.nd8
  have hg := ok.g
  have hnr : nr ≤ 40 := hnt
  have hnd : nd ≤ 40 := by omega
  have hop : op4 p true = 0 := (op4_truth rdy.ck).2 ⟨_, _, _, ht⟩
  have hne := tr4_ne ht
  obtain ⟨hu, hbm, ham, hwr⟩ := ht
  have ht : Tr4 p (uT4 us) b a := ⟨hu, hbm, ham, hwr⟩
  have hbr := ups_mem.1 hbm
  have har := ups_mem.1 ham
  have hus : ∀ q, q < nr → 0 ≤ iAt us q ∧ iAt us q ≤ 9999 := fun q hq => by
    have h1 := ((mem_ws4 (by rw [ok.lr]; exact ok.nr4)).1 hu).1 q (by rw [ok.lr]; exact hq)
    have h2 := ok.ro q hq
    rw [uT4_at (by omega)] at h1
    omega
  have HL1 := fun V (hV : Below w.heap.size w V) => lengths4_c Ar nr cr Ad nd cd p 1 V hnr hnd (HM.later hV) rdy.len
  have HL2 := fun V (hV : Below w.heap.size w V) => lengths4_c Ar nr cr Ad nd cd p 2 V hnr hnd (HM.later hV) rdy.len
  have HST := fun V (hV : Below w.heap.size w V) => stretch4_c Ar nr cr Ad nd cd p V hnr hnd (HM.later hV) rdy.len
  have HHO := fun V (hV : Below w.heap.size w V) => Holds4_c Ar nr cr Ad nd cd p pt V hnr hnd (HM.later hV) rdy.len
  have HSG := fun V (hV : Below w.heap.size w V) => strange4_c Ar nr cr Ad nd cd p V hnr hnd (HM.later hV) rdy.len
  have HFW := fun V (hV : Below w.heap.size w V) => fewest4_c Ar nr cr Ad nd cd p V hnr hnd (HM.later hV)
  have HRO := fun (q : Nat) (hq : q < nr) V (hV : Below w.heap.size w V) => rods4_c Ar nr cr Ad nd cd p (q : Int) V hnr hnd (HM.later hV) rdy.len
  have HWG := fun V (hV : Below w.heap.size w V) => refWrongs4_c Ar nr cr Ad nd cd p T ct us b a V ok (HM.later hV) (HT.later hV) (by omega) (by omega) hus
  have HRI := fun (k : Nat) (hk : k < nd) V (hV : Below w.heap.size w V) => refRight4_c Ar nr cr Ad nd cd p.ir p.glo p.ghi p.wr p.rods (reAt p.res k) T nr ct us b a V (HM.hr.later hV) (HT.later hV) ok.ir (ok.ro _ (by have := (ok.re k hk).2.1; omega)).2.2 (okx_of ok hk) (by omega) (by omega) (ok.re k hk).2.1.2 (hus _ (by have := (ok.re k hk).2.1; omega))
  have HHE := fun V => held4_c T nr ct b a pt V (by omega) (by omega) hpb
  have w1 : when4 1 = true := rfl
  have w2 : when4 2 = true := rfl
  rw [w1, hop, lgs4_eq hop w1] at HL1
  rw [w2, hop, lgs4_eq hop w2] at HL2
  rw [hop, show st4 p = en4 (tr4 p) (tr4 p).length by unfold st4 ol4; rw [rdy.ck]; rfl] at HST
  rw [show hds4 p pt = hd4 (tr4 p) pt by unfold hds4; rw [hpt, hop]; rfl, hpt, hop] at HHO
  rw [hop, sgs4_eq hop, hd] at HSG
  rw [rdy.ck, show er4 true = 0 from rfl] at HFW
  have HRO2 := Lib.hid (fun (q : Nat) (hq : q < nr) V (hV : Below w.heap.size w V) => by
    have := HRO q hq V hV
    rw [(rds4_eq ok hop hq).1, (rds4_eq ok hop hq).2] at this
    exact this)
  have HRL := Lib.hid (fun (q : Nat) (hq : q < nr) => (show (rl4 (tr4 p) q).length ≤ 10 ∧ ic4 (rl4 (tr4 p) q) (rl4 (tr4 p) q).length (iAt us q) = true from ⟨rl4_len ok hq, ic4_mem.2 (by
    have := rl4_of ok hq ht
    rwa [uT4_at (by omega)] at this)⟩))
  have i1 : ic4 (lg4 p (tr4 p) 1) (lg4 p (tr4 p) 1).length b = true := ic4_mem.2 (mem_lg4.2 ⟨_, _, _, ht, rfl⟩)
  have i2 : ic4 (lg4 p (tr4 p) 2) (lg4 p (tr4 p) 2).length a = true := ic4_mem.2 (mem_lg4.2 ⟨_, _, _, ht, rfl⟩)
  have n1 := lg4_len (p := p) (l := tr4 p) (wh := 1) rdy.g8
  have n2 := lg4_len (p := p) (l := tr4 p) (wh := 2) rdy.g8
  have n3 := sgL4_len (sgA4 p (tr4 p)) nd
  have se := en4_truth ht
  have fe := few4_le (nr := nr) (nd := nd) rdy.ck hu hbm ham
  rw [← cw4_wr ok] at fe
  have HSM := Lib.hid (fun z (hz : z ∈ sgL4 (sgA4 p (tr4 p)) nd) => (show ∃ i : Nat, i < nd ∧ z = (i : Int) ∧ rgT4 p us b a i = false from by
    obtain ⟨i, hi, hf, e⟩ := mem_sgL4.1 hz
    exact ⟨i, hi, e, (rgT4_eq ok hi).trans (sgA4_no hf ht)⟩))
  have HRT : Hid (∀ k, rt4 p.ir (roAt p.rods (reAt p.res k).rd.toNat).gr (reAt p.res k) (if (reAt p.res k).wh = 2 then a else b) (iAt us (reAt p.res k).rd.toNat) = rgT4 p us b a k) := Lib.hid fun k => rfl
  have hm : (hd4 (tr4 p) pt = 1 ∧ is4 pt b a = true) ∨ (hd4 (tr4 p) pt = 2 ∧ is4 pt b a = false) ∨ hd4 (tr4 p) pt = 3 := by
    rcases hd4_range (l := tr4 p) (pt := pt) with h | h | h
    · exact .inl ⟨h, (hd4_yes hpb.1).1 h _ _ _ ht⟩
    · exact .inr (.inl ⟨h, (hd4_not hpb.1 hne).1 h _ _ _ ht⟩)
    · exact .inr (.inr h)
  obtain ⟨L1, hL1⟩ : ∃ x, lg4 p (tr4 p) 1 = x := ⟨_, rfl⟩
  obtain ⟨L2, hL2⟩ : ∃ x, lg4 p (tr4 p) 2 = x := ⟨_, rfl⟩
  obtain ⟨L3, hL3⟩ : ∃ x, sgL4 (sgA4 p (tr4 p)) nd = x := ⟨_, rfl⟩
  obtain ⟨lo, hlo⟩ : ∃ x, (en4 (tr4 p) (tr4 p).length).lo = x := ⟨_, rfl⟩
  obtain ⟨hi, hhi⟩ : ∃ x, (en4 (tr4 p) (tr4 p).length).hi = x := ⟨_, rfl⟩
  obtain ⟨m, hmm⟩ : ∃ x, hd4 (tr4 p) pt = x := ⟨_, rfl⟩
  obtain ⟨is, hiss⟩ : ∃ x, is4 pt b a = x := ⟨_, rfl⟩
  obtain ⟨fw, hfw⟩ : ∃ x, few4 p = x := ⟨_, rfl⟩
  obtain ⟨cw, hcw⟩ : ∃ x, cw4 (rgT4 p us b a) nd = x := ⟨_, rfl⟩
  obtain ⟨G, hG⟩ : ∃ x, rgT4 p us b a = x := ⟨_, rfl⟩
  obtain ⟨RL, hRL⟩ : ∃ x, (fun q => rl4 (tr4 p) q) = x := ⟨_, rfl⟩
  have hRLe : ∀ q, rl4 (tr4 p) q = RL q := fun q => congrFun hRL q
  simp only [hRLe] at HRO2 HRL
  rw [hcw] at HWG fe
  rw [hG] at HSM HRT
  rw [hL1] at HL1 i1 n1
  rw [hL2] at HL2 i2 n2
  rw [hL3] at HSG n3 HSM
  rw [hlo, hhi] at HST se
  rw [hmm] at HHO hm
  rw [hiss] at HHE hm
  rw [hfw] at HFW fe
  obtain ⟨k1, hk1⟩ : ∃ n, L1.length = n := ⟨_, rfl⟩
  obtain ⟨k2, hk2⟩ : ∃ n, L2.length = n := ⟨_, rfl⟩
  obtain ⟨k3, hk3⟩ : ∃ n, L3.length = n := ⟨_, rfl⟩
  rw [hk1] at HL1 i1 n1
  rw [hk2] at HL2 i2 n2
  rw [hk3] at HSG n3
  have HIN1 := Lib.hid (fun A c V (H : IntsAt V A k1 L1) => (in4_c A k1 c b L1 V (by omega) H).mono fun e w' h => (show e = .returned (.bool true) ∧ V = w' from ⟨by rw [h.1, i1], h.2⟩))
  have HIN2 := Lib.hid (fun A c V (H : IntsAt V A k2 L2) => (in4_c A k2 c a L2 V (by omega) H).mono fun e w' h => (show e = .returned (.bool true) ∧ V = w' from ⟨by rw [h.1, i2], h.2⟩))
  replace HIT := Lib.hid HIT
  replace HPT := Lib.hid HPT
  replace HL1 := Lib.hid HL1
  replace HL2 := Lib.hid HL2
  replace HST := Lib.hid HST
  replace HHO := Lib.hid HHO
  replace HSG := Lib.hid HSG
  replace HFW := Lib.hid HFW
  replace HWG := Lib.hid HWG
  replace HRI := Lib.hid HRI
  replace HHE := Lib.hid HHE
  have HMI := Lib.hid HM
  have HTI := Lib.hid HT
  have HLN3 := Lib.hid hk3
  have HMM := Lib.hid hm
  have VAB : Hid (IntKind.i64.wrap (a - b) = a - b) := Lib.hid (IntWalk.i64_in _ (by omega))
  have T1 : Hid (decide (a - b < lo) = false) := Lib.hid (by simp; omega)
  have T2 : Hid (decide (hi < a - b) = false) := Lib.hid (by simp; omega)
  have T3 : Hid (decide (fw < 0) = false) := Lib.hid (by simp; omega)
  have T4 : Hid (decide ((cw : Int) < fw) = false) := Lib.hid (by simp; omega)
  have T5 : Hid (decide ((400 : Int) < k1) = false) := Lib.hid (by simp; omega)
  have T6 : Hid (decide ((400 : Int) < k2) = false) := Lib.hid (by simp; omega)
  have T7 : Hid (decide ((40 : Int) < k3) = false) := Lib.hid (by simp; omega)
  clear hrd HM HT rdy hr hd ok his hpt hpb hul hg hop hne hu hbm ham hwr ht hbr har hus w1 w2 HRO i1 i2 n1 n2 se fe hL1 hL2 hL3 hlo hhi hmm hiss hfw hcw hG hRL hRLe hk1 hk2 hk3 hm
  obtain ⟨ir, glo, ghi, wrg, rods, res⟩ := p
  simp only at HRD HIT HL1 HL2 HST HHO HSG HFW HRO2 HWG HRI HMI HRT ⊢
  go_enter Try.func10, Try.ntmps10
  go_upto_region 1 with (fail)
  go_name_world X hX
  have BX : Below w.heap.size w X := (al2 hX).1
  have HPX : Hid (Blk X w.heap.size 27 #[.int .i64 ir, .int .i64 glo, .int .i64 ghi, .slice Ar nr cr, .slice Ad nd cd, .int .i64 wrg]) := by rw [← hX]; exact Lib.hid ((Blk.new w _ _).alloc _)
  have HTX : Hid (Blk X (w.heap.size + 1) 63 #[.int .i64 b, .int .i64 a, .slice T nr ct]) := by
    rw [← hX]
    have := Blk.new (w.alloc (.cells #[.int .i64 ir, .int .i64 glo, .int .i64 ghi, .slice Ar nr cr, .slice Ad nd cd, .int .i64 wrg] 27)) 63 #[.int .i64 b, .int .i64 a, .slice T nr ct]
    rw [World.size_alloc] at this
    exact Lib.hid this
  have qX := HPX.out.cell
  have lX := HPX.out.lt
  have pX := HTX.out.cell
  have gX := HTX.out.lt
  clear hX
  go_upto_region 3 with (first | (go_at_call 43; refine (HPT.out _).mono ?_; rintro e w' ⟨rfl, rfl⟩) | (go_at_call 42; refine (HIT.out w1 B1).mono ?_; (rintro e w2 ⟨rfl, hb2⟩); (have Bw2 := B1.trans (hb2.mono B1.size)); (have HPw2 := Lib.hid (HP1.out.below hb2 HP1.out.lt)); (have HTw2 := Lib.hid (HT1.out.below hb2 HT1.out.lt)); (have qw2 := HPw2.out.cell); (have lw2 := HPw2.out.lt); clear hb2 q1 l1 p1 g1) | (go_at_call 12; refine (HRD.out X BX).mono ?_; (rintro e w1 ⟨rfl, hb1⟩); (have B1 := BX.trans (hb1.mono BX.size)); (have HP1 := Lib.hid (HPX.out.below hb1 HPX.out.lt)); (have HT1 := Lib.hid (HTX.out.below hb1 HTX.out.lt)); (have q1 := HP1.out.cell); (have l1 := HP1.out.lt); (have p1 := HT1.out.cell); (have g1 := HT1.out.lt); clear hb1 qX lX pX gX))
  go_upto_region 4 with (go_at_call 24; refine (HL1.out w2 Bw2).mono ?_; (rintro e w3 ⟨A1, c1, rfl, hI, hb⟩); (have Bw3 := Bw2.trans (hb.mono Bw2.size)); (have HPw3 := Lib.hid (HPw2.out.below hb HPw2.out.lt)); (have HTw3 := Lib.hid (HTw2.out.below hb HTw2.out.lt)); skip; (have HIw3 := Lib.hid hI); (have qw3 := HPw3.out.cell); (have lw3 := HPw3.out.lt); clear hb hI qw2 lw2)
  go_upto_region 5 with (go_at_call 24; refine (HL2.out w3 Bw3).mono ?_; (rintro e w4 ⟨A2, c2, rfl, hI, hb⟩); (have Bw4 := Bw3.trans (hb.mono Bw3.size)); (have HPw4 := Lib.hid (HPw3.out.below hb HPw3.out.lt)); (have HTw4 := Lib.hid (HTw3.out.below hb HTw3.out.lt)); (have HJ4 := Lib.hid (HIw3.out.later hb)); (have HIw4 := Lib.hid hI); (have qw4 := HPw4.out.cell); (have lw4 := HPw4.out.lt); clear hb hI qw3 lw3)
  go_upto_region 6 with (go_at_call 14; refine (HST.out w4 Bw4).mono ?_; (rintro e w5 ⟨rfl, hb⟩); (have Bw5 := Bw4.trans (hb.mono Bw4.size)); (have HPw5 := Lib.hid (HPw4.out.below hb HPw4.out.lt)); (have HTw5 := Lib.hid (HTw4.out.below hb HTw4.out.lt)); (have HJ5 := Lib.hid (HJ4.out.later hb)); (have HK5 := Lib.hid (HIw4.out.later hb)); clear hb qw4 lw4)
  go_name_world Y hY
  have bY := (al1 hY).1
  have BY := Bw5.trans (bY.mono Bw5.size)
  have HPY := Lib.hid (HPw5.out.below bY HPw5.out.lt)
  have HTY := Lib.hid (HTw5.out.below bY HTw5.out.lt)
  have HJY := Lib.hid (HJ5.out.later bY)
  have HKY := Lib.hid (HK5.out.later bY)
  have HSY : Hid (Blk Y w5.heap.size 23 #[.int .i64 lo, .int .i64 hi]) := by rw [← hY]; exact Lib.hid (Blk.new _ _ _)
  have qY := HPY.out.cell
  have lY := HPY.out.lt
  clear hY bY
  go_upto_region 7 with (go_at_call 16; refine (HHO.out Y BY).mono ?_; (rintro e w6 ⟨rfl, hb⟩); (have Bw6 := BY.trans (hb.mono BY.size)); (have HPw6 := Lib.hid (HPY.out.below hb HPY.out.lt)); (have HTw6 := Lib.hid (HTY.out.below hb HTY.out.lt)); (have HSw6 := Lib.hid (HSY.out.below hb HSY.out.lt)); (have HJ6 := Lib.hid (HJY.out.later hb)); (have HK6 := Lib.hid (HKY.out.later hb)); (have qw6 := HPw6.out.cell); (have lw6 := HPw6.out.lt); clear hb qY lY)
  go_upto_region 8 with (go_at_call 34; refine (HSG.out w6 Bw6).mono ?_; (rintro e w7 ⟨A3, c3, rfl, hI, hb⟩); (have Bw7 := Bw6.trans (hb.mono Bw6.size)); (have HPw7 := Lib.hid (HPw6.out.below hb HPw6.out.lt)); (have HTw7 := Lib.hid (HTw6.out.below hb HTw6.out.lt)); (have HSw7 := Lib.hid (HSw6.out.below hb HSw6.out.lt)); (have HJ7 := Lib.hid (HJ6.out.later hb)); (have HK7 := Lib.hid (HK6.out.later hb)); (have HIw7 := Lib.hid hI); (have qw7 := HPw7.out.cell); (have lw7 := HPw7.out.lt); clear hb hI qw6 lw6)
  go_upto_region 9 with (go_at_call 23; refine (HFW.out w7 Bw7).mono ?_; (rintro e w8 ⟨rfl, hb⟩); (have Bw8 := Bw7.trans (hb.mono Bw7.size)); (have HPw8 := Lib.hid (HPw7.out.below hb HPw7.out.lt)); (have HTw8 := Lib.hid (HTw7.out.below hb HTw7.out.lt)); (have HSw8 := Lib.hid (HSw7.out.below hb HSw7.out.lt)); (have HJ8 := Lib.hid (HJ7.out.later hb)); (have HK8 := Lib.hid (HK7.out.later hb)); (have HQ8 := Lib.hid (HIw7.out.later hb)); (have qw8 := HPw8.out.cell); (have lw8 := HPw8.out.lt); clear hb qw7 lw7)
  have pw8 := HTw8.out.cell
  have gw8 := HTw8.out.lt
  have sw8 := HSw8.out.cell
  have uw8 := HSw8.out.lt
  have vab := VAB.out
  have t1 := T1.out
  have t2 := T2.out
  have t3 := T3.out
  have t4 := T4.out
  have t5 := T5.out
  have t6 := T6.out
  have t7 := T7.out
  go_wp2_with (first | (go_at_call 44; (first | with_reducible refine (HIN1.out A1 c1 w8 HJ8.out).mono ?_ | with_reducible refine (HIN2.out A2 c2 w8 HK8.out).mono ?_); rintro e w' ⟨rfl, rfl⟩) | (go_at_call 45; refine (HWG.out w8 Bw8).mono ?_; (rintro e w9 ⟨rfl, hb⟩); (have Bw9 := Bw8.trans (hb.mono Bw8.size)); (have HPw9 := Lib.hid (HPw8.out.below hb HPw8.out.lt)); (have HTw9 := Lib.hid (HTw8.out.below hb HTw8.out.lt)); (have HQ9 := Lib.hid (HQ8.out.later hb)); clear hb qw8 lw8 pw8 gw8 sw8 uw8))
  have qw9 := HPw9.out.cell
  have lw9 := HPw9.out.lt
  have pw9 := HTw9.out.cell
  have gw9 := HTw9.out.lt
  clear t1 t2 t3 t4 t5 t6 t7 vab
  go_loopw [19] (fun i (wr : World) => ∃ k : Nat, k ≤ k3 ∧ i = .int .i64 k ∧ Below w9.heap.size w9 wr) (fun i _ => k3 - (intOf i).toNat)
  case atStart => exact ⟨0, by omega, by simp, Below.refl _ _⟩
  case round =>
    obtain ⟨k, hk, rfl, hb⟩ := hrel
    obtain ⟨wo, rfl⟩ : ∃ wo : World, wo = wr := ⟨_, rfl⟩
    have zb := hb.size
    have qo := fun j => (hb.cell (p := ⟨w.heap.size, j, none⟩) lw9).trans (qw9 j)
    have po := fun j => (hb.cell (p := ⟨w.heap.size + 1, j, none⟩) gw9).trans (pw9 j)
    have lo0 : w.heap.size < wo.heap.size := by omega
    have go0 : w.heap.size + 1 < wo.heap.size := by omega
    have hwo := Lib.hid (Bw9.trans (hb.mono Bw9.size))
    by_cases hlt : k < k3
    · have hqB : decide ((k : Int) < k3) = true := by simp; omega
      have vk : IntKind.i64.wrap ((k : Int) + 1) = (k : Int) + 1 := IntWalk.i64_in _ (by omega)
      obtain ⟨b3, o3, hA, hb3, x0⟩ := (HQ9.out.later hb).get hlt
      subst hA
      obtain ⟨i, hi, e, hGi⟩ := HSM.out (iAt L3 k) (iAt_mem (by rw [HLN3.out]; exact hlt))
      rw [e] at x0
      have hz1 : decide ((i : Int) < 0) = false := decide_eq_false (by omega)
      have hz2 : decide (nd ≤ i) = false := by simp; omega
      obtain ⟨bd, od, hA, hbd, y0, y1, y2, y3, y4, y5, y6⟩ := (HMI.out.hd.later hwo.out).get hi
      subst hA
      have HC := HRI.out i hi
      simp only [HRT.out i, hGi] at HC
      obtain ⟨⟨xw, xr, xc, xs, xo, xl, xh⟩, hx⟩ : ∃ x, reAt res i = x := ⟨_, rfl⟩
      rw [hx] at y0 y1 y2 y3 y4 y5 y6 HC
      simp only at y0 y1 y2 y3 y4 y5 y6 HC
      replace HC := Lib.hid HC
      clear hx e hGi
      go_upto_region 14 with (fail)
      have hcq := fun p : Regrown => (bcell (below_regrown wo p.d p.os)).1
      refine wp_region_quiet_below (by kernel_rfl) (by kernel_rfl) ?_
      repeat (go_big_quiet_step ((go_at_call 46; exact Calls.regrown_of (HC.out _ (hwo.out.trans ((below_regrown _ _ _).mono hwo.out.size))))))
      refine wpQuiet_nil ?_
      intro wq hq
      obtain ⟨pq, hq⟩ := hq
      have hbq : Below wo.heap.size wo wq := by rw [hq]; exact below_regrown _ _ _
      clear hq hcq pq
      obtain ⟨hcq, hfq⟩ := bcell hbq
      have zq := hbq.size
      have BQ := Lib.hid (hb.trans (hbq.mono zb))
      clear hcq hfq hbq qo po
      go_wp2_with fail
      go_roundw
      case rel => exact ⟨k + 1, by omega, by go_num, BQ.out⟩
      case measure => simp [intOf]; omega
    · obtain rfl : k3 = k := by omega
      have hqB : decide (((k3 : Nat) : Int) < k3) = false := by simp
      go_wp2_with fail
      go_loopw [20] (fun i (wr : World) => ∃ k : Nat, k ≤ nr ∧ i = .int .i64 k ∧ Below wo.heap.size wo wr) (fun i _ => nr - (intOf i).toNat)
      case atStart => exact ⟨0, by omega, by simp, Below.refl _ _⟩
      case round =>
        obtain ⟨k, hk, rfl, hb2⟩ := hrel
        have zb2 := hb2.size
        have qr := fun j => (hb2.cell (p := ⟨w.heap.size, j, none⟩) lo0).trans (qo j)
        have pr := fun j => (hb2.cell (p := ⟨w.heap.size + 1, j, none⟩) go0).trans (po j)
        have lr0 : w.heap.size < wr.heap.size := by omega
        have gr0 : w.heap.size + 1 < wr.heap.size := by omega
        have hwr := Lib.hid (hwo.out.trans (hb2.mono hwo.out.size))
        by_cases hlt : k < nr
        · have hqB2 : decide ((k : Int) < nr) = true := by simp; omega
          have vk : IntKind.i64.wrap ((k : Int) + 1) = (k : Int) + 1 := IntWalk.i64_in _ (by omega)
          have HC := HRO2.out k hlt wr hwr.out
          obtain ⟨h10, hic⟩ := HRL.out k hlt
          obtain ⟨bt, ot, hA, hbt, t0⟩ := (HTI.out.later hwr.out).get hlt
          subst hA
          obtain ⟨R, hR⟩ : ∃ R, RL k = R := ⟨_, rfl⟩
          rw [hR] at HC h10 hic
          obtain ⟨n5, hn5⟩ : ∃ n, R.length = n := ⟨_, rfl⟩
          rw [hn5] at HC h10 hic
          obtain ⟨x, hx⟩ : ∃ x, iAt us k = x := ⟨_, rfl⟩
          rw [hx] at t0 hic
          have h40 : decide ((40 : Int) < n5) = false := decide_eq_false (by omega)
          have HIN := Lib.hid (fun A c V (H : IntsAt V A n5 R) => (in4_c A n5 c x R V (by omega) H).mono fun e w' h => (show e = .returned (.bool true) ∧ V = w' from ⟨by rw [h.1, hic], h.2⟩))
          replace HC := Lib.hid HC
          clear hR hn5 hx hic
          go_wp2_with (first | (go_at_call 25; refine HC.out.mono ?_; (rintro e w5 ⟨A5, c5, rfl, hI, hb5⟩); (have HI5 := Lib.hid hI); (have q5 := fun j => (hb5.cell (p := ⟨w.heap.size, j, none⟩) lr0).trans (qr j)); (have p5 := fun j => (hb5.cell (p := ⟨w.heap.size + 1, j, none⟩) gr0).trans (pr j)); (have l5 := Nat.lt_of_lt_of_le lr0 hb5.size); (have g5 := Nat.lt_of_lt_of_le gr0 hb5.size); (have t5 := (hb5.cell (p := ⟨bt, ot + k, none⟩) hbt).trans t0); (have lt5 := Nat.lt_of_lt_of_le hbt hb5.size); (have B5 := Lib.hid (hb2.trans (hb5.mono zb2))); clear hb5 hI qr pr t0) | (go_at_call 44; refine (HIN.out A5 c5 w5 HI5.out).mono ?_; rintro e w' ⟨rfl, rfl⟩))
          go_roundw
          case rel => exact ⟨k + 1, by omega, by go_num, B5.out⟩
          case measure => simp [intOf]; omega
        · obtain rfl : nr = k := by omega
          have hqB2 : decide (((nr : Nat) : Int) < nr) = false := by simp
          rcases HMM.out with ⟨rfl, rfl⟩ | ⟨rfl, rfl⟩ | rfl
          all_goals
            go_wp2_with (first | (go_at_call 47; refine (HHE.out wr).mono ?_; (rintro e w10 ⟨rfl, hb10⟩); (have B10 := hwr.out.trans (hb10.mono hwr.out.size)); clear hb10) | (go_at_call 13; refine (works4_c w10).mono ?_; (rintro e w11 ⟨rfl, hb11⟩); (have B11 := B10.trans (hb11.mono B10.size)); clear hb11))
            go_ret
            exact ⟨ret_bool (by first | rfl | simp), B11⟩

end Go.Proofs.Ytjlibgledkdfiaa
