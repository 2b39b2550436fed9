/- Fewest, Many, Stretch and Best of the specification (layer 4), walked. -/
import Derived.Test.YtmmgkmdfecnkdaaQa42
import Derived.Shelf.Abstract
import Derived.Laws.EntriesVeiled
import Derived.Handy
import Derived.Deep.DrawnRows
import Derived.Deep.DeepCutAuto
namespace Go.Proofs.Ytmmgkmdfecnkdaa
open Go.RowKit
open Go.Sort (grow)
set_option linter.unusedVariables false
set_option linter.unusedSimpArgs false

attribute [local go_sem high] run_min24 run_max24
section
variable (Ar : Option Addr) (nr cr : Nat) (Ad : Option Addr) (nd cd : Nat) (p : P4) (w : World)
set_option maxRecDepth 100000 in
set_option maxHeartbeats 1600000 in
theorem refMany4_c (hnr : nr ≤ 40) (hnd : nd ≤ 40) (HM : MemP Ar nr Ad nd p w) (hg8 : ck4 p = true → p.ghi - p.glo ≤ 8) (h12 : ck4 p = true → (ws4 p).length ≤ 12) :
    Calls Try.prog 13 #[.agg #[.int .i64 p.ir, .int .i64 p.glo, .int .i64 p.ghi, .slice Ar nr cr, .slice Ad nd cd, .int .i64 p.wr]] w fun e w' => e = .returned (.tuple #[.int .i64 ((knL4 p true).length : Nat), .int .i64 (op4 p true)]) ∧ Below w.heap.size w w' := by
  have HKN := Lib.hid (fun V (hV : Below w.heap.size w V) => known4_c Ar nr cr Ad nd cd p true V hnr hnd (HM.later hV) hg8 h12)
  unfold Kn4 at HKN
  obtain ⟨z, hz⟩ : ∃ z, op4 p true = z := ⟨_, rfl⟩
  obtain ⟨l, hll⟩ : ∃ l, knL4 p true = l := ⟨_, rfl⟩
  rw [hz, hll] at HKN
  rw [hz, hll]
  obtain ⟨m, hm⟩ : ∃ m, l.length = m := ⟨_, rfl⟩
  rw [hm] at HKN ⊢
  clear HM hg8 h12 hz hll hm
  obtain ⟨ir, glo, ghi, wrg, rods, res⟩ := p
  simp only at HKN ⊢
  go_enter Try.func13, Try.ntmps13
  go_upto_region 1 with (fail)
  go_name_world X hX
  have BX : Below w.heap.size w X := (al1 hX).1
  have HPX : Hid (Blk X w.heap.size 27 #[Value.int .i64 ir, .int .i64 glo, .int .i64 ghi, .slice Ar nr cr, .slice Ad nd cd, .int .i64 wrg]) := by rw [← hX]; exact Lib.hid (Blk.new w _ _)
  have qX := HPX.out.cell
  have lX := HPX.out.lt
  clear hX
  go_wp2_with (go_at_call 45; refine (HKN.out X BX).mono ?_; (rintro e w1 ⟨A, c, hs, rfl, -, hb1⟩); (have B1 := BX.trans (hb1.mono BX.size)); clear hb1)
  exact bodyPost_ret (v := .tuple #[.int .i64 (m : Nat), .int .i64 z]) (by simp [results, Try.results13, go_sem]) rfl ⟨rfl, B1⟩
theorem knL4_in {nr nd : Nat} {p : P4} (hr : p.rods.length = nr) (hd : p.res.length = nd) {is : Bool} {t : Int × Int × W4} (h : t ∈ knL4 p is) : t ∈ alt4 p ∧ Ok4 nr nd p := by
  by_cases hz : op4 p is = 0
  · rw [knL4_yes hz] at h
    exact ⟨trl4_alt h, ok4_of (op4_ol hz).2.1 hr hd⟩
  · rw [knL4_no hz] at h; cases h
theorem knL4_le {p : P4} (hr : p.rods.length ≤ 40) {is : Bool} (hg8 : ck4 p = true → p.ghi - p.glo ≤ 8) (h12 : ck4 p = true → (ws4 p).length ≤ 12) : (knL4 p is).length ≤ 972 := by
  by_cases hz : op4 p is = 0
  · rw [knL4_yes hz]
    have hc := (op4_ol hz).2.1
    have ok : Ok4 p.rods.length p.res.length p := ok4_of hc rfl rfl
    exact Nat.le_trans (List.length_filter_le _ _) (alt4_le ok (hg8 hc) (h12 hc))
  · rw [knL4_no hz]; simp
set_option maxRecDepth 100000 in
set_option maxHeartbeats 1600000 in
theorem refStretch4_c (hnr : nr ≤ 40) (hnd : nd ≤ 40) (HM : MemP Ar nr Ad nd p w) (hg8 : ck4 p = true → p.ghi - p.glo ≤ 8) (h12 : ck4 p = true → (ws4 p).length ≤ 12) :
    Calls Try.prog 23 #[.agg #[.int .i64 p.ir, .int .i64 p.glo, .int .i64 p.ghi, .slice Ar nr cr, .slice Ad nd cd, .int .i64 p.wr]] w fun e w' => e = .returned (.tuple #[.agg #[.int .i64 (st4 p).lo, .int .i64 (st4 p).hi], .int .i64 (op4 p true)]) ∧ Below w.heap.size w w' := by
  have HKN := Lib.hid (fun V (hV : Below w.heap.size w V) => known4_c Ar nr cr Ad nd cd p true V hnr hnd (HM.later hV) hg8 h12)
  have hr := HM.hr.1
  have hd := HM.hd.1
  have hl := knL4_le (p := p) (is := true) (by omega) hg8 h12
  have HST := Lib.hid (fun A c hs V (HT : ThsAt nr V A (knL4 p true).length hs (knL4 p true)) => refstretch4_c nr A _ c hs (knL4 p true) V HT (by omega) (fun k hk => by
    obtain ⟨h1, ok⟩ := knL4_in hr hd (tuAt_mem hk)
    have := alt4_in ok h1
    exact ⟨this.1, this.2.1⟩))
  rw [stretch_kn] at HST
  unfold Kn4 at HKN
  obtain ⟨z, hz⟩ : ∃ z, op4 p true = z := ⟨_, rfl⟩
  obtain ⟨l, hll⟩ : ∃ l, knL4 p true = l := ⟨_, rfl⟩
  rw [hz, hll] at HKN
  rw [hll] at HST
  rw [hz]
  obtain ⟨s0, hs0⟩ : ∃ s, (st4 p).lo = s := ⟨_, rfl⟩
  obtain ⟨s1, hs1⟩ : ∃ s, (st4 p).hi = s := ⟨_, rfl⟩
  rw [hs0, hs1] at HST
  rw [hs0, hs1]
  obtain ⟨m, hm⟩ : ∃ m, l.length = m := ⟨_, rfl⟩
  rw [hm] at HKN HST
  clear HM hg8 h12 hz hll hm hs0 hs1 hr hd hl
  obtain ⟨ir, glo, ghi, wrg, rods, res⟩ := p
  simp only at HKN ⊢
  go_enter Try.func23, Try.ntmps23
  go_upto_region 1 with (fail)
  go_name_world X hX
  have BX : Below w.heap.size w X := (al2 hX).1
  have zX := (al2 hX).2
  have q0 := (al2_0 hX).2.1
  have l0 := (al2_0 hX).1
  have HS : Hid (Blk X (w.heap.size + 1) 23 #[.int .i64 0, .int .i64 0]) := by
    rw [← hX]
    have := Blk.new (w.alloc (.cells #[.int .i64 ir, .int .i64 glo, .int .i64 ghi, .slice Ar nr cr, .slice Ad nd cd, .int .i64 wrg] 27)) 23 #[.int .i64 0, .int .i64 0]
    rw [World.size_alloc] at this
    exact this
  have ZX := Lib.hid zX
  clear hX zX
  go_wp2_with (first | (go_at_call 45; refine (HKN.out X BX).mono ?_; (rintro e w1 ⟨A, c, hs, rfl, hT, hb1⟩); (have HS1 := Lib.hid (HS.out.below hb1 HS.out.lt)); (have B1 := BX.trans (hb1.mono BX.size)); (have HT := Lib.hid hT); clear hb1 hT) | (go_at_call 55; refine (HST.out A c hs w1 HT.out).mono ?_; (rintro e w2 ⟨rfl, hb2⟩); (have z2 := hb2.size); (have HS2 := Lib.hid (HS1.out.below hb2 HS1.out.lt)); (have k0 := HS2.out.cell); (have f0 := HS2.out.frozen); (have l2 := HS2.out.lt); (have B3 := B1.trans (hb2.mono B1.size)); clear hb2))
  have hbF := (HS2.out.set_ 0 (.int .i64 s0)).set_ 1 (.int .i64 s1)
  have d0 := hbF.cell 0
  have d1 := hbF.cell 1
  simp only [List.setIfInBounds_toArray, List.set_cons_zero, List.set_cons_succ] at d0 d1
  exact bodyPost_ret (v := .tuple #[.agg #[.int .i64 s0, .int .i64 s1], .int .i64 z]) (by simp [results, Try.results23, go_sem, d0, d1]) rfl ⟨rfl, by have := ZX.out; (repeat first | with_reducible assumption | with_reducible exact Below.refl _ _ | (with_reducible refine Below.alloc ?_ ?side _; case side => (first | omega | (with_reducible exact Below.size (by assumption)) | (simp; done) | (simp; omega))) | (with_reducible refine Below.setCell ?_ ?side _; case side => (first | omega | (with_reducible exact Below.size (by assumption)) | (simp; done) | (simp; omega))) | with_reducible refine Below.drew ?_ | with_reducible refine below_drewN ?_ _ | (with_reducible refine below_step (by assumption) ?side ?_; case side => (first | omega | (with_reducible exact Below.size (by assumption)) | (simp; done) | (simp; omega))))⟩
set_option maxRecDepth 100000 in
set_option maxHeartbeats 1600000 in
theorem refBest4_c (hnr : nr ≤ 40) (hnd : nd ≤ 40) (HM : MemP Ar nr Ad nd p w) (hg8 : ck4 p = true → p.ghi - p.glo ≤ 8) (h12 : ck4 p = true → (ws4 p).length ≤ 12) :
    Calls Try.prog 27 #[.agg #[.int .i64 p.ir, .int .i64 p.glo, .int .i64 p.ghi, .slice Ar nr cr, .slice Ad nd cd, .int .i64 p.wr]] w fun e w' => e = .returned (.tuple #[.int .i64 (bev4 p), .int .i64 (bee4 p)]) ∧ Below w.heap.size w w' := by
  have HKN := Lib.hid (fun V (hV : Below w.heap.size w V) => known4_c Ar nr cr Ad nd cd p true V hnr hnd (HM.later hV) hg8 h12)
  have hr := HM.hr.1
  have hd := HM.hd.1
  have hl := knL4_le (p := p) (is := true) (by omega) hg8 h12
  have HHD := Lib.hid (fun (h0 : op4 p true = 0) (k : Nat) (hp : k < 1001) A c hs V (HT : ThsAt nr V A (knL4 p true).length hs (knL4 p true)) => by
    have := refholds4_c nr A _ c hs (knL4 p true) (k : Int) V (by omega) HT (by omega) (fun k hk => by
      obtain ⟨h1, ok⟩ := knL4_in hr hd (tuAt_mem hk)
      have := alt4_in ok h1
      exact ⟨this.1, this.2.1⟩)
    rw [show hdR4 (hcK4 (knL4 p true) (k : Int) (knL4 p true).length) (knL4 p true).length = hd4 (tr4 p) (k : Int) from by rw [knL4_yes h0]; exact holds_eq (op4_ol h0).2.2.2 (by omega)] at this
    exact this)
  unfold bev4 bee4
  unfold Kn4 at HKN
  obtain ⟨z, hz⟩ : ∃ z, op4 p true = z := ⟨_, rfl⟩
  obtain ⟨l, hll⟩ : ∃ l, knL4 p true = l := ⟨_, rfl⟩
  rw [hz, hll] at HKN HHD
  rw [hz]
  obtain ⟨m, hm⟩ : ∃ m, l.length = m := ⟨_, rfl⟩
  rw [hm] at HKN HHD
  obtain ⟨ts, hts⟩ : ∃ ts, tr4 p = ts := ⟨_, rfl⟩
  rw [hts] at HHD ⊢
  clear HM hr hd hg8 h12 hz hll hm hl hts
  obtain ⟨ir, glo, ghi, wrg, rods, res⟩ := p
  simp only at HKN ⊢
  obtain ⟨v, hv⟩ : ∃ v : Int, (bif z == 0 then ((bst4 ts).map fun k => (k : Int)).getD 0 else 0) = v := ⟨_, rfl⟩
  obtain ⟨ee, hee⟩ : ∃ v : Int, (bif z == 0 then (bif (bst4 ts).isSome then 0 else 3) else z) = v := ⟨_, rfl⟩
  rw [hv, hee]
  replace hv := Lib.hid hv
  replace hee := Lib.hid hee
  go_enter Try.func27, Try.ntmps27
  go_upto_region 1 with (fail)
  go_name_world X hX
  have BX : Below w.heap.size w X := (al1 hX).1
  have HPX : Hid (Blk X w.heap.size 27 #[Value.int .i64 ir, .int .i64 glo, .int .i64 ghi, .slice Ar nr cr, .slice Ad nd cd, .int .i64 wrg]) := by rw [← hX]; exact Lib.hid (Blk.new w _ _)
  have qX := HPX.out.cell
  have lX := HPX.out.lt
  clear hX
  go_upto_region 2 with (go_at_call 45; refine (HKN.out X BX).mono ?_; (rintro e w1 ⟨A, c, hs, rfl, hT, hb1⟩); (have B1 := BX.trans (hb1.mono BX.size)); (have HT := Lib.hid hT); clear hb1 hT)
  by_cases hz0 : z = 0
  · subst hz0
    have hvv := hv.out
    have hevv := hee.out
    simp only [beq_self_eq_true, cond_true] at hvv hevv
    replace hv := Lib.hid hvv
    replace hee := Lib.hid hevv
    clear hvv hevv HKN
    have HHC := Lib.hid (fun (k : Nat) (hp : k < 1001) V (hV : Below w1.heap.size w1 V) => HHD.out rfl k hp A c hs V (HT.out.later hV))
    clear HHD
    go_wp2_with fail
    go_loopw [6] (fun i (wr : World) => ∃ k : Nat, k ≤ 1001 ∧ i = .int .i64 k ∧ Hid (∀ j : Nat, j < k → hd4 ts j ≠ 1) ∧ Below w1.heap.size w1 wr) (fun i _ => 1001 - (intOf i).toNat)
    case atStart => exact ⟨0, by omega, by simp, Lib.hid (fun j hj => absurd hj (by omega)), Below.refl _ _⟩
    case round =>
      obtain ⟨k, hk, rfl, H0, hbr⟩ := hrel
      have hw := B1.trans (hbr.mono B1.size)
      have HP := Lib.hid (isPart4_c (k : Int) wr)
      by_cases hkn : k < 1001
      · have hwn : wn (k : Int) 0 1000 = true := wn_true.2 (by omega)
        rw [hwn] at HP
        have vk : IntKind.i64.wrap ((k : Int) + 1) = (k : Int) + 1 := IntWalk.i64_in _ (by omega)
        have HC := Lib.hid (HHC.out k hkn wr hbr)
        obtain ⟨x, hx⟩ : ∃ x, hd4 ts (k : Int) = x := ⟨_, rfl⟩
        rw [hx] at HC
        by_cases h1 : x = 1
        · subst h1
          have e := bst4_some hkn hx H0.out
          have e1 := hv.out
          have e2 := hee.out
          rw [e] at e1 e2
          simp only [Option.isSome_some, cond_true] at e1 e2
          subst e1 e2
          clear e hx hwn
          go_wp2_with (first | (go_at_call 57; refine HP.out.mono ?_; rintro e w' ⟨rfl, rfl⟩) | (go_at_call 58; refine HC.out.mono ?_; (rintro e w2 ⟨rfl, hb2⟩); (have B3 := hw.trans (hb2.mono hw.size)); clear hb2))
          exact bodyPost_ret (v := .tuple #[.int .i64 (k : Int), .int .i64 0]) (by simp [results, Try.results27, go_sem]) rfl ⟨rfl, B3⟩
        · have hx1 : (x == 1) = false := by simpa using h1
          have HH1 : Hid (∀ j : Nat, j < k + 1 → hd4 ts j ≠ 1) := Lib.hid (fun j hj => by
            rcases Nat.lt_succ_iff_lt_or_eq.1 hj with h | rfl
            · exact H0.out j h
            · rw [hx]; exact h1)
          clear hx hwn
          go_wp2_with (first | (go_at_call 57; refine HP.out.mono ?_; rintro e w' ⟨rfl, rfl⟩) | (go_at_call 58; refine HC.out.mono ?_; (rintro e w2 ⟨rfl, hb2⟩); (have B3 := hbr.trans (hb2.mono hbr.size)); clear hb2))
          go_roundw
          case rel => exact ⟨k + 1, by omega, by go_num, HH1, B3⟩
          case measure => simp [intOf]; omega
      · obtain rfl : k = 1001 := by omega
        have hwn : wn ((1001 : Nat) : Int) 0 1000 = false := by decide
        rw [hwn] at HP
        have e := bst4_none H0.out
        have e1 := hv.out
        have e2 := hee.out
        rw [e] at e1 e2
        simp only [Option.isSome_none, cond_false] at e1 e2
        subst e1 e2
        clear e hwn
        go_wp2_with (go_at_call 57; refine HP.out.mono ?_; rintro e w' ⟨rfl, rfl⟩)
        exact bodyPost_ret (v := .tuple #[.int .i64 0, .int .i64 3]) (by simp [results, Try.results27, go_sem]) rfl ⟨rfl, hw⟩
  · have hzb : (z == 0) = false := by simpa using hz0
    have hzn : (z != 0) = true := by simpa using hz0
    have e1 := hv.out
    have e2 := hee.out
    rw [hzb] at e1 e2
    simp only [cond_false] at e1 e2
    subst e1 e2
    clear HHD hv hee
    go_wp2_with fail
    exact bodyPost_ret (v := .tuple #[.int .i64 0, .int .i64 z]) (by simp [results, Try.results27, go_sem]) rfl ⟨rfl, B1⟩
set_option maxRecDepth 100000 in
set_option maxHeartbeats 1600000 in
theorem refFewest4_c (hnr : nr ≤ 40) (hnd : nd ≤ 40) (HM : MemP Ar nr Ad nd p w) (hg8 : ck4 p = true → p.ghi - p.glo ≤ 8) (h12 : ck4 p = true → (ws4 p).length ≤ 12) :
    Calls Try.prog 11 #[.agg #[.int .i64 p.ir, .int .i64 p.glo, .int .i64 p.ghi, .slice Ar nr cr, .slice Ad nd cd, .int .i64 p.wr]] w fun e w' => e = .returned (.tuple #[.int .i64 (few4 p), .int .i64 (er4 (ck4 p))]) ∧ Below w.heap.size w w' := by
  have HCK := Lib.hid (fun V (hV : Below w.heap.size w V) => refCheck4_c Ar nr cr Ad nd cd p V hnr hnd (HM.later hV))
  have hr := HM.hr.1
  have hd := HM.hd.1
  cases hck : ck4 p
  · have e1 : few4 p = 0 := by unfold few4; rw [hck]; rfl
    rw [e1, show er4 false = 40 from rfl]
    rw [hck, show er4 false = 40 from rfl] at HCK
    clear HM hr hd hg8 h12 hck e1
    obtain ⟨ir, glo, ghi, wrg, rods, res⟩ := p
    simp only at HCK ⊢
    go_enter Try.func11, Try.ntmps11
    go_upto_region 1 with (fail)
    go_name_world X hX
    have BX : Below w.heap.size w X := (al1 hX).1
    have HPX : Hid (Blk X w.heap.size 27 #[Value.int .i64 ir, .int .i64 glo, .int .i64 ghi, .slice Ar nr cr, .slice Ad nd cd, .int .i64 wrg]) := by rw [← hX]; exact Lib.hid (Blk.new w _ _)
    have qX := HPX.out.cell
    have lX := HPX.out.lt
    clear hX
    go_wp2_with (go_at_call 9; refine (HCK.out X BX).mono ?_; (rintro e w1 ⟨rfl, hb1⟩); (have B1 := BX.trans (hb1.mono BX.size)); clear hb1 qX lX)
    exact bodyPost_ret (v := .tuple #[.int .i64 0, .int .i64 40]) (by simp [results, Try.results11, go_sem]) rfl ⟨rfl, B1⟩
  rw [hck, show er4 true = 0 from rfl] at HCK
  rw [few_eq hck, show er4 true = 0 from rfl]
  have ok := ok4_of hck hr hd
  have g8 := hg8 hck
  have w12 := h12 hck
  have HAL := Lib.hid (fun V (hV : Below w.heap.size w V) => refall4_c Ar nr cr Ad nd cd p V ok (HM.later hV) g8 w12)
  have HWR := Lib.hid (fun k (hk : k < (alt4 p).length) T c V (hV : Below w.heap.size w V) (HT : IntsAt V T nr (uL4 nr (tuAt (alt4 p) k).2.2)) => refWrongsT_c Ar nr cr Ad nd cd p T c (tuAt (alt4 p) k) V ok (HM.later hV) HT (tuAt_mem hk))
  have HSC : Hid (∀ k, fwR4 p (alt4 p) (k + 1) = min (fwR4 p (alt4 p) k) (wt4 p (tuAt (alt4 p) k))) := Lib.hid fun k => rfl
  have h0 : fwR4 p (alt4 p) 0 = nd := hd
  have hnd8 := ok.nd8
  have HLE := Lib.hid (fun k => (fwR4_spec (p := p) (ts := alt4 p) k).1)
  rw [hd] at HLE
  have hle := alt4_le ok g8 w12
  obtain ⟨F, hF⟩ : ∃ F, fwR4 p (alt4 p) = F := ⟨_, rfl⟩
  rw [hF] at HSC h0 HLE ⊢
  obtain ⟨U, hU⟩ : ∃ F, wt4 p = F := ⟨_, rfl⟩
  rw [hU] at HWR HSC
  obtain ⟨l, hl⟩ : ∃ l, alt4 p = l := ⟨_, rfl⟩
  rw [hl] at HAL HWR HSC hle ⊢
  obtain ⟨m, hm⟩ : ∃ m, l.length = m := ⟨_, rfl⟩
  rw [hm] at HAL HWR hle ⊢
  have H00 := Lib.hid h0
  clear HM hr hd hg8 h12 hck ok g8 w12 hF hU hl hm h0
  obtain ⟨ir, glo, ghi, wrg, rods, res⟩ := p
  simp only at HCK HAL HWR ⊢
  go_enter Try.func11, Try.ntmps11
  go_upto_region 1 with (fail)
  go_name_world X hX
  have BX : Below w.heap.size w X := (al1 hX).1
  have HPX : Hid (Blk X w.heap.size 27 #[Value.int .i64 ir, .int .i64 glo, .int .i64 ghi, .slice Ar nr cr, .slice Ad nd cd, .int .i64 wrg]) := by rw [← hX]; exact Lib.hid (Blk.new w _ _)
  have qX := HPX.out.cell
  have lX := HPX.out.lt
  clear hX
  go_upto_region 6 with (first | (go_at_call 9; refine (HCK.out X BX).mono ?_; (rintro e w1 ⟨rfl, hb1⟩); (have B1 := BX.trans (hb1.mono BX.size)); (have HP1 := Lib.hid (HPX.out.below hb1 HPX.out.lt)); (have q1 := HP1.out.cell); (have l1 := HP1.out.lt); clear hb1 qX lX) | (go_at_call 42; refine (HAL.out w1 B1).mono ?_; (rintro e w2 ⟨LA, lc, lhs, rfl, hths, hb2⟩); (have B2 := B1.trans (hb2.mono B1.size)); (have HP2 := Lib.hid (HP1.out.below hb2 HP1.out.lt)); (have HT := Lib.hid hths); clear hb2 q1 l1 hths))
  have l2 := HP2.out.lt
  go_wp2_with fail
  go_loopw [5, 7] (fun v i (wr : World) => ∃ k : Nat, k ≤ m ∧ i = .int .i64 (k : Int) ∧ v = .int .i64 (F k : Nat) ∧ Below w2.heap.size w2 wr) (fun _ i _ => m - (intOf i).toNat)
  case atStart => exact ⟨0, by omega, by simp, by rw [H00.out], Below.refl _ _⟩
  case round =>
    obtain ⟨k, hk, rfl, rfl, hb⟩ := hrel
    have zb := hb.size
    have HPR := Lib.hid (HP2.out.below hb l2)
    have lR := HPR.out.lt
    have hbw : Below w.heap.size w wr := B2.trans (hb.mono B2.size)
    have hfk := HLE.out k
    by_cases hlt : k < m
    · have hqB : decide ((k : Int) < m) = true := decide_eq_true (by omega)
      have vk : IntKind.i64.wrap ((k : Int) + 1) = (k : Int) + 1 := IntWalk.i64_in _ (by omega)
      obtain ⟨b, off, B, c, eA, hbl, d0, d1, d2, hI⟩ := (HT.out.later hb).get hlt
      cases eA
      have cR := HPR.out.cell
      have HC := Lib.hid (fun V (hV : Below wr.heap.size wr V) => HWR.out k hlt B c V (hbw.trans (hV.mono hbw.size)) (hI.later hV))
      have hSk := HSC.out k
      obtain ⟨t, ht⟩ : ∃ t, tuAt l k = t := ⟨_, rfl⟩
      rw [ht] at d0 d1 HC hSk
      obtain ⟨u, hu⟩ : ∃ u, U t = u := ⟨_, rfl⟩
      rw [hu] at HC hSk
      obtain ⟨x, hx⟩ : ∃ x, F k = x := ⟨_, rfl⟩
      rw [hx] at hSk hfk ⊢
      have HN : Hid (((F (k + 1) : Nat) : Int) = min (x : Int) (u : Int)) := Lib.hid (by rw [hSk]; omega)
      obtain ⟨tb, ta, tu⟩ := t
      simp only at d0 d1 HC
      clear hI ht hu hx hSk
      go_upto_region 9 with (fail)
      have hcq := fun p : Regrown => (bcell (below_regrown wr p.d p.os)).1
      refine wp_region_quiet_below (by kernel_rfl) (by kernel_rfl) ?_
      repeat (go_big_quiet_step ((go_at_call 43; exact Calls.regrown_of (HC.out _ (below_regrown _ _ _)))))
      refine wpQuiet_nil ?_
      intro wq hq
      obtain ⟨pq, hq⟩ := hq
      have hbq : Below wr.heap.size wr wq := by rw [hq]; exact below_regrown _ _ _
      clear hq hcq pq
      obtain ⟨hcq, hfq⟩ := bcell hbq
      have zq := hbq.size
      have BQ := Lib.hid (hb.trans (hbq.mono zb))
      clear hcq hfq hbq cR d0 d1 d2
      go_wp2_with fail
      go_roundw
      case rel => exact ⟨k + 1, by omega, by go_num, by rw [HN.out], BQ.out⟩
      case measure => simp [intOf]; omega
    · obtain rfl : m = k := by omega
      have hqB : decide (((m : Nat) : Int) < m) = false := decide_eq_false (by omega)
      go_wp2_with fail
      exact bodyPost_ret (v := .tuple #[.int .i64 (F m : Nat), .int .i64 0]) (by simp [results, Try.results11, go_sem]) rfl ⟨rfl, hbw⟩
end

end Go.Proofs.Ytmmgkmdfecnkdaa
