/- Strange of the specification (layer 4), walked. -/
import Derived.Test.YtmmgkmdfecnkdaaQa43
import Derived.Shelf.Abstract
import Derived.Laws.EntriesVeiled
import Derived.Handy
import Derived.Deep.DrawnRows
import Derived.Deep.DeepCutAuto
namespace Go.Proofs.Ytmmgkmdfecnkdaa
open Go.RowKit
open Go.Sort (grow)
set_option linter.unusedVariables false
set_option linter.unusedSimpArgs false

theorem refRightT_c (Ar : Option Addr) (nr cr : Nat) (Ad : Option Addr) (nd cd : Nat) (p : P4) (T : Option Addr) (c : Nat) (t : Int × Int × W4) (i : Nat) (V : World) (ok : Ok4 nr nd p) (HM : MemP Ar nr Ad nd p V) (HT : IntsAt V T nr (uL4 nr t.2.2)) (ht : t ∈ alt4 p) (hi : i < nd) :
    Calls Try.prog 53 #[.agg #[.int .i64 p.ir, .int .i64 p.glo, .int .i64 p.ghi, .slice Ar nr cr, .slice Ad nd cd, .int .i64 p.wr], .agg #[.int .i64 (reAt p.res i).wh, .int .i64 (reAt p.res i).rd, .int .i64 (reAt p.res i).ct, .int .i64 (reAt p.res i).rs, .int .i64 (reAt p.res i).of, .int .i64 (reAt p.res i).lo, .int .i64 (reAt p.res i).hi], .agg #[.int .i64 t.1, .int .i64 t.2.1, .slice T nr c]] V
      fun e w' => e = .returned (.bool (rgR4 p nr t i)) ∧ Below V.heap.size V w' := by
  have h1 := alt4_in ok ht
  have hr := (ok.re i hi).2.1
  exact refRight4_c Ar nr cr Ad nd cd p.ir p.glo p.ghi p.wr p.rods (reAt p.res i) T nr c (uL4 nr t.2.2) t.1 t.2.1 V HM.hr HT ok.ir (ok.ro _ (by omega)).2.2 (okx_of ok hi) h1.1 h1.2.1 hr.2 (by rw [uL4_at (by omega)]; exact h1.2.2 _ (by omega))
set_option maxRecDepth 100000 in
set_option maxHeartbeats 3200000 in
theorem refStrange4_c (Ar : Option Addr) (nr cr : Nat) (Ad : Option Addr) (nd cd : Nat) (p : P4) (w : World) (hnr : nr ≤ 40) (hnd : nd ≤ 40) (HM : MemP Ar nr Ad nd p w) (hg8 : ck4 p = true → p.ghi - p.glo ≤ 8) (h12 : ck4 p = true → (ws4 p).length ≤ 12) :
    Calls Try.prog 19 #[.agg #[.int .i64 p.ir, .int .i64 p.glo, .int .i64 p.ghi, .slice Ar nr cr, .slice Ad nd cd, .int .i64 p.wr]] w fun e w' =>
      ∃ A c, e = .returned (.tuple #[.slice A (sgs4 p).length c, .int .i64 (op4 p true)]) ∧ IntsAt w' A (sgs4 p).length (sgs4 p) ∧ Below w.heap.size w w' := by
  have HKN := Lib.hid (fun V (hV : Below w.heap.size w V) => known4_c Ar nr cr Ad nd cd p true V hnr hnd (HM.later hV) hg8 h12)
  have hr := HM.hr.1
  have hd := HM.hd.1
  unfold Kn4 at HKN
  by_cases hz0 : op4 p true = 0
  case neg =>
    have hs : sgs4 p = [] := by unfold sgs4; rw [show (op4 p true == 0) = false by simpa using hz0]; rfl
    rw [hs]
    obtain ⟨z, hz⟩ : ∃ z, op4 p true = z := ⟨_, rfl⟩
    rw [hz] at HKN hz0 ⊢
    have hzb : (z == 0) = false := by simpa using hz0
    have hzn : (z != 0) = true := by simpa using hz0
    obtain ⟨l, hll⟩ : ∃ l, knL4 p true = l := ⟨_, rfl⟩
    rw [hll] at HKN
    clear HM hr hd hz hll hs hz0 hg8 h12
    obtain ⟨ir, glo, ghi, wrg, rods, res⟩ := p
    simp only at HKN ⊢
    go_enter Try.func19, Try.ntmps19
    go_upto_region 1 with (fail)
    go_name_world X hX
    have BX : Below w.heap.size w X := (al1 hX).1
    have HPX : Hid (Blk X w.heap.size 27 #[Value.int .i64 ir, .int .i64 glo, .int .i64 ghi, .slice Ar nr cr, .slice Ad nd cd, .int .i64 wrg]) := by rw [← hX]; exact Lib.hid (Blk.new w _ _)
    have qX := HPX.out.cell
    have lX := HPX.out.lt
    clear hX
    go_wp2_with (go_at_call 45; refine (HKN.out X BX).mono ?_; (rintro e w1 ⟨A, c, hs, rfl, -, hb1⟩); (have B1 := BX.trans (hb1.mono BX.size)); clear hb1)
    exact bodyPost_ret (v := .tuple #[.slice none 0 0, .int .i64 z]) (by simp [results, Try.results19, go_sem]) rfl ⟨none, 0, rfl, nil_ints _, B1⟩
  have hck := (op4_ol hz0).2.1
  have ok := ok4_of hck hr hd
  have hl := knL4_le (p := p) (is := true) (by omega) hg8 h12
  have hs : sgs4 p = sgL4 (fun i => sgK4 p nr (knL4 p true) i (knL4 p true).length) nd := by
    rw [knL4_yes hz0]
    have := strange_eq ok
    unfold sgR4 at this
    rw [this]
    unfold sgs4
    rw [hz0, hd]; rfl
  rw [hs, hz0]
  rw [hz0] at HKN
  have HRT := Lib.hid (fun k (hk : k < (knL4 p true).length) i (hi : i < nd) T c V (hV : Below w.heap.size w V) (HT : IntsAt V T nr (uL4 nr (tuAt (knL4 p true) k).2.2)) => refRightT_c Ar nr cr Ad nd cd p T c (tuAt (knL4 p true) k) i V ok (HM.later hV) HT (knL4_in hr hd (tuAt_mem hk)).1 hi)
  have HMI := Lib.hid HM
  have HSK : Hid (∀ i k, sgK4 p nr (knL4 p true) i (k + 1) = (sgK4 p nr (knL4 p true) i k || rgR4 p nr (tuAt (knL4 p true) k) i)) := Lib.hid fun i k => rfl
  have HS0 : Hid (∀ i, sgK4 p nr (knL4 p true) i 0 = false) := Lib.hid fun i => rfl
  have hnd8 := ok.nd8
  obtain ⟨R, hR⟩ : ∃ R, rgR4 p nr = R := ⟨_, rfl⟩
  rw [hR] at HRT HSK
  obtain ⟨l, hll⟩ : ∃ l, knL4 p true = l := ⟨_, rfl⟩
  rw [hll] at HKN hl HRT HSK HS0 ⊢
  obtain ⟨G, hG⟩ : ∃ G, sgK4 p nr l = G := ⟨_, rfl⟩
  rw [hG] at HSK HS0 ⊢
  obtain ⟨m, hm⟩ : ∃ m, l.length = m := ⟨_, rfl⟩
  rw [hm] at HKN hl HRT ⊢
  obtain ⟨F, hF⟩ : ∃ F : Nat → Bool, (fun i => G i m) = F := ⟨_, rfl⟩
  have HF : Hid (∀ i, G i m = F i) := Lib.hid (fun i => by rw [← hF])
  rw [hF]
  clear HM hr hd hg8 h12 hck ok hs hz0 hR hll hG hm hF
  obtain ⟨ir, glo, ghi, wrg, rods, res⟩ := p
  simp only at HKN HRT HMI ⊢
  go_enter Try.func19, Try.ntmps19
  go_upto_region 1 with (fail)
  go_name_world X hX
  have BX : Below w.heap.size w X := (al1 hX).1
  have HPX : Hid (Blk X w.heap.size 27 #[Value.int .i64 ir, .int .i64 glo, .int .i64 ghi, .slice Ar nr cr, .slice Ad nd cd, .int .i64 wrg]) := by rw [← hX]; exact Lib.hid (Blk.new w _ _)
  have qX := HPX.out.cell
  have lX := HPX.out.lt
  clear hX
  go_upto_region 2 with (go_at_call 45; refine (HKN.out X BX).mono ?_; (rintro e w1 ⟨A, c, hs, rfl, hT, hb1⟩); (have B1 := BX.trans (hb1.mono BX.size)); (have HP1 := Lib.hid (HPX.out.below hb1 HPX.out.lt)); (have HT := Lib.hid hT); clear hb1 hT qX lX)
  have l1 := HP1.out.lt
  go_wp2_with fail
  go_loopw [6, 7] (fun v i (wr : World) => ∃ k : Nat, k ≤ nd ∧ i = .int .i64 k ∧ Hid (wr.ownsRow w1.heap.size 3 1 v (sgL4 F k).length ((sgL4 F k).flatMap encI)) ∧ Below w1.heap.size w1 wr) (fun _ i _ => nd - (intOf i).toNat)
  case atStart => exact ⟨0, by omega, by simp, Lib.hid (World.ownsRow_nil w1 w1.heap.size _ 1), Below.refl _ _⟩
  case round =>
    obtain ⟨k, hk, rfl, HO, hb⟩ := hrel
    obtain ⟨wo, rfl⟩ : ∃ wo : World, wo = wr := ⟨_, rfl⟩
    have zb := hb.size
    have HPW := Lib.hid (HP1.out.below hb l1)
    have hwo := Lib.hid (B1.trans (hb.mono B1.size))
    have hsl := sgL4_len F k
    have qW := HPW.out.cell
    have lW := HPW.out.lt
    by_cases hlt : k < nd
    · have hqB : decide ((k : Int) < nd) = true := decide_eq_true (by omega)
      have vk : IntKind.i64.wrap ((k : Int) + 1) = (k : Int) + 1 := IntWalk.i64_in _ (by omega)
      obtain ⟨bd, od, hA, hbd, y0, y1, y2, y3, y4, y5, y6⟩ := (HMI.out.hd.later hwo.out).get hlt
      subst hA
      have HRK := Lib.hid (fun j (hj : j < m) T c V (hV : Below w.heap.size w V) HT => HRT.out j hj k hlt T c V hV HT)
      obtain ⟨x, hx⟩ : ∃ x, reAt res k = x := ⟨_, rfl⟩
      rw [hx] at y0 y1 y2 y3 y4 y5 y6 HRK
      obtain ⟨xw, xr, xc, xs, xo, lo, hi⟩ := x
      simp only at y0 y1 y2 y3 y4 y5 y6 HRK
      have Y0 := Lib.hid (fun V (h : Below wo.heap.size wo V) => (h.cell (p := ⟨bd, od + k * 7, none⟩) hbd).trans y0)
      have Y1 := Lib.hid (fun V (h : Below wo.heap.size wo V) => (h.cell (p := ⟨bd, od + k * 7 + 1, none⟩) hbd).trans y1)
      have Y2 := Lib.hid (fun V (h : Below wo.heap.size wo V) => (h.cell (p := ⟨bd, od + k * 7 + 2, none⟩) hbd).trans y2)
      have Y3 := Lib.hid (fun V (h : Below wo.heap.size wo V) => (h.cell (p := ⟨bd, od + k * 7 + 3, none⟩) hbd).trans y3)
      have Y4 := Lib.hid (fun V (h : Below wo.heap.size wo V) => (h.cell (p := ⟨bd, od + k * 7 + 4, none⟩) hbd).trans y4)
      have Y5 := Lib.hid (fun V (h : Below wo.heap.size wo V) => (h.cell (p := ⟨bd, od + k * 7 + 5, none⟩) hbd).trans y5)
      have Y6 := Lib.hid (fun V (h : Below wo.heap.size wo V) => (h.cell (p := ⟨bd, od + k * 7 + 6, none⟩) hbd).trans y6)
      have hg0 := HS0.out k
      clear hx y0 y1 y2 y3 y4 y5 y6
      go_wp2_with fail
      clear qW
      go_loopw [8, 9] (fun b i (wr : World) => ∃ t : Nat, t ≤ m ∧ i = .int .i64 t ∧ b = .bool (G k t) ∧ Below wo.heap.size wo wr) (fun _ i _ => m - (intOf i).toNat)
      case atStart => exact ⟨0, by omega, by simp, by rw [hg0], Below.refl _ _⟩
      case round =>
        obtain ⟨t, ht, rfl, rfl, hb2⟩ := hrel
        have zb2 := hb2.size
        have hw2 := hwo.out.trans (hb2.mono hwo.out.size)
        by_cases hlt2 : t < m
        · have hqB2 : decide ((t : Int) < m) = true := decide_eq_true (by omega)
          have vt : IntKind.i64.wrap ((t : Int) + 1) = (t : Int) + 1 := IntWalk.i64_in _ (by omega)
          obtain ⟨b, off, B, c, eA, hbl, d0, d1, d2, hI⟩ := (HT.out.later (hb.trans (hb2.mono zb))).get hlt2
          cases eA
          have HPR := Lib.hid (HPW.out.below hb2 lW)
          have qR := HPR.out.cell
          have lR := HPR.out.lt
          have y0 := Y0.out wr hb2
          have y1 := Y1.out wr hb2
          have y2 := Y2.out wr hb2
          have y3 := Y3.out wr hb2
          have y4 := Y4.out wr hb2
          have y5 := Y5.out wr hb2
          have y6 := Y6.out wr hb2
          have hbd2 : bd < wr.heap.size := Nat.lt_of_lt_of_le hbd zb2
          have HC := Lib.hid (fun V (hV : Below wr.heap.size wr V) => HRK.out t hlt2 B c V (hw2.trans (hV.mono hw2.size)) (hI.later hV))
          have hsk := HSK.out k t
          obtain ⟨s, hs⟩ : ∃ s, tuAt l t = s := ⟨_, rfl⟩
          rw [hs] at d0 d1 HC hsk
          obtain ⟨g, hg⟩ : ∃ g, R s k = g := ⟨_, rfl⟩
          rw [hg] at HC hsk
          obtain ⟨tb, ta, tu⟩ := s
          simp only at d0 d1 HC
          clear hI hs hg
          cases e1 : G k t
          · rw [e1] at hsk
            simp only [Bool.false_or] at hsk
            have HSN := Lib.hid hsk
            clear hsk e1
            go_upto_region 12 with (fail)
            have hcq := fun p : Regrown => (bcell (below_regrown wr p.d p.os)).1
            refine wp_region_quiet_below (by kernel_rfl) (by kernel_rfl) ?_
            repeat (go_big_quiet_step ((go_at_call 53; exact Calls.regrown_of (HC.out _ (below_regrown _ _ _)))))
            refine wpQuiet_nil ?_
            intro wq hq
            obtain ⟨pq, hq⟩ := hq
            have hbq : Below wr.heap.size wr wq := by rw [hq]; exact below_regrown _ _ _
            clear hq hcq pq
            obtain ⟨hcq, hfq⟩ := bcell hbq
            have zq := hbq.size
            have BQ := Lib.hid (hb2.trans (hbq.mono zb2))
            clear hcq hfq hbq qR d0 d1 d2 y0 y1 y2 y3 y4 y5 y6
            go_wp2_with fail
            go_roundw
            case rel => exact ⟨t + 1, by omega, by go_num, by rw [HSN.out], BQ.out⟩
            case measure => simp [intOf]; omega
          · rw [e1] at hsk
            simp only [Bool.true_or] at hsk
            have HSN := Lib.hid hsk
            clear hsk e1
            go_upto_region 12 with (fail)
            have hcq := fun p : Regrown => (bcell (below_regrown wr p.d p.os)).1
            refine wp_region_quiet_below (by kernel_rfl) (by kernel_rfl) ?_
            repeat (go_big_quiet_step ((fail)))
            refine wpQuiet_nil ?_
            intro wq hq
            obtain ⟨pq, hq⟩ := hq
            have hbq : Below wr.heap.size wr wq := by rw [hq]; exact below_regrown _ _ _
            clear hq hcq pq
            obtain ⟨hcq, hfq⟩ := bcell hbq
            have zq := hbq.size
            have BQ := Lib.hid (hb2.trans (hbq.mono zb2))
            clear hcq hfq hbq qR d0 d1 d2 y0 y1 y2 y3 y4 y5 y6
            go_wp2_with fail
            go_roundw
            case rel => exact ⟨t + 1, by omega, by go_num, by rw [HSN.out], BQ.out⟩
            case measure => simp [intOf]; omega
        · obtain rfl : m = t := by omega
          have hqB2 : decide (((m : Nat) : Int) < m) = false := decide_eq_false (by omega)
          have hFk := HF.out k
          cases e1 : F k
          · have HSN := Lib.hid (sgL4_no e1)
            rw [e1] at hFk
            have HO2 := Lib.hid (own_below HO.out hb2)
            obtain ⟨T, hT⟩ : ∃ T, sgL4 F k = T := ⟨_, rfl⟩
            rw [hT] at HO2 HSN hsl
            obtain ⟨n, hn⟩ : ∃ n, T.length = n := ⟨_, rfl⟩
            rw [hn] at HO2 hsl
            have HTN := Lib.hid hn
            clear e1 hT hn HO
            go_wp2_with (at_builtin; go_must (refine wpList_append_T _ (d := (0 : Int)) rfl (.tmp 47) (.tmp 49) _ rfl w1.heap.size _ 1 8 int4E encI_len encI_one u6 u6.ownBlock n T rfl rfl ?ow _ 1 _ [(k : Int)] rfl ?sl (by omega) ?sz ?_; (case ow => exact own_below HO2.out (by (repeat first | with_reducible assumption | with_reducible exact Below.refl _ _ | (with_reducible refine Below.alloc ?_ ?side _; case side => (first | omega | (with_reducible exact Below.size (by assumption)) | (simp; done) | (simp; omega))) | (with_reducible refine Below.setCell ?_ ?side _; case side => (first | omega | (with_reducible exact Below.size (by assumption)) | (simp; done) | (simp; omega))) | with_reducible refine Below.drew ?_ | with_reducible refine below_drewN ?_ _ | (with_reducible refine below_step (by assumption) ?side ?_; case side => (first | omega | (with_reducible exact Below.size (by assumption)) | (simp; done) | (simp; omega)))))); (case sl => exact sl_new encI_len (by first | rfl | simp) rfl rfl); (case sz => go_size); (rintro v8 w8 ho8 hg8 ha8); (have hb8 : Below w1.heap.size wr w8 := Below.grown (by (repeat first | with_reducible assumption | with_reducible exact Below.refl _ _ | (with_reducible refine Below.alloc ?_ ?side _; case side => (first | omega | (with_reducible exact Below.size (by assumption)) | (simp; done) | (simp; omega))) | (with_reducible refine Below.setCell ?_ ?side _; case side => (first | omega | (with_reducible exact Below.size (by assumption)) | (simp; done) | (simp; omega))) | with_reducible refine Below.drew ?_ | with_reducible refine below_drewN ?_ _ | (with_reducible refine below_step (by assumption) ?side ?_; case side => (first | omega | (with_reducible exact Below.size (by assumption)) | (simp; done) | (simp; omega))))) hg8 (by go_size) (own_ge HO2.out)); (have HO8 := Lib.hid ho8); (clear ho8 hg8 ha8)))
            go_roundw
            case rel => exact ⟨k + 1, by omega, by go_num, by rw [HSN.out, List.length_append, HTN.out]; exact HO8, (hb.trans (hb2.mono zb)).trans hb8⟩
            case measure => simp [intOf]; omega
          · have HSN := Lib.hid (sgL4_yes e1)
            rw [e1] at hFk
            have HO2 := Lib.hid (own_below HO.out hb2)
            clear e1 HO
            go_wp2_with fail
            go_roundw
            case rel => exact ⟨k + 1, by omega, by go_num, by rw [HSN.out]; exact HO2, hb.trans (hb2.mono zb)⟩
            case measure => simp [intOf]; omega
    · obtain rfl : nd = k := by omega
      have hqB : decide (((nd : Nat) : Int) < nd) = false := decide_eq_false (by omega)
      obtain ⟨A5, c5, e5, -, hs5⟩ := SlAt.of_own (d := (0 : Int)) encI_len HO.out rfl
      subst e5
      have HS5 := Lib.hid (ints_iff.2 hs5)
      clear hs5 HO
      go_wp2_with fail
      exact bodyPost_ret (v := .tuple #[.slice A5 (sgL4 F nd).length c5, .int .i64 0]) (by simp [results, Try.results19, go_sem]) rfl ⟨A5, c5, rfl, HS5.out, hwo.out⟩

end Go.Proofs.Ytmmgkmdfecnkdaa
