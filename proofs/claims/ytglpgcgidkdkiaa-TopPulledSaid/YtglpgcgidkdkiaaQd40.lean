/- Check of links, Length (layer 2). -/
import Derived.Test.YtglpgcgidkdkiaaQd22
import Derived.Test.YtglpgcgidkdkiaaQd19
import Derived.Handy
import Derived.Deep.DrawnRows
import Derived.Deep.DeepCutAuto
import Derived.OrdersHeld
import Derived.Deep.RegionHeld
import Derived.Deep.RegionLaw
namespace Go.Proofs.Ytglpgcgidkdkiaa
open Go.RowKit
open Go.Sort (grow)
set_option linter.unusedVariables false
set_option linter.unusedSimpArgs false

set_option maxRecDepth 100000 in
set_option maxHeartbeats 6400000 in
theorem linkCheck2_c (A As : Option Addr) (n c ns cs : Nat) (wrg : Int) (ds ss : List Dd) (w : World) (hn : n ≤ 40) (hs : ns ≤ 40) (HD : DdsAt w A n ds) (HS : DdsAt w As ns ss) :
    Calls Try.prog 66 #[.agg #[.slice A n c, .slice As ns cs, .int .i64 wrg]] w fun e w' => e = .returned (.int .i64 (er2 (ck2 ds ss n ns wrg))) ∧ Below w.heap.size w w' := by
  by_cases h : n ≤ 12 ∧ ns ≤ 8 ∧ wn wrg 0 8 = true
  case neg => exact linkCheck2_no A As n c ns cs wrg ds ss w hn hs h
  obtain ⟨h1, h2, e1⟩ := h
  have c1 := fun V => within2_c wrg 0 8 V
  rw [e1] at c1
  rw [ck2_d h1 h2 e1]
  replace c1 := Lib.hid c1
  have hB1 : decide ((12 : Int) < n) = false := by simp; omega
  have hB2 : decide ((8 : Int) < ns) = false := by simp; omega
  obtain ⟨R, hR⟩ : ∃ b, ((allN n fun k => dk2 (ddAt ds k) (ln2 ds k)) && allN ns fun k => sk2 (ddAt ss k) n ds) = b := ⟨_, rfl⟩
  rw [hR]
  have HR := Lib.hid hR
  have HDI := Lib.hid HD
  have HSI := Lib.hid HS
  clear HD HS hR e1
  go_enter Try.func66, Try.ntmps66
  go_upto_region 4 with (go_at_call 92; refine (c1.out _).mono ?_; rintro e w' ⟨rfl, rfl⟩)
  go_name_world X hX
  have BX : Below w.heap.size w X := (al2 hX).1
  have zX : X.heap.size = w.heap.size + 2 := (al2 hX).2
  have q0 := (al2_0 hX).2.1
  have Q0 := Lib.hid q0
  have l0 := (al2_0 hX).1
  have own0 : Hid (X.ownsRow (w.heap.size + 1) 3 1 (.slice (some ⟨w.heap.size + 1, 0, none⟩) 1 1) 1 ((lenL ds 0).flatMap encI)) := Lib.hid (by
    rw [← hX]
    exact ⟨rfl, .inr ⟨w.heap.size + 1, 1, #[.int .i64 0], rfl, Nat.le_refl _, by have h := heap_alloc_new (w.alloc (.cells #[.slice A n c, .slice As ns cs, .int .i64 wrg] 112)) (.cells #[.int .i64 0] 3); simp only [World.size_alloc] at h; exact h, Nat.le_refl _, by decide, rfl, rfl⟩⟩)
  clear hX c1
  go_wp2_with fail
  clear q0
  go_loopw [3, 28] (fun v i (wr : World) => ∃ k : Nat, k ≤ n ∧ i = .int .i64 k ∧ Hid (∀ j, j < k → dk2 (ddAt ds j) (ln2 ds j) = true) ∧ Hid (wr.ownsRow (w.heap.size + 1) 3 1 v (k + 1) ((lenL ds k).flatMap encI)) ∧ Below (w.heap.size + 1) X wr) (fun _ i _ => n - (intOf i).toNat)
  case atStart => exact ⟨0, by omega, rfl, Lib.hid (fun j hj => absurd hj (by omega)), own0, Below.refl _ _⟩
  case round =>
    obtain ⟨k, hk, rfl, HK, HO, hb⟩ := hrel
    have zb := hb.size
    have hbw : Below w.heap.size w wr := BX.trans (hb.mono (by omega))
    have m0 : w.heap.size < wr.heap.size := by omega
    by_cases hlt : k < n
    · have hqB : decide ((k : Int) < n) = true := by simp; omega
      obtain ⟨b0, o0, rfl, hb0, y0, y1, y2, y3, y4⟩ := (HDI.out.later hbw).get hlt
      have hbd := ln2_bd (ds := ds) k
      have hs := ln2_succ (ds := ds) (k := k)
      have hg := gr2_bd (d := ddAt ds k)
      obtain ⟨g, c0, rfl, hg0, -⟩ := HO.out.form (by omega)
      have hgl := (HO.out.lt g rfl).2
      have hdk := fun V => isDeed_c (ddAt ds k) (ln2 ds k) V (by omega)
      have hgr := fun V => grows_c (ddAt ds k) V
      obtain ⟨okk, hokk⟩ : ∃ b, dk2 (ddAt ds k) (ln2 ds k) = b := ⟨_, rfl⟩
      rw [hokk] at hdk
      have HOKK := Lib.hid hokk
      have HL1 := lenL_succ (ds := ds) (k := k)
      have x0 := own_at HO.out lenL_len (show k < k + 1 by omega)
      rw [lenL_at (Nat.le_refl k)] at x0
      obtain ⟨d, hd⟩ : ∃ d, ddAt ds k = d := ⟨_, rfl⟩
      rw [hd] at y0 y1 y2 y3 y4 hs hg hdk hgr
      obtain ⟨gd, hgd⟩ : ∃ g, gr2 d = g := ⟨_, rfl⟩
      obtain ⟨a, ha⟩ : ∃ g, ln2 ds k = g := ⟨_, rfl⟩
      obtain ⟨a', ha'⟩ : ∃ g, ln2 ds (k + 1) = g := ⟨_, rfl⟩
      rw [hgd] at hs hg hgr
      rw [ha] at hbd hs x0 hdk
      rw [ha'] at hs HL1
      have hw1 : IntKind.i64.wrap (a + gd) = a' := by rw [hs]; exact IntWalk.i64_in _ (by omega)
      replace HL1 := Lib.hid HL1
      replace hdk := Lib.hid hdk
      replace hgr := Lib.hid hgr
      have hkk : k < k + 1 := by omega
      have hkB : decide ((k : Int) < ((k + 1 : Nat) : Int)) = true := by simp; omega
      have hk3 : (0 : Int) ≤ (k : Int) := Int.natCast_nonneg _
      have hk4 : (k : Int) < (k : Int) + 1 := by omega
      have hk5 : decide ((k : Int) < (k : Int) + 1) = true := by simp; omega
      have hk6 : (k : Int) < ((k + 1 : Nat) : Int) := by omega
      clear ha ha' hd hokk hgd hs hg hbd
      go_upto_region 7 with (fail)
      go_name_world Y hY
      have BY : Below wr.heap.size wr Y := (al1 hY).1
      have qd := (al1_0 hY).2.1
      have ld := (al1_0 hY).1
      have xy := (BY.cell (p := ⟨g, k, none⟩) hgl).trans x0
      have hgy : g < Y.heap.size := Nat.lt_of_lt_of_le hgl BY.size
      clear hY y0 y1 y2 y3 y4 x0
      have hcq := fun p : Regrown => (bcell (below_regrown Y p.d p.os)).1
      refine wp_region_quiet_below (by kernel_rfl) (by kernel_rfl) ?_
      repeat (go_big_quiet_step ((go_at_call 93; exact Calls.regrown_of (hdk.out _))))
      refine wpQuiet_nil ?_
      intro wq hq
      obtain ⟨pq, hq⟩ := hq
      have hbq : Below Y.heap.size Y wq := by rw [hq]; exact below_regrown _ _ _
      clear hq hcq pq
      obtain ⟨hcq, hfq⟩ := bcell hbq
      have zq := hbq.size
      have Bq : Below wr.heap.size wr wq := BY.trans (hbq.mono BY.size)
      have qq := fun j => (hbq.cell (p := ⟨wr.heap.size, j, none⟩) ld).trans (qd j)
      have xq := (hbq.cell (p := ⟨g, k, none⟩) hgy).trans xy
      have HOq := Lib.hid (own_below HO.out Bq)
      have lq : wr.heap.size < wq.heap.size := Nat.lt_of_lt_of_le ld hbq.size
      have hgq : g < wq.heap.size := Nat.lt_of_lt_of_le hgy hbq.size
      clear qd xy hcq hfq
      cases okk
      · have hall : Hid (R = false) := Lib.hid (by rw [← HR.out, allN_no hlt HOKK.out]; rfl)
        go_wp2_with fail
        go_ret
        exact ⟨by rw [hall.out]; rfl, hbw.trans (Bq.mono hbw.size)⟩
      · go_upto_region 9 with (fail)
        go_region_held3 (fun w' => w'.cell? ⟨wr.heap.size, 0, none⟩ = some (.int .i64 d.wh) ∧ w'.cell? ⟨wr.heap.size, 1, none⟩ = some (.int .i64 d.pl) ∧ w'.cell? ⟨wr.heap.size, 2, none⟩ = some (.int .i64 d.fr) ∧ w'.cell? ⟨wr.heap.size, 3, none⟩ = some (.int .i64 d.ba) ∧ w'.cell? ⟨wr.heap.size, 4, none⟩ = some (.int .i64 d.sm) ∧ w'.cell? ⟨g, k, none⟩ = some (.int .i64 a))
          (first | exact ⟨qq 0, qq 1, qq 2, qq 3, qq 4, xq⟩ | exact ⟨k6 0, k6 1, k6 2, k6 3, k6 4, k7⟩ | exact ⟨(kb.cell (p := ⟨wr.heap.size, 0, none⟩) lq).trans (qq 0), (kb.cell (p := ⟨wr.heap.size, 1, none⟩) lq).trans (qq 1), (kb.cell (p := ⟨wr.heap.size, 2, none⟩) lq).trans (qq 2), (kb.cell (p := ⟨wr.heap.size, 3, none⟩) lq).trans (qq 3), (kb.cell (p := ⟨wr.heap.size, 4, none⟩) lq).trans (qq 4), x5⟩ | go_keep)
          ((first | (go_at_call 94; refine (hgr.out _).mono ?_; (rintro e w5 ⟨rfl, hb5⟩); have kb : Below wq.heap.size wq w5 := Below.trans (by (repeat first | with_reducible assumption | with_reducible exact Below.refl _ _ | (with_reducible refine Below.alloc ?_ ?side _; case side => (first | omega | (with_reducible exact Below.size (by assumption)) | (simp; done) | (simp; omega))) | (with_reducible refine Below.setCell ?_ ?side _; case side => (first | omega | (with_reducible exact Below.size (by assumption)) | (simp; done) | (simp; omega))) | with_reducible refine Below.drew ?_ | with_reducible refine below_drewN ?_ _ | (with_reducible refine below_step (by assumption) ?side ?_; case side => (first | omega | (with_reducible exact Below.size (by assumption)) | (simp; done) | (simp; omega))))) (hb5.mono (by simp)); have x5 := (kb.cell (p := ⟨g, k, none⟩) hgq).trans xq) | (refine step_append_K _ (d := (0 : Int)) rfl (.tmp 40) (.tmp 48) _ rfl (w.heap.size + 1) _ 1 8 intE2 encI_len encI_one g (k + 1) c0 (lenL ds k) rfl ?_ lenL_len _ 1 _ [a'] rfl ?_ (by omega) ?_ ?_ ?_; (exact own_below HOq.out (by (repeat first | with_reducible assumption | with_reducible exact Below.refl _ _ | (with_reducible refine Below.alloc ?_ ?side _; case side => (first | omega | (with_reducible exact Below.size (by assumption)) | (simp; done) | (simp; omega))) | (with_reducible refine Below.setCell ?_ ?side _; case side => (first | omega | (with_reducible exact Below.size (by assumption)) | (simp; done) | (simp; omega))) | with_reducible refine Below.drew ?_ | with_reducible refine below_drewN ?_ _ | (with_reducible refine below_step (by assumption) ?side ?_; case side => (first | omega | (with_reducible exact Below.size (by assumption)) | (simp; done) | (simp; omega)))))); (exact sl_new encI_len (by simp) rfl rfl); omega; (have zkb := kb.size; first | (simp only [World.size_alloc]; omega) | (simp only [World.size_alloc, World.size_drew]; omega)); (intro v' w6 hown6 hg6 hat6 hk6; have k7 := (hk6 k (by omega)).trans ((World.cell?_alloc_lt _ _ ⟨g, k, none⟩ (by have zkb := kb.size; show g < _; omega)).trans x5); have kb6 : Below (w.heap.size + 1) wq w6 := Below.grown ((by (repeat first | with_reducible assumption | with_reducible exact Below.refl _ _ | (with_reducible refine Below.alloc ?_ ?side _; case side => (first | omega | (with_reducible exact Below.size (by assumption)) | (simp; done) | (simp; omega))) | (with_reducible refine Below.setCell ?_ ?side _; case side => (first | omega | (with_reducible exact Below.size (by assumption)) | (simp; done) | (simp; omega))) | with_reducible refine Below.drew ?_ | with_reducible refine below_drewN ?_ _ | (with_reducible refine below_step (by assumption) ?side ?_; case side => (first | omega | (with_reducible exact Below.size (by assumption)) | (simp; done) | (simp; omega)))) : Below wq.heap.size wq _).mono (by omega)) hg6 (by have zkb := kb.size; first | (simp only [World.size_alloc]; omega) | (simp only [World.size_alloc, World.size_drew]; omega)) (own_ge HOq.out); have HP := Lib.hid hown6; have k6 := (fun j => (World.cell?_of_block (a := ⟨wr.heap.size, j, none⟩) (hg6.block wr.heap.size (by have zkb := kb.size; first | (simp only [World.size_alloc]; omega) | (simp only [World.size_alloc, World.size_drew]; omega)) (by intro h; cases h; omega))).trans ((World.cell?_alloc_lt _ _ ⟨wr.heap.size, j, none⟩ (by have zkb := kb.size; show wr.heap.size < _; omega)).trans ((kb.cell (p := ⟨wr.heap.size, j, none⟩) lq).trans (qq j)))); clear hown6 hg6 hat6 hk6))))
        all_goals
          go_wp2_with fail
          go_roundw
          case rel => exact ⟨k + 1, by omega, by go_num, Lib.hid (fun j hj => (Nat.lt_succ_iff_lt_or_eq.1 hj).elim (HK.out j) fun e => by rw [e]; exact HOKK.out), by rw [HL1.out]; exact HP, hb.trans ((Bq.mono (by omega)).trans kb6)⟩
          case measure => simp [intOf]; omega
    · obtain rfl : k = n := by omega
      have hqB : decide (((k : Nat) : Int) < k) = false := by simp
      have HR2 : Hid ((allN ns fun j => sk2 (ddAt ss j) k ds) = R) := Lib.hid (by rw [← HR.out, allN_iff.2 HK.out, Bool.true_and])
      obtain ⟨g, c0, rfl, hg0, -⟩ := HO.out.form (by omega)
      have HO2 := HO
      have cc := fun j => (hb.cell (p := ⟨w.heap.size, j, none⟩) (Nat.lt_succ_self _)).trans (Q0.out j)
      have CC := Lib.hid cc
      have HK2 : Hid (Below w.heap.size w wr) := Lib.hid hbw
      clear HR HK HO hb zb hbw
      go_upto_region 11 with (fail)
      go_wp2_with fail
      clear cc
      obtain ⟨wo, rfl⟩ : ∃ wo : World, wo = wr := ⟨_, rfl⟩
      have zo := HK2.out.size
      have m1 : w.heap.size < wo.heap.size := by have := HO2.out.lt g rfl; omega
      have hgo := (HO2.out.lt g rfl).2
      go_loopw [54] (fun i (wr : World) => ∃ q : Nat, q ≤ ns ∧ i = .int .i64 q ∧ Hid (∀ j, j < q → sk2 (ddAt ss j) k ds = true) ∧ Below wo.heap.size wo wr) (fun i _ => ns - (intOf i).toNat)
      case atStart => exact ⟨0, by omega, rfl, Lib.hid (fun j hj => absurd hj (by omega)), Below.refl _ _⟩
      case round =>
        obtain ⟨q, hq, rfl, HK, hb⟩ := hrel
        have zb := hb.size
        have cc := fun j => (hb.cell (p := ⟨w.heap.size, j, none⟩) m1).trans (CC.out j)
        have hbw : Below w.heap.size w wr := HK2.out.trans (hb.mono zo)
        have m0 : w.heap.size < wr.heap.size := by omega
        by_cases hlt : q < ns
        · have hqB : decide ((q : Int) < ns) = true := by simp; omega
          obtain ⟨b0, o0, rfl, hb0, y0, y1, y2, y3, y4⟩ := (HSI.out.later hbw).get hlt
          have HOr := own_below HO2.out hb
          have hgr := Nat.lt_of_lt_of_le hgo zb
          obtain ⟨okk, hokk⟩ : ∃ b, sk2 (ddAt ss q) k ds = b := ⟨_, rfl⟩
          have HOKK := Lib.hid hokk
          obtain ⟨d, hd⟩ : ∃ d, ddAt ss q = d := ⟨_, rfl⟩
          rw [hd] at y0 y1 y2 y3 y4 hokk
          obtain ⟨af, pl, fr, ba, sm⟩ := d
          unfold sk2 at hokk
          simp only at y0 y1 y2 y3 y4 hokk
          clear hd
          have c1 := wb2 (fun n a b V => within2_c n a b V) af 0 k
          have c2 := wb2 (fun n a b V => within2_c n a b V) fr 0 1
          have c4 := fun V => (isMark_c ba sm (-1) V).mono fun e w' h => (⟨h.1, h.2 ▸ Below.refl _ _⟩ : e = .returned (.bool (wn ba (-1) 99 && wn sm (-1) 99)) ∧ Below V.heap.size V w')
          cases e1 : wn af 0 k
          · rw [e1] at c1 hokk
            rw [Bool.false_and] at hokk
            have hall : Hid (R = false) := Lib.hid (by rw [← HR2.out]; exact allN_no hlt (HOKK.out.trans hokk.symm))
            replace c1 := Lib.hid c1
            clear c2 c4 hokk HOr
            go_upto_region 14 with (fail)
            go_name_world Y hY
            have BY : Below wr.heap.size wr Y := (al1 hY).1
            have q0 := (al1_0 hY).2.1
            have l0 := (al1_0 hY).1
            have cy := fun j => (BY.cell (p := ⟨w.heap.size, j, none⟩) m0).trans (cc j)
            have m0y : w.heap.size < Y.heap.size := Nat.lt_of_lt_of_le m0 BY.size
            clear hY y0 y1 y2 y3 y4 cc
            have hcq := fun p : Regrown => (bcell (below_regrown Y p.d p.os)).1
            refine wp_region_quiet_below (by kernel_rfl) (by kernel_rfl) ?_
            repeat (go_big_quiet_step ((first | (go_at_call 92; first | (with_reducible exact Calls.regrown_of (c1.out _)) | (with_reducible exact Calls.regrown_of (c2.out _)) | (with_reducible exact Calls.regrown_of (c3.out _))) | (go_at_call 95; with_reducible exact Calls.regrown_of (c4.out _)))))
            refine wpQuiet_nil ?_
            intro wq hq
            obtain ⟨pq, hq⟩ := hq
            have hbq : Below Y.heap.size Y wq := by rw [hq]; exact below_regrown _ _ _
            clear hq hcq pq
            obtain ⟨hcq, hfq⟩ := bcell hbq
            have zq := hbq.size
            go_wp2_with fail
            go_ret
            exact ⟨by rw [hall.out]; rfl, hbw.trans ((BY.trans (hbq.mono BY.size)).mono hbw.size)⟩
          · rw [e1] at c1 hokk
            rw [Bool.true_and] at hokk
            replace c1 := Lib.hid c1
            obtain ⟨p, rfl⟩ := Int.eq_ofNat_of_zero_le (wn_true.1 e1).1
            have hpk := (wn_true.1 e1).2
            rw [Int.toNat_natCast] at hokk
            have x0 := own_at HOr lenL_len (show p < k + 1 by omega)
            rw [lenL_at (by omega)] at x0
            have hbd := ln2_bd (ds := ds) p
            obtain ⟨a, ha⟩ : ∃ a, ln2 ds p = a := ⟨_, rfl⟩
            rw [ha] at x0 hbd hokk
            have hw2 : IntKind.i64.wrap (a - 1) = a - 1 := IntWalk.i64_in _ (by omega)
            have hp1 : p < k + 1 := by omega
            have hpB : decide ((p : Int) < ((k + 1 : Nat) : Int)) = true := by simp; omega
            have hp3 : (p : Int) < (k : Int) + 1 := by omega
            have hp4 : decide ((p : Int) < (k : Int) + 1) = true := by simp; omega
            have c3 := wb2 (fun n a b V => within2_c n a b V) pl 0 (a - 1)
            clear HOr ha hbd
            cases e2 : wn fr 0 1
            · rw [e2] at c2 hokk
              rw [Bool.false_and] at hokk
              have hall : Hid (R = false) := Lib.hid (by rw [← HR2.out]; exact allN_no hlt (HOKK.out.trans hokk.symm))
              replace c2 := Lib.hid c2
              clear c3 c4 hokk x0
              go_upto_region 14 with (fail)
              go_name_world Y hY
              have BY : Below wr.heap.size wr Y := (al1 hY).1
              have q0 := (al1_0 hY).2.1
              have l0 := (al1_0 hY).1
              have cy := fun j => (BY.cell (p := ⟨w.heap.size, j, none⟩) m0).trans (cc j)
              have m0y : w.heap.size < Y.heap.size := Nat.lt_of_lt_of_le m0 BY.size
              clear hY y0 y1 y2 y3 y4 cc
              have hcq := fun p : Regrown => (bcell (below_regrown Y p.d p.os)).1
              refine wp_region_quiet_below (by kernel_rfl) (by kernel_rfl) ?_
              repeat (go_big_quiet_step ((first | (go_at_call 92; first | (with_reducible exact Calls.regrown_of (c1.out _)) | (with_reducible exact Calls.regrown_of (c2.out _)) | (with_reducible exact Calls.regrown_of (c3.out _))) | (go_at_call 95; with_reducible exact Calls.regrown_of (c4.out _)))))
              refine wpQuiet_nil ?_
              intro wq hq
              obtain ⟨pq, hq⟩ := hq
              have hbq : Below Y.heap.size Y wq := by rw [hq]; exact below_regrown _ _ _
              clear hq hcq pq
              obtain ⟨hcq, hfq⟩ := bcell hbq
              have zq := hbq.size
              go_wp2_with fail
              go_ret
              exact ⟨by rw [hall.out]; rfl, hbw.trans ((BY.trans (hbq.mono BY.size)).mono hbw.size)⟩
            · rw [e2] at c2 hokk
              rw [Bool.true_and] at hokk
              replace c2 := Lib.hid c2
              cases e3 : wn pl 0 (a - 1)
              · rw [e3] at c3 hokk
                rw [Bool.false_and] at hokk
                have hall : Hid (R = false) := Lib.hid (by rw [← HR2.out]; exact allN_no hlt (HOKK.out.trans hokk.symm))
                replace c3 := Lib.hid c3
                clear c4 hokk
                go_upto_region 14 with (fail)
                go_name_world Y hY
                have BY : Below wr.heap.size wr Y := (al1 hY).1
                have q0 := (al1_0 hY).2.1
                have l0 := (al1_0 hY).1
                have cy := fun j => (BY.cell (p := ⟨w.heap.size, j, none⟩) m0).trans (cc j)
                have m0y : w.heap.size < Y.heap.size := Nat.lt_of_lt_of_le m0 BY.size
                clear hY y0 y1 y2 y3 y4 cc
                have xq := (BY.cell (p := ⟨g, p, none⟩) hgr).trans x0
                have lgy : g < Y.heap.size := Nat.lt_of_lt_of_le hgr BY.size
                clear x0
                have hcq := fun p : Regrown => (bcell (below_regrown Y p.d p.os)).1
                refine wp_region_quiet_below (by kernel_rfl) (by kernel_rfl) ?_
                repeat (go_big_quiet_step ((first | (go_at_call 92; first | (with_reducible exact Calls.regrown_of (c1.out _)) | (with_reducible exact Calls.regrown_of (c2.out _)) | (with_reducible exact Calls.regrown_of (c3.out _))) | (go_at_call 95; with_reducible exact Calls.regrown_of (c4.out _)))))
                refine wpQuiet_nil ?_
                intro wq hq
                obtain ⟨pq, hq⟩ := hq
                have hbq : Below Y.heap.size Y wq := by rw [hq]; exact below_regrown _ _ _
                clear hq hcq pq
                obtain ⟨hcq, hfq⟩ := bcell hbq
                have zq := hbq.size
                go_wp2_with fail
                go_ret
                exact ⟨by rw [hall.out]; rfl, hbw.trans ((BY.trans (hbq.mono BY.size)).mono hbw.size)⟩
              · rw [e3] at c3 hokk
                rw [Bool.true_and] at hokk
                replace c3 := Lib.hid c3
                obtain ⟨mk, hmk⟩ : ∃ b, (wn ba (-1) 99 && wn sm (-1) 99) = b := ⟨_, rfl⟩
                rw [hmk] at c4 hokk
                subst hokk
                replace c4 := Lib.hid c4
                clear hmk
                cases mk
                · have hall : Hid (R = false) := Lib.hid (by rw [← HR2.out]; exact allN_no hlt HOKK.out)
                  go_upto_region 14 with (fail)
                  go_name_world Y hY
                  have BY : Below wr.heap.size wr Y := (al1 hY).1
                  have q0 := (al1_0 hY).2.1
                  have l0 := (al1_0 hY).1
                  have cy := fun j => (BY.cell (p := ⟨w.heap.size, j, none⟩) m0).trans (cc j)
                  have m0y : w.heap.size < Y.heap.size := Nat.lt_of_lt_of_le m0 BY.size
                  clear hY y0 y1 y2 y3 y4 cc
                  have xq := (BY.cell (p := ⟨g, p, none⟩) hgr).trans x0
                  have lgy : g < Y.heap.size := Nat.lt_of_lt_of_le hgr BY.size
                  clear x0
                  have hcq := fun p : Regrown => (bcell (below_regrown Y p.d p.os)).1
                  refine wp_region_quiet_below (by kernel_rfl) (by kernel_rfl) ?_
                  repeat (go_big_quiet_step ((first | (go_at_call 92; first | (with_reducible exact Calls.regrown_of (c1.out _)) | (with_reducible exact Calls.regrown_of (c2.out _)) | (with_reducible exact Calls.regrown_of (c3.out _))) | (go_at_call 95; with_reducible exact Calls.regrown_of (c4.out _)))))
                  refine wpQuiet_nil ?_
                  intro wq hq
                  obtain ⟨pq, hq⟩ := hq
                  have hbq : Below Y.heap.size Y wq := by rw [hq]; exact below_regrown _ _ _
                  clear hq hcq pq
                  obtain ⟨hcq, hfq⟩ := bcell hbq
                  have zq := hbq.size
                  go_wp2_with fail
                  go_ret
                  exact ⟨by rw [hall.out]; rfl, hbw.trans ((BY.trans (hbq.mono BY.size)).mono hbw.size)⟩
                · skip
                  go_upto_region 14 with (fail)
                  go_name_world Y hY
                  have BY : Below wr.heap.size wr Y := (al1 hY).1
                  have q0 := (al1_0 hY).2.1
                  have l0 := (al1_0 hY).1
                  have cy := fun j => (BY.cell (p := ⟨w.heap.size, j, none⟩) m0).trans (cc j)
                  have m0y : w.heap.size < Y.heap.size := Nat.lt_of_lt_of_le m0 BY.size
                  clear hY y0 y1 y2 y3 y4 cc
                  have xq := (BY.cell (p := ⟨g, p, none⟩) hgr).trans x0
                  have lgy : g < Y.heap.size := Nat.lt_of_lt_of_le hgr BY.size
                  clear x0
                  have hcq := fun p : Regrown => (bcell (below_regrown Y p.d p.os)).1
                  refine wp_region_quiet_below (by kernel_rfl) (by kernel_rfl) ?_
                  repeat (go_big_quiet_step ((first | (go_at_call 92; first | (with_reducible exact Calls.regrown_of (c1.out _)) | (with_reducible exact Calls.regrown_of (c2.out _)) | (with_reducible exact Calls.regrown_of (c3.out _))) | (go_at_call 95; with_reducible exact Calls.regrown_of (c4.out _)))))
                  refine wpQuiet_nil ?_
                  intro wq hq
                  obtain ⟨pq, hq⟩ := hq
                  have hbq : Below Y.heap.size Y wq := by rw [hq]; exact below_regrown _ _ _
                  clear hq hcq pq
                  obtain ⟨hcq, hfq⟩ := bcell hbq
                  have zq := hbq.size
                  go_wp2_with fail
                  go_roundw
                  case rel => exact ⟨q + 1, by omega, by go_num, Lib.hid (fun j hj => (Nat.lt_succ_iff_lt_or_eq.1 hj).elim (HK.out j) fun e => by rw [e]; exact HOKK.out), hb.trans ((BY.trans (hbq.mono BY.size)).mono zb)⟩
                  case measure => simp [intOf]; omega
        · obtain rfl : q = ns := by omega
          have hqB : decide (((q : Nat) : Int) < q) = false := by simp
          have hall : Hid (R = true) := Lib.hid (by rw [← HR2.out]; exact allN_iff.2 HK.out)
          go_wp2_with fail
          go_ret
          exact ⟨by rw [hall.out]; rfl, hbw⟩
set_option maxHeartbeats 1600000 in
theorem Length2_c (A As : Option Addr) (n c ns cs : Nat) (wrg : Int) (ds ss : List Dd) (w : World) (hn : n ≤ 40) (hs : ns ≤ 40) (hck : ck2 ds ss n ns wrg = true) (HD : DdsAt w A n ds) (HS : DdsAt w As ns ss) :
    Calls Try.prog 44 #[.agg #[.slice A n c, .slice As ns cs, .int .i64 wrg]] w fun e w' => e = .returned (.tuple #[.int .i64 (ln2 ds n), .int .i64 0]) ∧ Below w.heap.size w w' := by
  have h12 : n ≤ 12 := by
    refine Classical.byContradiction fun h => ?_
    rw [ck2_a h] at hck
    cases hck
  have hc := Lib.hid (fun V (hV : Below w.heap.size w V) => linkCheck2_c A As n c ns cs wrg ds ss V hn hs (HD.later hV) (HS.later hV))
  rw [hck, show er2 true = 0 from rfl] at hc
  have hl := Lib.hid (fun V (hV : Below w.heap.size w V) => long2_c A As n c ns cs wrg ds V h12 (HD.later hV))
  clear HD HS hck
  go_enter Try.func44, Try.ntmps44
  go_upto_region 1 with (fail)
  go_name_world X hX
  have BX : Below w.heap.size w X := (al1 hX).1
  have q0 := (al1_0 hX).2.1
  have l0 := (al1_0 hX).1
  clear hX
  go_wp2_with fail
  refine (hc.out _ BX).mono ?_
  rintro e w1 ⟨rfl, hb1⟩
  have B1 : Below w.heap.size w w1 := BX.trans (hb1.mono BX.size)
  have q1 := fun j => (hb1.cell (p := ⟨w.heap.size, j, none⟩) l0).trans (q0 j)
  have l1 : w.heap.size < w1.heap.size := Nat.lt_of_lt_of_le l0 hb1.size
  clear q0 hb1
  go_wp2_with fail
  refine (hl.out _ B1).mono ?_
  rintro e w2 ⟨⟨z, rfl⟩, hb2⟩
  go_wp2_with fail
  exact bodyPost_ret (v := .tuple #[.int .i64 (ln2 ds n), .int .i64 0]) (by simp [results, Try.results44, go_sem]) rfl ⟨rfl, B1.trans (hb2.mono B1.size)⟩

end Go.Proofs.Ytglpgcgidkdkiaa
