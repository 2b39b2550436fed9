/- cut of scrap (layer 11): the greatest number of bars with pieces behind a sawing. -/
import Derived.Test.YtdhlnlmhdacblaaTs24
import Derived.Deep.DrawnRows
import Derived.Deep.DeepCutAuto
import Derived.Deep.RegionLaw
namespace Go.Proofs.Ytdhlnlmhdacblaa
open Go.RowKit
open Go.Sort (grow)
set_option linter.unusedVariables false
set_option linter.unusedSimpArgs false

attribute [local go_sem ↓] Go.wp_at_zero Go.wp_at_succ
set_option maxRecDepth 100000 in
set_option maxHeartbeats 3200000 in
theorem cut0_c (Ab Ap : Option Addr) (go gr gc cr cc nb cb np cp U L : Nat) (kf wrg wa : Int) (rests cuts : List Int) (B best : Nat) (w : World) (hL : L = np) (hn : np ≤ 8) (hU : U ≤ 8) (HC : CutM B go gr gc cr cc nb Ab cb kf Ap np cp wrg rests cuts best w) :
    Calls Try.prog 26 #[.pointer (some ⟨go, 0, none⟩), .int .i64 L, .int .i64 wa, .int .i64 U] w fun e W' => e = .returned (.tuple #[]) ∧ CutM B go gr gc cr cc nb Ab cb kf Ap np cp wrg rests cuts (max best U) W' ∧ But3 go gr gc w W' := by
  subst hL
  have c0 := HC.blk.cell
  have f0 := HC.blk.frozen
  have l0 := HC.blk.lt
  have H := Lib.hid HC
  clear HC
  have hw : IntKind.i64.wrap (U : Int) = U := IntWalk.i64_in _ (by omega)
  have ht : decide ((U : Int) ≤ max (best : Int) (U : Int)) = true := by simp; omega
  go_enter Try.func26, Try.ntmps26
  go_wp2_with fail
  refine bodyPost_ret (results_none rfl _ _ _) rfl ?_
  have h1 := H.out.setb (max best U)
  rw [show ((max best U : Nat) : Int) = max (best : Int) (U : Int) by omega] at h1
  exact ⟨rfl, h1, But3.set (p := ⟨go, 6, none⟩) (.inl rfl) _⟩
theorem rsB_le {bs : List Br} {ps : List Pc} {kf : Int} {nb np : Nat} {l : List Nat} {q : Nat} (ok : OkSt bs ps kf nb np) (hq : q < nb) : rsB bs ps kf l q ≤ 999 := by
  have h1 := (ok.br q hq).2
  have h2 : 0 ≤ kf * ((l.count q - 1 : Nat) : Int) := Int.mul_nonneg ok.kf.1 (Int.natCast_nonneg _)
  have h3 : ∀ (ps : List Pc) (l : List Nat), (∀ k, k < ps.length → 1 ≤ (pcAt ps k).long) → 0 ≤ smB ps l q := by
    intro ps
    induction ps with
    | nil => intro l _; simp [smB]
    | cons p ps ih =>
      intro l h
      cases l with
      | nil => simp [smB]
      | cons a l =>
        have h0 := h 0 (by simp)
        have := ih l fun k hk => h (k + 1) (by simpa using hk)
        have e : smB (p :: ps) (a :: l) q = (bif a == q then p.long else 0) + smB ps l q := by
          unfold smB
          rw [List.zip_cons_cons, List.map_cons, List.sum_cons]
        rw [e]
        have h0' : 1 ≤ p.long := h0
        cases a == q <;> simp <;> omega
  have h4 := h3 ps l fun k hk => (ok.pc k (by rw [← ok.pl]; exact hk)).1
  unfold rsB
  omega
set_option maxRecDepth 100000 in
set_option maxHeartbeats 12800000 in
theorem cut_c (Ab Ap : Option Addr) (go gr gc cr cc nb cb np cp : Nat) (kf wrg : Int) (bs : List Br) (ms : List Pm) (ps : List Pc) (W0 : World) (ok : OkSt bs ps kf nb np) (hwr : 0 ≤ wrg ∧ wrg ≤ 8) (HM : StMem Ab Ap nb np bs ms ps W0) :
    ∀ (p : Nat) (l : List Nat) (best : Nat) (w : World), l.length + p = np → (∀ b ∈ l, b < nb) → okB bs ps kf wrg l = true → Below W0.heap.size W0 w → CutM W0.heap.size go gr gc cr cc nb Ab cb kf Ap np cp wrg (swOf bs ps kf l).rests (swOf bs ps kf l).cuts best w →
    Calls Try.prog 26 #[.pointer (some ⟨go, 0, none⟩), .int .i64 l.length, .int .i64 (wrg - (wgB bs ps l : Nat)), .int .i64 (usL nb l : Nat)] w
      fun e W' => e = .returned (.tuple #[]) ∧ CutM W0.heap.size go gr gc cr cc nb Ab cb kf Ap np cp wrg (swOf bs ps kf l).rests (swOf bs ps kf l).cuts (cutV bs ps kf wrg p l best) W' ∧ But3 go gr gc w W' := by
  intro p
  have hbl := ok.bl
  have hpl := ok.pl
  have hnb := ok.hb
  have hnp := ok.hp
  induction p with
  | zero =>
    intro l best w hl hlb hok hb HC
    have h0 := cut0_c Ab Ap go gr gc cr cc nb cb np cp (usL nb l) l.length kf wrg (wrg - (wgB bs ps l : Nat)) _ _ _ best w (by omega) hnp (by have := usL_le nb l; omega) HC
    rw [cutV_0 hok, hbl]
    exact h0
  | succ p ih =>
    intro l best w hl hlb hok hb HC
    obtain ⟨L, hL⟩ : ∃ L, l.length = L := ⟨_, rfl⟩
    obtain ⟨U, hU⟩ : ∃ U, usL nb l = U := ⟨_, rfl⟩
    obtain ⟨G, hG⟩ : ∃ G, wgB bs ps l = G := ⟨_, rfl⟩
    have hUl : U ≤ nb := by rw [← hU]; exact usL_le nb l
    have hGl : G ≤ L := by rw [← hG, ← hL]; exact wgB_len
    have hLp : L < np := by omega
    rw [hL, hU, hG]
    have hlB : (((p + 1 : Nat) : Int) == 0) = false := by simp; omega
    have hw1 : IntKind.i64.wrap ((np : Int) - (L : Int)) = ((p + 1 : Nat) : Int) := by rw [IntWalk.i64_in _ (by omega)]; omega
    obtain ⟨lf, hlf⟩ : ∃ lf : Int, ((p + 1 : Nat) : Int) = lf := ⟨_, rfl⟩
    rw [hlf] at hlB hw1
    have hw2 : IntKind.i64.wrap ((U : Int) + lf) = U + lf := IntWalk.i64_in _ (by omega)
    obtain ⟨lg, hlg⟩ : ∃ lg, (pcAt ps L).long = lg := ⟨_, rfl⟩
    have hlb2 := ok.pc L hLp
    have hkf := ok.kf
    rw [hlg] at hlb2
    have c0 := HC.blk.cell
    have f0 := HC.blk.frozen
    have l0 := HC.blk.lt
    have LFH := Lib.hid hlf
    clear hlf
    by_cases hcut : (U : Int) + lf ≤ best
    · have hcB : decide ((U : Int) + lf ≤ best) = true := by simpa using hcut
      have HF : cutV bs ps kf wrg (p + 1) l best = best := cutV_cut (by rw [hbl, hU]; have := LFH.out; omega)
      rw [HF]
      have H := Lib.hid HC
      clear HC
      go_enter Try.func26, Try.ntmps26
      go_wp2_with fail
      refine bodyPost_ret (results_none rfl _ _ _) rfl ?_
      exact ⟨rfl, H.out, But3.refl _ _ _ _⟩
    · have hcB : decide ((U : Int) + lf ≤ best) = false := by simpa using hcut
      rw [cutV_succ hkf.1 (fun k hk => by have := (ok.pc k (by omega)).1; omega) (by omega), hbl]
      obtain ⟨pb, po, hApe, hpb, x0, x1, hI⟩ := (HM.2.later hb).get hLp
      subst hApe
      rw [hlg] at x0
      obtain ⟨hd, hhd⟩ : ∃ h, (pmAt ms L).h = h := ⟨_, rfl⟩
      rw [hhd] at x1
      have HI : Hid (IntsAt W0 hd.A hd.n (pcAt ps L).hs) := Lib.hid (by rw [← hhd]; exact HM.2.inn L hLp)
      have H := Lib.hid HC
      have HLG := Lib.hid hlg
      have OK := Lib.hid ok
      have HLL := Lib.hid hL
      have HUU := Lib.hid hU
      have HGG := Lib.hid hG
      have HIH := Lib.hid ih
      have HOK := Lib.hid hok
      have HLB := Lib.hid hlb
      have HB0 := Lib.hid hb
      have HMM := Lib.hid HM
      clear HC hlg ok hL hU hG ih hok hlb hI hhd hb HM
      go_enter Try.func26, Try.ntmps26
      go_wp2_with fail
      go_name_world X hX
      have BX : Below w.heap.size w X := (al1 hX).1
      have zX : X.heap.size = w.heap.size + 1 := (al1 hX).2
      have P0 := Lib.hid (al1_0 hX).2.1
      have HX := Lib.hid (H.out.later BX)
      have BBX := Lib.hid (below_step BX (HB0.out.size) HB0.out)
      obtain ⟨lgo, lgr, lgc⟩ := H.out.lts
      obtain ⟨b0, b1, b2⟩ := H.out.ges
      clear hX x0 x1 c0 f0 l0
      go_loopw [56] (fun i (wr : World) => ∃ q bq : Nat, q ≤ nb ∧ i = .int .i64 q ∧ Hid (cutK bs ps kf wrg p l q best = bq) ∧ Hid (CutM W0.heap.size go gr gc cr cc nb Ab cb kf (some ⟨pb, po, none⟩) np cp wrg (swOf bs ps kf l).rests (swOf bs ps kf l).cuts bq wr) ∧ Hid (But3 go gr gc X wr)) (fun i _ => nb - (intOf i).toNat)
      case atStart => exact ⟨0, best, by omega, rfl, Lib.hid rfl, HX, Lib.hid (But3.refl _ _ _ _)⟩
      case round =>
        obtain ⟨q, bq, hq, rfl, HK, HC, HT⟩ := hrel
        have hzr := HT.out.size
        by_cases hqn : q < nb
        · have hqB : decide ((q : Int) < nb) = true := by simp; omega
          obtain ⟨r, hr⟩ : ∃ r, iAt (swOf bs ps kf l).rests q = r := ⟨_, rfl⟩
          obtain ⟨c, hc⟩ : ∃ c, iAt (swOf bs ps kf l).cuts q = c := ⟨_, rfl⟩
          have hBr : Below W0.heap.size W0 wr := HT.out.below ⟨b0, b1, b2⟩ BBX.out (by have := BBX.out.size; omega)
          obtain ⟨bb, bo, hAbe, hbb, y0, y1⟩ := ((HMM.out.1).later hBr).get hqn
          have ec := HC.out.blk.cell
          have ef := HC.out.blk.frozen
          have g2 := own_int_get HC.out.o2 HC.out.rl hqn
          have g3 := own_int_get HC.out.o3 HC.out.cl hqn
          rw [hr] at g2
          rw [hc] at g3
          have pp := fun j => (HT.out.cell (p := ⟨w.heap.size, j, none⟩) (by show w.heap.size < _; omega) ⟨by show w.heap.size ≠ _; omega, by show w.heap.size ≠ _; omega, by show w.heap.size ≠ _; omega⟩).trans (P0.out j)
          obtain ⟨ht, hht⟩ : ∃ h, (brAt bs q).heat = h := ⟨_, rfl⟩
          obtain ⟨bl, hbl2⟩ : ∃ h, (brAt bs q).long = h := ⟨_, rfl⟩
          rw [hht] at y0
          rw [hbl2] at y1
          have hRB := Lib.hid (show (0 ≤ r ∧ r ≤ 999) ∧ 0 ≤ c ∧ c ≤ 8 by
            have h1 : r = rsB bs ps kf l q := by rw [← hr]; exact iAt_mapR (by rw [OK.out.bl]; exact hqn)
            have h2 : c = (l.count q : Int) := by rw [← hc]; exact iAt_mapR (f := fun b => ((l.count b : Nat) : Int)) (by rw [OK.out.bl]; exact hqn)
            have h3 := (okB_iff.1 HOK.out).1 q (by rw [OK.out.bl]; exact hqn)
            have h4 : l.count q ≤ l.length := List.count_le_length
            have h5 := rsB_le OK.out (l := l) hqn
            rw [HLL.out] at h4
            omega)
          have HR := Lib.hid hr
          have HCC := Lib.hid hc
          have HHT := Lib.hid hht
          have hBRH := Lib.hid hBr
          subst hAbe
          clear hr hc hht hbl2 hBr
          have n0 : w.heap.size < wr.heap.size := by omega
          have n1 : go < wr.heap.size := by omega
          have n2 : gr < wr.heap.size := by omega
          have n3 : gc < wr.heap.size := by omega
          go_upto_region 8 with (fail)
          go_name_world Y hY
          have BY : Below wr.heap.size wr Y := (al1 hY).1
          have zY : Y.heap.size = wr.heap.size + 1 := (al1 hY).2
          have q0 := (al1_0 hY).2.1
          have HY := Lib.hid (HC.out.later BY)
          have HTY := Lib.hid (HT.out.trans (.of_below BY))
          have pY := fun j => (BY.cell (p := ⟨w.heap.size, j, none⟩) n0).trans (pp j)
          have BRY := Lib.hid (below_step BY (by omega) hBRH.out)
          have ey := HY.out.blk.cell
          have fy := HY.out.blk.frozen
          have k2 := (BY.cell (p := ⟨gr, q, none⟩) n2).trans g2
          have k3 := (BY.cell (p := ⟨gc, q, none⟩) n3).trans g3
          have hIY : IntsAt Y hd.A hd.n (pcAt ps L).hs := HI.out.later BRY.out
          clear hY pp y0 y1 ec ef g2 g3
          have hIl : hd.n ≤ 40 := by rw [← HI.out.1]; exact hlb2.2.2
          obtain ⟨lq, hlq⟩ : ∃ lq : Int, (bif decide (0 < c) then lg + kf else lg) = lq := ⟨_, rfl⟩
          obtain ⟨mo, hmo⟩ : ∃ mo : Int, (bif decide (0 < c) then 0 else 1) = mo := ⟨_, rfl⟩
          have hlqb : 0 ≤ lq ∧ lq ≤ 1020 := by rw [← hlq]; cases decide (0 < c) <;> simp <;> omega
          have hmob : 0 ≤ mo ∧ mo ≤ 1 := by rw [← hmo]; cases decide (0 < c) <;> simp
          go_upto_if 70 with (fail)
          go_cut [12, 13] (fun a b wx => a = .int .i64 lq ∧ b = .int .i64 mo ∧ wx = Y)
          case first =>
            by_cases hc0 : 0 < c
            · have hcB : decide (0 < c) = true := by simpa using hc0
              rw [hcB] at hlq hmo
              simp only [cond_true] at hlq hmo
              have hww : IntKind.i64.wrap (lg + kf) = lq := by rw [← hlq]; exact IntWalk.i64_in _ (by omega)
              subst hmo
              clear hlq
              go_wp2_with fail
              go_meet
              exact ⟨rfl, rfl, rfl⟩
            · have hcB : decide (0 < c) = false := by simpa using hc0
              rw [hcB] at hlq hmo
              simp only [cond_false] at hlq hmo
              subst hmo hlq
              go_wp2_with fail
              go_meet
              exact ⟨rfl, rfl, rfl⟩
          case rest =>
            obtain ⟨rfl, rfl, hwc⟩ := hcut
            subst wc
            obtain ⟨hb, hhb⟩ : ∃ hb, hasI (pcAt ps L).hs ht = hb := ⟨_, rfl⟩
            have hcc := contains_c hd.A hd.n hd.c ht _ _ hIl hIY
            rw [hhb] at hcc
            replace hcc := Lib.hid hcc
            replace hhb := Lib.hid hhb
            obtain ⟨od, hod⟩ : ∃ od : Int, (bif hb then 0 else 1) = od := ⟨_, rfl⟩
            have hodb : 0 ≤ od ∧ od ≤ 1 := by rw [← hod]; cases hb <;> simp
            go_upto_if 83 with (go_at_call 51; refine hcc.out.mono ?_; rintro e w13 ⟨rfl, rfl⟩)
            go_cut [14] (fun a wx => a = .int .i64 od ∧ wx = Y)
            case first =>
              cases hb
              · simp only [cond_false] at hod
                subst hod
                go_wp2_with fail
                go_meet
                exact ⟨rfl, rfl⟩
              · simp only [cond_true] at hod
                subst hod
                go_wp2_with fail
                go_meet
                exact ⟨rfl, rfl⟩
            case rest =>
              obtain ⟨rfl, hwc⟩ := hcut
              subst wc
              have HTK : Hid (okB bs ps kf wrg (l ++ [q]) = (decide (lq ≤ r) && decide (od ≤ wrg - (G : Int)))) := Lib.hid (by
                rw [cut_take (by rw [HLL.out]; omega) (by rw [OK.out.bl]; exact hqn) HOK.out, HLL.out, HGG.out, HLG.out]
                unfold fitS wrB
                rw [HR.out, HCC.out, HHT.out, hhb.out, hlq, ← hod]
                cases hb <;> rfl)
              have HLQ := Lib.hid hlq
              have HOD : Hid ((bif wrB bs ps L q then (1 : Int) else 0) = od) := Lib.hid (by
                unfold wrB
                rw [HHT.out, hhb.out, ← hod]
                cases hb <;> rfl)
              clear hcc hhb hIY hlq hod
              by_cases hf : lq ≤ r
              · have hfB : decide (r < lq) = false := by simp; omega
                by_cases hw : od ≤ wrg - (G : Int)
                · have hwB : decide (wrg - (G : Int) < od) = false := by simp; omega
                  obtain ⟨r2, hr2⟩ : ∃ x, r - lq = x := ⟨_, rfl⟩
                  obtain ⟨c2, hc2⟩ : ∃ x, c + 1 = x := ⟨_, rfl⟩
                  have w1 : IntKind.i64.wrap (r - lq) = r2 := by rw [← hr2]; exact IntWalk.i64_in _ (by have := hRB.out; omega)
                  have w2 : IntKind.i64.wrap (c + 1) = c2 := by rw [← hc2]; exact IntWalk.i64_in _ (by have := hRB.out; omega)
                  have w3 : IntKind.i64.wrap (r2 + lq) = r := by rw [IntWalk.i64_in _ (by have := hRB.out; omega)]; omega
                  have w4 : IntKind.i64.wrap (c2 - 1) = c := by rw [IntWalk.i64_in _ (by have := hRB.out; omega)]; omega
                  have w5 : IntKind.i64.wrap r2 = r2 := IntWalk.i64_in _ (by have := hRB.out; omega)
                  have w6 : IntKind.i64.wrap c2 = c2 := IntWalk.i64_in _ (by have := hRB.out; omega)
                  have w7 : IntKind.i64.wrap r = r := IntWalk.i64_in _ (by have := hRB.out; omega)
                  have w8 : IntKind.i64.wrap c = c := IntWalk.i64_in _ (by have := hRB.out; omega)
                  go_upto_region 14 with (fail)
                  have hS : (∀ j, (Y.drew).cell? ⟨go, j, none⟩ = #[.slice (some ⟨bb, bo, none⟩) nb cb, .int .i64 kf, .slice (some ⟨pb, po, none⟩) np cp, .int .i64 wrg, .slice (some ⟨gr, 0, none⟩) nb cr, .slice (some ⟨gc, 0, none⟩) nb cc, .int .i64 bq][j]?) ∧ (Y.drew).cell? ⟨gc, q, none⟩ = some (.int .i64 c) := ⟨HY.out.blk.cell, k3⟩
                  refine wp_region_L (by kernel_rfl) (fun W' => (∀ j, W'.cell? ⟨go, j, none⟩ = #[.slice (some ⟨bb, bo, none⟩) nb cb, .int .i64 kf, .slice (some ⟨pb, po, none⟩) np cp, .int .i64 wrg, .slice (some ⟨gr, 0, none⟩) nb cr, .slice (some ⟨gc, 0, none⟩) nb cc, .int .i64 bq][j]?) ∧ W'.cell? ⟨gc, q, none⟩ = some (.int .i64 c)) 30 ?_
                  refine wpAnyL_take (i := 0) (v := ?_) rfl (by kernel_rfl) (by kernel_rfl) (by kernel_rfl) (by kernel_rfl) (fun _ _ _ h => h) hS (Or.inl ⟨by rfl, ?_⟩) ?_
                  rotate_left 1
                  · intro w9 hw9
                    obtain ⟨k0, k1⟩ := hw9
                    go_simp
                    try with_reducible rfl
                  simp only [List.getElem_toArray, List.getElem_cons_zero, Act.put, List.setIfInBounds_toArray, List.set_cons_zero, List.set_cons_succ]
                  refine wpAnyL_take (i := 1) (v := ?_) rfl (by kernel_rfl) (by kernel_rfl) (by kernel_rfl) (by kernel_rfl) (fun _ _ _ h => h) hS (Or.inl ⟨by rfl, ?_⟩) ?_
                  rotate_left 1
                  · intro w9 hw9
                    obtain ⟨k0, k1⟩ := hw9
                    go_simp
                    try with_reducible rfl
                  simp only [List.getElem_toArray, List.getElem_cons_zero, List.getElem_cons_succ, Act.put, List.setIfInBounds_toArray, List.set_cons_zero, List.set_cons_succ]
                  refine wpAnyL_take (i := 2) (v := ?_) rfl (by kernel_rfl) (by kernel_rfl) (by kernel_rfl) (by kernel_rfl) (fun _ _ _ h => h) hS (Or.inl ⟨by rfl, ?_⟩) ?_
                  rotate_left 1
                  · intro w9 hw9
                    obtain ⟨k0, k1⟩ := hw9
                    go_simp
                    try with_reducible rfl
                  simp only [List.getElem_toArray, List.getElem_cons_zero, List.getElem_cons_succ, Act.put, List.setIfInBounds_toArray, List.set_cons_zero, List.set_cons_succ]
                  refine wpAnyL_take (i := 3) (v := ?_) rfl (by kernel_rfl) (by kernel_rfl) (by kernel_rfl) (by kernel_rfl) (fun _ _ _ h => h) hS (Or.inl ⟨by rfl, ?_⟩) ?_
                  rotate_left 1
                  · intro w9 hw9
                    obtain ⟨k0, k1⟩ := hw9
                    go_simp
                    try with_reducible rfl
                  simp only [List.getElem_toArray, List.getElem_cons_zero, List.getElem_cons_succ, Act.put, List.setIfInBounds_toArray, List.set_cons_zero, List.set_cons_succ]
                  refine wpAnyL_take (i := 4) (v := ?_) rfl (by kernel_rfl) (by kernel_rfl) (by kernel_rfl) (by kernel_rfl) (fun _ _ _ h => h) hS (Or.inl ⟨by rfl, ?_⟩) ?_
                  rotate_left 1
                  · intro w9 hw9
                    obtain ⟨k0, k1⟩ := hw9
                    go_simp
                    try with_reducible rfl
                  simp only [List.getElem_toArray, List.getElem_cons_zero, List.getElem_cons_succ, Act.put, List.setIfInBounds_toArray, List.set_cons_zero, List.set_cons_succ]
                  refine wpAnyL_take (i := 5) (v := ?_) rfl (by kernel_rfl) (by kernel_rfl) (by kernel_rfl) (by kernel_rfl) (fun _ _ _ h => h) hS (Or.inl ⟨by rfl, ?_⟩) ?_
                  rotate_left 1
                  · intro w9 hw9
                    obtain ⟨k0, k1⟩ := hw9
                    go_simp
                    try with_reducible rfl
                  simp only [List.getElem_toArray, List.getElem_cons_zero, List.getElem_cons_succ, Act.put, List.setIfInBounds_toArray, List.set_cons_zero, List.set_cons_succ]
                  refine wpAnyL_take (i := 6) (v := ?_) rfl (by kernel_rfl) (by kernel_rfl) (by kernel_rfl) (by kernel_rfl) (fun _ _ _ h => h) hS (Or.inl ⟨by rfl, ?_⟩) ?_
                  rotate_left 1
                  · intro w9 hw9
                    obtain ⟨k0, k1⟩ := hw9
                    go_simp
                    try with_reducible rfl
                  simp only [List.getElem_toArray, List.getElem_cons_zero, List.getElem_cons_succ, Act.put, List.setIfInBounds_toArray, List.set_cons_zero, List.set_cons_succ]
                  refine wpAnyL_take (i := 7) (v := ?_) rfl (by kernel_rfl) (by kernel_rfl) (by kernel_rfl) (by kernel_rfl) (fun _ _ _ h => h) hS (Or.inl ⟨by rfl, ?_⟩) ?_
                  rotate_left 1
                  · intro w9 hw9
                    obtain ⟨k0, k1⟩ := hw9
                    go_simp
                    try with_reducible rfl
                  simp only [List.getElem_toArray, List.getElem_cons_zero, List.getElem_cons_succ, Act.put, List.setIfInBounds_toArray, List.set_cons_zero, List.set_cons_succ]
                  refine wpAnyL_take (i := 8) (v := ?_) rfl (by kernel_rfl) (by kernel_rfl) (by kernel_rfl) (by kernel_rfl) (fun _ _ _ h => h) hS (Or.inl ⟨by rfl, ?_⟩) ?_
                  rotate_left 1
                  · intro w9 hw9
                    obtain ⟨k0, k1⟩ := hw9
                    go_simp
                    try with_reducible rfl
                  simp only [List.getElem_toArray, List.getElem_cons_zero, List.getElem_cons_succ, Act.put, List.setIfInBounds_toArray, List.set_cons_zero, List.set_cons_succ]
                  refine wpAnyL_take (i := 9) (v := ?_) rfl (by kernel_rfl) (by kernel_rfl) (by kernel_rfl) (by kernel_rfl) (fun _ _ _ h => h) hS (Or.inl ⟨by rfl, ?_⟩) ?_
                  rotate_left 1
                  · intro w9 hw9
                    obtain ⟨k0, k1⟩ := hw9
                    go_simp
                    try with_reducible rfl
                  simp only [List.getElem_toArray, List.getElem_cons_zero, List.getElem_cons_succ, Act.put, List.setIfInBounds_toArray, List.set_cons_zero, List.set_cons_succ]
                  refine wpAnyL_take (i := 10) (v := ?_) rfl (by kernel_rfl) (by kernel_rfl) (by kernel_rfl) (by kernel_rfl) (fun _ _ _ h => h) hS (Or.inl ⟨by rfl, ?_⟩) ?_
                  rotate_left 1
                  · intro w9 hw9
                    obtain ⟨k0, k1⟩ := hw9
                    go_simp
                    try with_reducible rfl
                  simp only [List.getElem_toArray, List.getElem_cons_zero, List.getElem_cons_succ, Act.put, List.setIfInBounds_toArray, List.set_cons_zero, List.set_cons_succ]
                  refine wpAnyL_take (i := 11) (v := ?_) rfl (by kernel_rfl) (by kernel_rfl) (by kernel_rfl) (by kernel_rfl) (fun _ _ _ h => h) hS (Or.inl ⟨by rfl, ?_⟩) ?_
                  rotate_left 1
                  · intro w9 hw9
                    obtain ⟨k0, k1⟩ := hw9
                    go_simp
                    try with_reducible rfl
                  simp only [List.getElem_toArray, List.getElem_cons_zero, List.getElem_cons_succ, Act.put, List.setIfInBounds_toArray, List.set_cons_zero, List.set_cons_succ]
                  refine wpAnyL_take (i := 12) (v := ?_) rfl (by kernel_rfl) (by kernel_rfl) (by kernel_rfl) (by kernel_rfl) (fun _ _ _ h => h) hS (Or.inl ⟨by rfl, ?_⟩) ?_
                  rotate_left 1
                  · intro w9 hw9
                    obtain ⟨k0, k1⟩ := hw9
                    go_simp
                    try with_reducible rfl
                  simp only [List.getElem_toArray, List.getElem_cons_zero, List.getElem_cons_succ, Act.put, List.setIfInBounds_toArray, List.set_cons_zero, List.set_cons_succ]
                  refine wpAnyL_take (i := 13) (v := ?_) rfl (by kernel_rfl) (by kernel_rfl) (by kernel_rfl) (by kernel_rfl) (fun _ _ _ h => h) hS (Or.inl ⟨by rfl, ?_⟩) ?_
                  rotate_left 1
                  · intro w9 hw9
                    obtain ⟨k0, k1⟩ := hw9
                    go_simp
                    try with_reducible rfl
                  simp only [List.getElem_toArray, List.getElem_cons_zero, List.getElem_cons_succ, Act.put, List.setIfInBounds_toArray, List.set_cons_zero, List.set_cons_succ]
                  refine wpAnyL_take (i := 14) (v := ?_) rfl (by kernel_rfl) (by kernel_rfl) (by kernel_rfl) (by kernel_rfl) (fun _ _ _ h => h) hS (Or.inl ⟨by rfl, ?_⟩) ?_
                  rotate_left 1
                  · intro w9 hw9
                    obtain ⟨k0, k1⟩ := hw9
                    go_simp
                    try with_reducible rfl
                  simp only [List.getElem_toArray, List.getElem_cons_zero, List.getElem_cons_succ, Act.put, List.setIfInBounds_toArray, List.set_cons_zero, List.set_cons_succ]
                  refine wpAnyL_take (i := 15) (v := ?_) rfl (by kernel_rfl) (by kernel_rfl) (by kernel_rfl) (by kernel_rfl) (fun _ _ _ h => h) hS (Or.inl ⟨by rfl, ?_⟩) ?_
                  rotate_left 1
                  · intro w9 hw9
                    obtain ⟨k0, k1⟩ := hw9
                    go_simp
                    try with_reducible rfl
                  simp only [List.getElem_toArray, List.getElem_cons_zero, List.getElem_cons_succ, Act.put, List.setIfInBounds_toArray, List.set_cons_zero, List.set_cons_succ]
                  refine wpAnyL_take (i := 17) (v := ?_) rfl (by kernel_rfl) (by kernel_rfl) (by kernel_rfl) (by kernel_rfl) (fun _ _ _ h => h) hS (Or.inl ⟨by rfl, ?_⟩) ?_
                  rotate_left 1
                  · intro w9 hw9
                    obtain ⟨k0, k1⟩ := hw9
                    go_simp
                    try with_reducible rfl
                  simp only [List.getElem_toArray, List.getElem_cons_zero, List.getElem_cons_succ, Act.put, List.setIfInBounds_toArray, List.set_cons_zero, List.set_cons_succ]
                  refine wpAnyL_take (i := 19) (v := ?_) rfl (by kernel_rfl) (by kernel_rfl) (by kernel_rfl) (by kernel_rfl) (fun _ _ _ h => h) hS (Or.inl ⟨by rfl, ?_⟩) ?_
                  rotate_left 1
                  · intro w9 hw9
                    obtain ⟨k0, k1⟩ := hw9
                    go_simp
                    try with_reducible rfl
                  simp only [List.getElem_toArray, List.getElem_cons_zero, List.getElem_cons_succ, Act.put, List.setIfInBounds_toArray, List.set_cons_zero, List.set_cons_succ]
                  refine wpAnyL_take (i := 20) (v := ?_) rfl (by kernel_rfl) (by kernel_rfl) (by kernel_rfl) (by kernel_rfl) (fun _ _ _ h => h) hS (Or.inl ⟨by rfl, ?_⟩) ?_
                  rotate_left 1
                  · intro w9 hw9
                    obtain ⟨k0, k1⟩ := hw9
                    go_simp
                    try with_reducible rfl
                  simp only [List.getElem_toArray, List.getElem_cons_zero, List.getElem_cons_succ, Act.put, List.setIfInBounds_toArray, List.set_cons_zero, List.set_cons_succ]
                  refine wpAnyL_take (i := 21) (v := ?_) rfl (by kernel_rfl) (by kernel_rfl) (by kernel_rfl) (by kernel_rfl) (fun _ _ _ h => h) hS (Or.inl ⟨by rfl, ?_⟩) ?_
                  rotate_left 1
                  · intro w9 hw9
                    obtain ⟨k0, k1⟩ := hw9
                    go_simp
                    try with_reducible rfl
                  simp only [List.getElem_toArray, List.getElem_cons_zero, List.getElem_cons_succ, Act.put, List.setIfInBounds_toArray, List.set_cons_zero, List.set_cons_succ]
                  refine wpAnyL_take (i := 22) (v := ?_) rfl (by kernel_rfl) (by kernel_rfl) (by kernel_rfl) (by kernel_rfl) (fun _ _ _ h => h) hS (Or.inl ⟨by rfl, ?_⟩) ?_
                  rotate_left 1
                  · intro w9 hw9
                    obtain ⟨k0, k1⟩ := hw9
                    go_simp
                    try with_reducible rfl
                  simp only [List.getElem_toArray, List.getElem_cons_zero, List.getElem_cons_succ, Act.put, List.setIfInBounds_toArray, List.set_cons_zero, List.set_cons_succ]
                  refine wpAnyL_take (i := 23) (v := ?_) rfl (by kernel_rfl) (by kernel_rfl) (by kernel_rfl) (by kernel_rfl) (fun _ _ _ h => h) hS (Or.inl ⟨by rfl, ?_⟩) ?_
                  rotate_left 1
                  · intro w9 hw9
                    obtain ⟨k0, k1⟩ := hw9
                    go_simp
                    try with_reducible rfl
                  simp only [List.getElem_toArray, List.getElem_cons_zero, List.getElem_cons_succ, Act.put, List.setIfInBounds_toArray, List.set_cons_zero, List.set_cons_succ]
                  refine wpAnyL_take (i := 24) (v := ?_) rfl (by kernel_rfl) (by kernel_rfl) (by kernel_rfl) (by kernel_rfl) (fun _ _ _ h => h) hS (Or.inl ⟨by rfl, ?_⟩) ?_
                  rotate_left 1
                  · intro w9 hw9
                    obtain ⟨k0, k1⟩ := hw9
                    go_simp
                    try with_reducible rfl
                  simp only [List.getElem_toArray, List.getElem_cons_zero, List.getElem_cons_succ, Act.put, List.setIfInBounds_toArray, List.set_cons_zero, List.set_cons_succ]
                  refine wpAnyL_take (i := 25) (v := ?_) rfl (by kernel_rfl) (by kernel_rfl) (by kernel_rfl) (by kernel_rfl) (fun _ _ _ h => h) hS (Or.inl ⟨by rfl, ?_⟩) ?_
                  rotate_left 1
                  · intro w9 hw9
                    obtain ⟨k0, k1⟩ := hw9
                    go_simp
                    try with_reducible rfl
                  simp only [List.getElem_toArray, List.getElem_cons_zero, List.getElem_cons_succ, Act.put, List.setIfInBounds_toArray, List.set_cons_zero, List.set_cons_succ]
                  refine wpAnyL_take (i := 26) (v := ?_) rfl (by kernel_rfl) (by kernel_rfl) (by kernel_rfl) (by kernel_rfl) (fun _ _ _ h => h) hS (Or.inl ⟨by rfl, ?_⟩) ?_
                  rotate_left 1
                  · intro w9 hw9
                    obtain ⟨k0, k1⟩ := hw9
                    go_simp
                    try with_reducible rfl
                  simp only [List.getElem_toArray, List.getElem_cons_zero, List.getElem_cons_succ, Act.put, List.setIfInBounds_toArray, List.set_cons_zero, List.set_cons_succ]
                  have k2d : (Y.drew).cell? ⟨gr, q, none⟩ = some (.int .i64 r) := k2
                  have fz2 : (Y.drew).frozen? ⟨gr, q, none⟩ = false := HY.out.o2.frozenAt q
                  refine wpAnyL_one (i := 16) (by kernel_rfl) rfl (fun K hK => ?_)
                  go_simp
                  refine hK.out _ _ (fun _ => hS) (fun hS' => ?_)
                  clear hK K hS'
                  refine wpAnyL_take (i := 18) (v := ?_) rfl (by kernel_rfl) (by kernel_rfl) (by kernel_rfl) (by kernel_rfl) (fun _ _ _ h => h) hS (Or.inl ⟨by rfl, ?_⟩) ?_
                  rotate_left 1
                  · intro w9 hw9
                    obtain ⟨k0, k1⟩ := hw9
                    go_simp
                    try with_reducible rfl
                  simp only [List.getElem_toArray, List.getElem_cons_zero, List.getElem_cons_succ, Act.put, List.setIfInBounds_toArray, List.set_cons_zero, List.set_cons_succ]
                  refine wpAnyL_take (i := 27) (v := ?_) rfl (by kernel_rfl) (by kernel_rfl) (by kernel_rfl) (by kernel_rfl) (fun _ _ _ h => h) hS (Or.inl ⟨by rfl, ?_⟩) ?_
                  rotate_left 1
                  · intro w9 hw9
                    obtain ⟨k0, k1⟩ := hw9
                    go_simp
                    try with_reducible rfl
                  simp only [List.getElem_toArray, List.getElem_cons_zero, List.getElem_cons_succ, Act.put, List.setIfInBounds_toArray, List.set_cons_zero, List.set_cons_succ]
                  refine wpAnyL_one (i := 28) (by kernel_rfl) rfl (fun K hK => ?_)
                  go_simp
                  have M1 := HY.out.drew.set2 hqn (r2)
                  have hne := HY.out.ne
                  have k3d : (Y.setCell ⟨gr, q, none⟩ (.int .i64 (r2))).cell? ⟨gc, q, none⟩ = some (.int .i64 c) := (World.cell?_setCell_other _ _ _ _ (by intro h; have h9 := congrArg Addr.block h; simp only at h9; omega)).trans k3
                  have hS2 : (∀ j, ((Y.drew).setCell ⟨gr, q, none⟩ (.int .i64 (r2))).cell? ⟨go, j, none⟩ = #[.slice (some ⟨bb, bo, none⟩) nb cb, .int .i64 kf, .slice (some ⟨pb, po, none⟩) np cp, .int .i64 wrg, .slice (some ⟨gr, 0, none⟩) nb cr, .slice (some ⟨gc, 0, none⟩) nb cc, .int .i64 bq][j]?) ∧ ((Y.drew).setCell ⟨gr, q, none⟩ (.int .i64 (r2))).cell? ⟨gc, q, none⟩ = some (.int .i64 c) := ⟨M1.blk.cell, (World.cell?_setCell_other _ _ _ _ (by intro h; have h9 := congrArg Addr.block h; simp only at h9; omega)).trans k3⟩
                  refine hK.out _ _ (fun _ => hS2) (fun hS' => ?_)
                  clear hK K hS' hS k2d fz2 M1
                  have hS := hS2
                  refine wpAnyL_take (i := 29) (v := ?_) rfl (by kernel_rfl) (by kernel_rfl) (by kernel_rfl) (by kernel_rfl) (fun _ _ _ h => h) hS (Or.inl ⟨by rfl, ?_⟩) ?_
                  rotate_left 1
                  · intro w9 hw9
                    obtain ⟨k0, k1⟩ := hw9
                    go_simp
                    try with_reducible rfl
                  simp only [List.getElem_toArray, List.getElem_cons_zero, List.getElem_cons_succ, Act.put, List.setIfInBounds_toArray, List.set_cons_zero, List.set_cons_succ]
                  have fz3 : Y.frozen? ⟨gc, q, none⟩ = false := HY.out.o3.frozenAt q
                  refine wpAnyL_one (i := 30) (by kernel_rfl) rfl (fun K hK => ?_)
                  go_simp
                  refine hK.out _ _ (fun h => absurd rfl h) (fun _ => ?_)
                  refine wpAnyL_done (by kernel_rfl) ?_ _
                  clear hK K hS hS2 fz3 k3d hne
                  have M2 := Lib.hid (((HY.out.set2 hqn (r2)).set3 hqn (c2)).drew)
                  obtain ⟨Z, hZ⟩ : ∃ Z, ((Y.setCell ⟨gr, q, none⟩ (.int .i64 r2)).setCell ⟨gc, q, none⟩ (.int .i64 c2)).drew = Z := ⟨_, rfl⟩
                  rw [hZ] at M2 ⊢
                  have HTZ := Lib.hid (by rw [← hZ]; exact ((HTY.out.trans (.set (p := ⟨gr, q, none⟩) (.inr (.inl rfl)) _)).trans (.set (p := ⟨gc, q, none⟩) (.inr (.inr rfl)) _)).drew : But3 go gr gc X Z)
                  have HYZ := Lib.hid (by rw [← hZ]; exact (((But3.refl go gr gc Y).trans (.set (p := ⟨gr, q, none⟩) (.inr (.inl rfl)) _)).trans (.set (p := ⟨gc, q, none⟩) (.inr (.inr rfl)) _)).drew : But3 go gr gc Y Z)
                  have HOK2 : Hid (okB bs ps kf wrg (l ++ [q]) = true) := Lib.hid (by rw [HTK.out, decide_eq_true hf, decide_eq_true hw]; rfl)
                  have HSTS : stS bs ps kf (swOf bs ps kf l) q = swOf bs ps kf (l ++ [q]) := stS_of (by rw [HLL.out]; omega) (by rw [OK.out.bl]; exact hqn)
                  have HSR : (swOf bs ps kf l).rests.set q r2 = (swOf bs ps kf (l ++ [q])).rests := by
                    rw [← HSTS]
                    unfold stS
                    simp only
                    rw [HR.out, HCC.out, show (swOf bs ps kf l).of.length = L by rw [← HLL.out]; exact toI_len, HLG.out, ← hr2, ← HLQ.out]
                    congr 1
                    cases decide (0 < c) <;> simp <;> omega
                  have HSC : (swOf bs ps kf l).cuts.set q c2 = (swOf bs ps kf (l ++ [q])).cuts := by
                    rw [← HSTS]
                    unfold stS
                    simp only
                    rw [HCC.out, ← hc2]
                  rw [HSR, HSC] at M2
                  have v1 : IntKind.i64.wrap ((L : Int) + 1) = ((l ++ [q]).length : Int) := by rw [List.length_append, HLL.out]; exact IntWalk.i64_in _ (by omega)
                  have v2 : IntKind.i64.wrap (wrg - (G : Int) - od) = wrg - (wgB bs ps (l ++ [q]) : Nat) := by
                    rw [IntWalk.i64_in _ (by omega), wgB_snoc (by rw [HLL.out]; omega), HGG.out, HLL.out, ← HOD.out]
                    cases wrB bs ps L q <;> simp <;> omega
                  have v3 : IntKind.i64.wrap ((U : Int) + mo) = (usL nb (l ++ [q]) : Nat) := by
                    rw [IntWalk.i64_in _ (by omega), us_snoc hqn, HUU.out, ← hmo]
                    have h2 : c = (l.count q : Int) := by rw [← HCC.out]; exact iAt_mapR (f := fun b => ((l.count b : Nat) : Int)) (by rw [OK.out.bl]; exact hqn)
                    rw [h2]
                    by_cases h0 : 0 < l.count q
                    · rw [decide_eq_true h0, decide_eq_true (by omega)]; simp
                    · rw [decide_eq_false h0, decide_eq_false (by omega)]; simp
                  have hrec := HIH.out (l ++ [q]) bq Z (by rw [List.length_append, List.length_singleton]; omega) (fun b hb => (List.mem_append.1 hb).elim (HLB.out b) (fun h => by rw [List.mem_singleton.1 h]; exact hqn)) HOK2.out (HYZ.out.below ⟨b0, b1, b2⟩ BRY.out (by have := BRY.out.size; omega)) M2.out
                  obtain ⟨a1, e1⟩ : ∃ a, IntKind.i64.wrap ((L : Int) + 1) = a := ⟨_, rfl⟩
                  obtain ⟨a2, e2⟩ : ∃ a, IntKind.i64.wrap (wrg - (G : Int) - od) = a := ⟨_, rfl⟩
                  obtain ⟨a3, e3⟩ : ∃ a, IntKind.i64.wrap ((U : Int) + mo) = a := ⟨_, rfl⟩
                  rw [← v1, ← v2, ← v3, e1, e2, e3] at hrec
                  obtain ⟨bv, hbv⟩ : ∃ b, cutV bs ps kf wrg p (l ++ [q]) bq = b := ⟨_, rfl⟩
                  rw [hbv] at hrec
                  replace hrec := Lib.hid hrec
                  have HBV := Lib.hid hbv
                  have HSR2 := Lib.hid HSR
                  have HSC2 := Lib.hid HSC
                  have n4 : Z.heap.size = Y.heap.size := by rw [← hZ]; simp
                  clear hr2 hc2 v1 v2 v3 hZ ey fy k2 k3 hmo HSTS q0 HSR HSC hbv
                  go_upto_region 16 with (go_at_call 26; refine hrec.out.mono ?_; rintro e V ⟨rfl, hCV, hBV⟩)
                  rw [← HSR2.out, ← HSC2.out] at hCV
                  have m2 := own_int_get hCV.o2 hCV.rl hqn
                  have m3 := own_int_get hCV.o3 hCV.cl hqn
                  rw [iAt_set (by rw [HY.out.rl]; exact hqn), if_pos rfl] at m2
                  rw [iAt_set (by rw [HY.out.cl]; exact hqn), if_pos rfl] at m3
                  have HTV := Lib.hid (HTZ.out.trans hBV)
                  have HV := Lib.hid hCV
                  clear hBV hCV M2 e1 e2 e3 w1 w2 pY
                  have hS : (∀ j, (V.drew).cell? ⟨go, j, none⟩ = #[.slice (some ⟨bb, bo, none⟩) nb cb, .int .i64 kf, .slice (some ⟨pb, po, none⟩) np cp, .int .i64 wrg, .slice (some ⟨gr, 0, none⟩) nb cr, .slice (some ⟨gc, 0, none⟩) nb cc, .int .i64 bv][j]?) ∧ (V.drew).cell? ⟨gc, q, none⟩ = some (.int .i64 c2) := ⟨HV.out.blk.cell, m3⟩
                  refine wp_region_L (by kernel_rfl) (fun W' => (∀ j, W'.cell? ⟨go, j, none⟩ = #[.slice (some ⟨bb, bo, none⟩) nb cb, .int .i64 kf, .slice (some ⟨pb, po, none⟩) np cp, .int .i64 wrg, .slice (some ⟨gr, 0, none⟩) nb cr, .slice (some ⟨gc, 0, none⟩) nb cc, .int .i64 bv][j]?) ∧ W'.cell? ⟨gc, q, none⟩ = some (.int .i64 c2)) 30 ?_
                  refine wpAnyL_take (i := 0) (v := ?_) rfl (by kernel_rfl) (by kernel_rfl) (by kernel_rfl) (by kernel_rfl) (fun _ _ _ h => h) hS (Or.inl ⟨by rfl, ?_⟩) ?_
                  rotate_left 1
                  · intro w9 hw9
                    obtain ⟨k0, k1⟩ := hw9
                    go_simp
                    try with_reducible rfl
                  simp only [List.getElem_toArray, List.getElem_cons_zero, Act.put, List.setIfInBounds_toArray, List.set_cons_zero, List.set_cons_succ]
                  refine wpAnyL_take (i := 1) (v := ?_) rfl (by kernel_rfl) (by kernel_rfl) (by kernel_rfl) (by kernel_rfl) (fun _ _ _ h => h) hS (Or.inl ⟨by rfl, ?_⟩) ?_
                  rotate_left 1
                  · intro w9 hw9
                    obtain ⟨k0, k1⟩ := hw9
                    go_simp
                    try with_reducible rfl
                  simp only [List.getElem_toArray, List.getElem_cons_zero, List.getElem_cons_succ, Act.put, List.setIfInBounds_toArray, List.set_cons_zero, List.set_cons_succ]
                  refine wpAnyL_take (i := 2) (v := ?_) rfl (by kernel_rfl) (by kernel_rfl) (by kernel_rfl) (by kernel_rfl) (fun _ _ _ h => h) hS (Or.inl ⟨by rfl, ?_⟩) ?_
                  rotate_left 1
                  · intro w9 hw9
                    obtain ⟨k0, k1⟩ := hw9
                    go_simp
                    try with_reducible rfl
                  simp only [List.getElem_toArray, List.getElem_cons_zero, List.getElem_cons_succ, Act.put, List.setIfInBounds_toArray, List.set_cons_zero, List.set_cons_succ]
                  refine wpAnyL_take (i := 3) (v := ?_) rfl (by kernel_rfl) (by kernel_rfl) (by kernel_rfl) (by kernel_rfl) (fun _ _ _ h => h) hS (Or.inl ⟨by rfl, ?_⟩) ?_
                  rotate_left 1
                  · intro w9 hw9
                    obtain ⟨k0, k1⟩ := hw9
                    go_simp
                    try with_reducible rfl
                  simp only [List.getElem_toArray, List.getElem_cons_zero, List.getElem_cons_succ, Act.put, List.setIfInBounds_toArray, List.set_cons_zero, List.set_cons_succ]
                  refine wpAnyL_take (i := 4) (v := ?_) rfl (by kernel_rfl) (by kernel_rfl) (by kernel_rfl) (by kernel_rfl) (fun _ _ _ h => h) hS (Or.inl ⟨by rfl, ?_⟩) ?_
                  rotate_left 1
                  · intro w9 hw9
                    obtain ⟨k0, k1⟩ := hw9
                    go_simp
                    try with_reducible rfl
                  simp only [List.getElem_toArray, List.getElem_cons_zero, List.getElem_cons_succ, Act.put, List.setIfInBounds_toArray, List.set_cons_zero, List.set_cons_succ]
                  refine wpAnyL_take (i := 5) (v := ?_) rfl (by kernel_rfl) (by kernel_rfl) (by kernel_rfl) (by kernel_rfl) (fun _ _ _ h => h) hS (Or.inl ⟨by rfl, ?_⟩) ?_
                  rotate_left 1
                  · intro w9 hw9
                    obtain ⟨k0, k1⟩ := hw9
                    go_simp
                    try with_reducible rfl
                  simp only [List.getElem_toArray, List.getElem_cons_zero, List.getElem_cons_succ, Act.put, List.setIfInBounds_toArray, List.set_cons_zero, List.set_cons_succ]
                  refine wpAnyL_take (i := 6) (v := ?_) rfl (by kernel_rfl) (by kernel_rfl) (by kernel_rfl) (by kernel_rfl) (fun _ _ _ h => h) hS (Or.inl ⟨by rfl, ?_⟩) ?_
                  rotate_left 1
                  · intro w9 hw9
                    obtain ⟨k0, k1⟩ := hw9
                    go_simp
                    try with_reducible rfl
                  simp only [List.getElem_toArray, List.getElem_cons_zero, List.getElem_cons_succ, Act.put, List.setIfInBounds_toArray, List.set_cons_zero, List.set_cons_succ]
                  refine wpAnyL_take (i := 7) (v := ?_) rfl (by kernel_rfl) (by kernel_rfl) (by kernel_rfl) (by kernel_rfl) (fun _ _ _ h => h) hS (Or.inl ⟨by rfl, ?_⟩) ?_
                  rotate_left 1
                  · intro w9 hw9
                    obtain ⟨k0, k1⟩ := hw9
                    go_simp
                    try with_reducible rfl
                  simp only [List.getElem_toArray, List.getElem_cons_zero, List.getElem_cons_succ, Act.put, List.setIfInBounds_toArray, List.set_cons_zero, List.set_cons_succ]
                  refine wpAnyL_take (i := 8) (v := ?_) rfl (by kernel_rfl) (by kernel_rfl) (by kernel_rfl) (by kernel_rfl) (fun _ _ _ h => h) hS (Or.inl ⟨by rfl, ?_⟩) ?_
                  rotate_left 1
                  · intro w9 hw9
                    obtain ⟨k0, k1⟩ := hw9
                    go_simp
                    try with_reducible rfl
                  simp only [List.getElem_toArray, List.getElem_cons_zero, List.getElem_cons_succ, Act.put, List.setIfInBounds_toArray, List.set_cons_zero, List.set_cons_succ]
                  refine wpAnyL_take (i := 9) (v := ?_) rfl (by kernel_rfl) (by kernel_rfl) (by kernel_rfl) (by kernel_rfl) (fun _ _ _ h => h) hS (Or.inl ⟨by rfl, ?_⟩) ?_
                  rotate_left 1
                  · intro w9 hw9
                    obtain ⟨k0, k1⟩ := hw9
                    go_simp
                    try with_reducible rfl
                  simp only [List.getElem_toArray, List.getElem_cons_zero, List.getElem_cons_succ, Act.put, List.setIfInBounds_toArray, List.set_cons_zero, List.set_cons_succ]
                  refine wpAnyL_take (i := 10) (v := ?_) rfl (by kernel_rfl) (by kernel_rfl) (by kernel_rfl) (by kernel_rfl) (fun _ _ _ h => h) hS (Or.inl ⟨by rfl, ?_⟩) ?_
                  rotate_left 1
                  · intro w9 hw9
                    obtain ⟨k0, k1⟩ := hw9
                    go_simp
                    try with_reducible rfl
                  simp only [List.getElem_toArray, List.getElem_cons_zero, List.getElem_cons_succ, Act.put, List.setIfInBounds_toArray, List.set_cons_zero, List.set_cons_succ]
                  refine wpAnyL_take (i := 11) (v := ?_) rfl (by kernel_rfl) (by kernel_rfl) (by kernel_rfl) (by kernel_rfl) (fun _ _ _ h => h) hS (Or.inl ⟨by rfl, ?_⟩) ?_
                  rotate_left 1
                  · intro w9 hw9
                    obtain ⟨k0, k1⟩ := hw9
                    go_simp
                    try with_reducible rfl
                  simp only [List.getElem_toArray, List.getElem_cons_zero, List.getElem_cons_succ, Act.put, List.setIfInBounds_toArray, List.set_cons_zero, List.set_cons_succ]
                  refine wpAnyL_take (i := 12) (v := ?_) rfl (by kernel_rfl) (by kernel_rfl) (by kernel_rfl) (by kernel_rfl) (fun _ _ _ h => h) hS (Or.inl ⟨by rfl, ?_⟩) ?_
                  rotate_left 1
                  · intro w9 hw9
                    obtain ⟨k0, k1⟩ := hw9
                    go_simp
                    try with_reducible rfl
                  simp only [List.getElem_toArray, List.getElem_cons_zero, List.getElem_cons_succ, Act.put, List.setIfInBounds_toArray, List.set_cons_zero, List.set_cons_succ]
                  refine wpAnyL_take (i := 13) (v := ?_) rfl (by kernel_rfl) (by kernel_rfl) (by kernel_rfl) (by kernel_rfl) (fun _ _ _ h => h) hS (Or.inl ⟨by rfl, ?_⟩) ?_
                  rotate_left 1
                  · intro w9 hw9
                    obtain ⟨k0, k1⟩ := hw9
                    go_simp
                    try with_reducible rfl
                  simp only [List.getElem_toArray, List.getElem_cons_zero, List.getElem_cons_succ, Act.put, List.setIfInBounds_toArray, List.set_cons_zero, List.set_cons_succ]
                  refine wpAnyL_take (i := 14) (v := ?_) rfl (by kernel_rfl) (by kernel_rfl) (by kernel_rfl) (by kernel_rfl) (fun _ _ _ h => h) hS (Or.inl ⟨by rfl, ?_⟩) ?_
                  rotate_left 1
                  · intro w9 hw9
                    obtain ⟨k0, k1⟩ := hw9
                    go_simp
                    try with_reducible rfl
                  simp only [List.getElem_toArray, List.getElem_cons_zero, List.getElem_cons_succ, Act.put, List.setIfInBounds_toArray, List.set_cons_zero, List.set_cons_succ]
                  refine wpAnyL_take (i := 15) (v := ?_) rfl (by kernel_rfl) (by kernel_rfl) (by kernel_rfl) (by kernel_rfl) (fun _ _ _ h => h) hS (Or.inl ⟨by rfl, ?_⟩) ?_
                  rotate_left 1
                  · intro w9 hw9
                    obtain ⟨k0, k1⟩ := hw9
                    go_simp
                    try with_reducible rfl
                  simp only [List.getElem_toArray, List.getElem_cons_zero, List.getElem_cons_succ, Act.put, List.setIfInBounds_toArray, List.set_cons_zero, List.set_cons_succ]
                  refine wpAnyL_take (i := 17) (v := ?_) rfl (by kernel_rfl) (by kernel_rfl) (by kernel_rfl) (by kernel_rfl) (fun _ _ _ h => h) hS (Or.inl ⟨by rfl, ?_⟩) ?_
                  rotate_left 1
                  · intro w9 hw9
                    obtain ⟨k0, k1⟩ := hw9
                    go_simp
                    try with_reducible rfl
                  simp only [List.getElem_toArray, List.getElem_cons_zero, List.getElem_cons_succ, Act.put, List.setIfInBounds_toArray, List.set_cons_zero, List.set_cons_succ]
                  refine wpAnyL_take (i := 19) (v := ?_) rfl (by kernel_rfl) (by kernel_rfl) (by kernel_rfl) (by kernel_rfl) (fun _ _ _ h => h) hS (Or.inl ⟨by rfl, ?_⟩) ?_
                  rotate_left 1
                  · intro w9 hw9
                    obtain ⟨k0, k1⟩ := hw9
                    go_simp
                    try with_reducible rfl
                  simp only [List.getElem_toArray, List.getElem_cons_zero, List.getElem_cons_succ, Act.put, List.setIfInBounds_toArray, List.set_cons_zero, List.set_cons_succ]
                  refine wpAnyL_take (i := 20) (v := ?_) rfl (by kernel_rfl) (by kernel_rfl) (by kernel_rfl) (by kernel_rfl) (fun _ _ _ h => h) hS (Or.inl ⟨by rfl, ?_⟩) ?_
                  rotate_left 1
                  · intro w9 hw9
                    obtain ⟨k0, k1⟩ := hw9
                    go_simp
                    try with_reducible rfl
                  simp only [List.getElem_toArray, List.getElem_cons_zero, List.getElem_cons_succ, Act.put, List.setIfInBounds_toArray, List.set_cons_zero, List.set_cons_succ]
                  refine wpAnyL_take (i := 21) (v := ?_) rfl (by kernel_rfl) (by kernel_rfl) (by kernel_rfl) (by kernel_rfl) (fun _ _ _ h => h) hS (Or.inl ⟨by rfl, ?_⟩) ?_
                  rotate_left 1
                  · intro w9 hw9
                    obtain ⟨k0, k1⟩ := hw9
                    go_simp
                    try with_reducible rfl
                  simp only [List.getElem_toArray, List.getElem_cons_zero, List.getElem_cons_succ, Act.put, List.setIfInBounds_toArray, List.set_cons_zero, List.set_cons_succ]
                  refine wpAnyL_take (i := 22) (v := ?_) rfl (by kernel_rfl) (by kernel_rfl) (by kernel_rfl) (by kernel_rfl) (fun _ _ _ h => h) hS (Or.inl ⟨by rfl, ?_⟩) ?_
                  rotate_left 1
                  · intro w9 hw9
                    obtain ⟨k0, k1⟩ := hw9
                    go_simp
                    try with_reducible rfl
                  simp only [List.getElem_toArray, List.getElem_cons_zero, List.getElem_cons_succ, Act.put, List.setIfInBounds_toArray, List.set_cons_zero, List.set_cons_succ]
                  refine wpAnyL_take (i := 23) (v := ?_) rfl (by kernel_rfl) (by kernel_rfl) (by kernel_rfl) (by kernel_rfl) (fun _ _ _ h => h) hS (Or.inl ⟨by rfl, ?_⟩) ?_
                  rotate_left 1
                  · intro w9 hw9
                    obtain ⟨k0, k1⟩ := hw9
                    go_simp
                    try with_reducible rfl
                  simp only [List.getElem_toArray, List.getElem_cons_zero, List.getElem_cons_succ, Act.put, List.setIfInBounds_toArray, List.set_cons_zero, List.set_cons_succ]
                  refine wpAnyL_take (i := 24) (v := ?_) rfl (by kernel_rfl) (by kernel_rfl) (by kernel_rfl) (by kernel_rfl) (fun _ _ _ h => h) hS (Or.inl ⟨by rfl, ?_⟩) ?_
                  rotate_left 1
                  · intro w9 hw9
                    obtain ⟨k0, k1⟩ := hw9
                    go_simp
                    try with_reducible rfl
                  simp only [List.getElem_toArray, List.getElem_cons_zero, List.getElem_cons_succ, Act.put, List.setIfInBounds_toArray, List.set_cons_zero, List.set_cons_succ]
                  refine wpAnyL_take (i := 25) (v := ?_) rfl (by kernel_rfl) (by kernel_rfl) (by kernel_rfl) (by kernel_rfl) (fun _ _ _ h => h) hS (Or.inl ⟨by rfl, ?_⟩) ?_
                  rotate_left 1
                  · intro w9 hw9
                    obtain ⟨k0, k1⟩ := hw9
                    go_simp
                    try with_reducible rfl
                  simp only [List.getElem_toArray, List.getElem_cons_zero, List.getElem_cons_succ, Act.put, List.setIfInBounds_toArray, List.set_cons_zero, List.set_cons_succ]
                  refine wpAnyL_take (i := 26) (v := ?_) rfl (by kernel_rfl) (by kernel_rfl) (by kernel_rfl) (by kernel_rfl) (fun _ _ _ h => h) hS (Or.inl ⟨by rfl, ?_⟩) ?_
                  rotate_left 1
                  · intro w9 hw9
                    obtain ⟨k0, k1⟩ := hw9
                    go_simp
                    try with_reducible rfl
                  simp only [List.getElem_toArray, List.getElem_cons_zero, List.getElem_cons_succ, Act.put, List.setIfInBounds_toArray, List.set_cons_zero, List.set_cons_succ]
                  have k2d : (V.drew).cell? ⟨gr, q, none⟩ = some (.int .i64 r2) := m2
                  have fz2 : (V.drew).frozen? ⟨gr, q, none⟩ = false := HV.out.o2.frozenAt q
                  refine wpAnyL_one (i := 16) (by kernel_rfl) rfl (fun K hK => ?_)
                  go_simp
                  refine hK.out _ _ (fun _ => hS) (fun hS' => ?_)
                  clear hK K hS'
                  refine wpAnyL_take (i := 18) (v := ?_) rfl (by kernel_rfl) (by kernel_rfl) (by kernel_rfl) (by kernel_rfl) (fun _ _ _ h => h) hS (Or.inl ⟨by rfl, ?_⟩) ?_
                  rotate_left 1
                  · intro w9 hw9
                    obtain ⟨k0, k1⟩ := hw9
                    go_simp
                    try with_reducible rfl
                  simp only [List.getElem_toArray, List.getElem_cons_zero, List.getElem_cons_succ, Act.put, List.setIfInBounds_toArray, List.set_cons_zero, List.set_cons_succ]
                  refine wpAnyL_take (i := 27) (v := ?_) rfl (by kernel_rfl) (by kernel_rfl) (by kernel_rfl) (by kernel_rfl) (fun _ _ _ h => h) hS (Or.inl ⟨by rfl, ?_⟩) ?_
                  rotate_left 1
                  · intro w9 hw9
                    obtain ⟨k0, k1⟩ := hw9
                    go_simp
                    try with_reducible rfl
                  simp only [List.getElem_toArray, List.getElem_cons_zero, List.getElem_cons_succ, Act.put, List.setIfInBounds_toArray, List.set_cons_zero, List.set_cons_succ]
                  refine wpAnyL_one (i := 28) (by kernel_rfl) rfl (fun K hK => ?_)
                  go_simp
                  have M1 := HV.out.drew.set2 hqn (r)
                  have hne := HV.out.ne
                  have k3d : (V.setCell ⟨gr, q, none⟩ (.int .i64 (r))).cell? ⟨gc, q, none⟩ = some (.int .i64 c2) := (World.cell?_setCell_other _ _ _ _ (by intro h; have h9 := congrArg Addr.block h; simp only at h9; omega)).trans m3
                  have hS2 : (∀ j, ((V.drew).setCell ⟨gr, q, none⟩ (.int .i64 (r))).cell? ⟨go, j, none⟩ = #[.slice (some ⟨bb, bo, none⟩) nb cb, .int .i64 kf, .slice (some ⟨pb, po, none⟩) np cp, .int .i64 wrg, .slice (some ⟨gr, 0, none⟩) nb cr, .slice (some ⟨gc, 0, none⟩) nb cc, .int .i64 bv][j]?) ∧ ((V.drew).setCell ⟨gr, q, none⟩ (.int .i64 (r))).cell? ⟨gc, q, none⟩ = some (.int .i64 c2) := ⟨M1.blk.cell, (World.cell?_setCell_other _ _ _ _ (by intro h; have h9 := congrArg Addr.block h; simp only at h9; omega)).trans m3⟩
                  refine hK.out _ _ (fun _ => hS2) (fun hS' => ?_)
                  clear hK K hS' hS k2d fz2 M1
                  have hS := hS2
                  refine wpAnyL_take (i := 29) (v := ?_) rfl (by kernel_rfl) (by kernel_rfl) (by kernel_rfl) (by kernel_rfl) (fun _ _ _ h => h) hS (Or.inl ⟨by rfl, ?_⟩) ?_
                  rotate_left 1
                  · intro w9 hw9
                    obtain ⟨k0, k1⟩ := hw9
                    go_simp
                    try with_reducible rfl
                  simp only [List.getElem_toArray, List.getElem_cons_zero, List.getElem_cons_succ, Act.put, List.setIfInBounds_toArray, List.set_cons_zero, List.set_cons_succ]
                  have fz3 : V.frozen? ⟨gc, q, none⟩ = false := HV.out.o3.frozenAt q
                  refine wpAnyL_one (i := 30) (by kernel_rfl) rfl (fun K hK => ?_)
                  go_simp
                  refine hK.out _ _ (fun h => absurd rfl h) (fun _ => ?_)
                  refine wpAnyL_done (by kernel_rfl) ?_ _
                  clear hK K hS hS2 fz3 k3d hne
                  have M2 := Lib.hid (((HV.out.set2 hqn (r)).set3 hqn (c)).drew)
                  obtain ⟨Z2, hZ2⟩ : ∃ Z, ((V.setCell ⟨gr, q, none⟩ (.int .i64 r)).setCell ⟨gc, q, none⟩ (.int .i64 c)).drew = Z := ⟨_, rfl⟩
                  rw [hZ2] at M2 ⊢
                  have HTW := Lib.hid (by rw [← hZ2]; exact ((HTV.out.trans (.set (p := ⟨gr, q, none⟩) (.inr (.inl rfl)) _)).trans (.set (p := ⟨gc, q, none⟩) (.inr (.inr rfl)) _)).drew : But3 go gr gc X Z2)
                  clear hZ2
                  go_wp2_with fail
                  go_roundw
                  case rel =>
                    refine ⟨q + 1, bv, by omega, by go_num, Lib.hid (by rw [cutK_succ, HOK2.out, HK.out]; exact HBV.out), Lib.hid ?_, HTW⟩
                    have := M2.out
                    rw [set_back (by rw [HY.out.rl]; exact hqn) HR.out rfl, set_back (by rw [HY.out.cl]; exact hqn) HCC.out rfl] at this
                    exact this
                  case measure => simp [intOf]; omega
                · have hwB : decide (wrg - (G : Int) < od) = true := by simp; omega
                  have HT0 : Hid (okB bs ps kf wrg (l ++ [q]) = false) := Lib.hid (by rw [HTK.out, decide_eq_false hw, Bool.and_false])
                  go_wp2_with fail
                  go_roundw
                  case rel => exact ⟨q + 1, bq, by omega, by go_num, Lib.hid (by rw [cutK_succ, HT0.out, HK.out]; rfl), HY, HTY⟩
                  case measure => simp [intOf]; omega
              · have hfB : decide (r < lq) = true := by simp; omega
                have HT0 : Hid (okB bs ps kf wrg (l ++ [q]) = false) := Lib.hid (by rw [HTK.out, decide_eq_false hf, Bool.false_and])
                go_wp2_with fail
                go_roundw
                case rel => exact ⟨q + 1, bq, by omega, by go_num, Lib.hid (by rw [cutK_succ, HT0.out, HK.out]; rfl), HY, HTY⟩
                case measure => simp [intOf]; omega
        · obtain rfl : nb = q := by omega
          have hqB : decide (((nb : Nat) : Int) < nb) = false := by simp
          go_wp2_with fail
          refine bodyPost_end (results_none rfl _ _ _) rfl ?_
          rw [HK.out]
          exact ⟨rfl, HC.out, (But3.of_below BX).trans HT.out⟩

end Go.Proofs.Ytdhlnlmhdacblaa
