/- fits of stretch (layer 4): a map of how many readings are not right, for each length. -/
import Derived.Test.YtcbeiadimchknaaGreatQp35
import Derived.Test.YtcbeiadimchknaaGreatQp16
import Derived.Test.YtcbeiadimchknaaGreatQp34
import Derived.Maps.OwnOps
import Derived.Maps.OwnSet
import Derived.Maps.Views
import Derived.WalkArith
namespace Go.Proofs.YtcbeiadimchknaaGreat
open Go.RowKit Go.Maps
open Go.Sort (grow)
set_option linter.unusedVariables false
set_option linter.unusedSimpArgs false

/-- a map of numbers reads as a function: where it has no entry, 0 -/
def FitD (D : DataW Unit) (f : Int → Int) : Prop := ∀ x : Int, -100000 ≤ x → x ≤ 200000 → D.atKey (.int .i64 x) (.lit (.int .i64 0)) = .lit (.int .i64 (f x))
theorem keyLit_int (x : Int) : WideAt.IsKeyLit (.int .i64 x) := by first | trivial | (simp [WideAt.IsKeyLit])
theorem FitD.put {D : DataW Unit} {f g : Int → Int} (hD : IsMap D) (h : FitD D f) {x v : Int} (h1 : g x = v) (h2 : ∀ y, y ≠ x → g y = f y) : FitD (D.put (.int .i64 x) (.lit (.int .i64 v))) g := by
  intro y hy hy'
  by_cases e : y = x
  · subst e
    rw [atKey_put_same hD (keyLit_int y), h1]
  · rw [atKey_put_other (fun h => e (by injection h)), h y hy hy', h2 y e]
theorem FitD.congr {D : DataW Unit} {f g : Int → Int} (h : FitD D f) (h2 : ∀ y, g y = f y) : FitD D g := fun y a b => by rw [h y a b, h2]
theorem FitD.made : FitD (.map []) (fun _ => 0) := fun x _ _ => by rfl
theorem keyed3 : Keyed Tryz.prog 3 := int_keyed Tryz.underlying3
theorem zero3i (w : World) : (zeroValue 3).run Tryz.prog w = .ok (.int .i64 0) w := by kernel_rfl
theorem key3 {x : Int} (h : -100000 ≤ x ∧ x ≤ 200000) : keyOf Tryz.prog 3 (.int .i64 x) = some (.int .i64 x) := keyOf_int_mk Tryz.underlying3 (WalkArith.wf_i64 (by omega))
/-- the rods' lengths, as they can be -/
def OkW (u : W4) : Prop := ∀ q, q < 4 → 0 ≤ u.at_ q ∧ u.at_ q ≤ 9999
/-- what the map says while length glo + j is looked at, k readings of which are done -/
def ft4 (p : P4) (wh : Int) (u : W4) (j k : Nat) (x : Int) : Int := if x < p.glo ∨ p.glo + j < x then 0 else if x = p.glo + j then wk4 p wh u x k else wr4 p wh u x
theorem ft4_next {p : P4} {wh : Int} {u : W4} {j : Nat} (x : Int) : ft4 p wh u (j + 1) 0 x = ft4 p wh u j p.res.length x := by
  unfold ft4
  have h0 : wk4 p wh u x 0 = 0 := rfl
  by_cases h1 : x < p.glo ∨ p.glo + j < x
  · rw [if_pos h1]
    by_cases h2 : x < p.glo ∨ p.glo + ((j + 1 : Nat) : Int) < x
    · rw [if_pos h2]
    · rw [if_neg h2, if_pos (by omega), h0]; rfl
  · rw [if_neg h1, if_neg (by omega), if_neg (by omega)]
    by_cases h2 : x = p.glo + j
    · rw [if_pos h2]; rfl
    · rw [if_neg h2]
theorem ft4_start {p : P4} {wh : Int} {u : W4} (x : Int) : ft4 p wh u 0 0 x = 0 := by
  unfold ft4
  have h0 : wk4 p wh u x 0 = 0 := rfl
  split
  · rfl
  · rw [if_pos (by omega), h0]; rfl
theorem ownsMap_of_block {H : Type} {P : Program} {k : TypeId} {R : Value → Option (DataW H × List MemPlace)} {w w' : World} {b n : Nat} {D : DataW H} (hb : w'.heap[b]? = w.heap[b]?) (h : w.ownsMap P k R b n D) : w'.ownsMap P k R b n D := by
  obtain ⟨es, clock, h1, h2, h3, h4⟩ := h
  exact ⟨es, clock, hb.trans h1, h2, h3, h4⟩
/-- what fits hands back -/
def Fit4 (w : World) (p : P4) (wh : Int) (u : W4) (e : Ending) (w' : World) : Prop :=
  ∃ g n D, e = .returned (.map (some g)) ∧ w.heap.size ≤ g ∧ n ≤ 900000 ∧ w'.ownsMap Tryz.prog 3 (plainElem Tryz.prog 3) g n D ∧ FitD D (fun x => if p.glo ≤ x ∧ x ≤ p.ghi then (wr4 p wh u x : Int) else 0) ∧ Below w.heap.size w w'
set_option maxRecDepth 100000 in
set_option maxHeartbeats 3200000 in
theorem fits4_c (Ar : Option Addr) (nr cr : Nat) (Ad : Option Addr) (nd cd : Nat) (p : P4) (ok : Ok4 nr nd p) (wh : Int) (u : W4) (hu : OkW u) (w : World) (HM : MemP Ar nr Ad nd p w) :
    Calls Tryz.prog 123 #[.agg #[.int .i64 p.ir, .int .i64 p.glo, .int .i64 p.ghi, .slice Ar nr cr, .slice Ad nd cd, .int .i64 p.wr], .int .i64 wh, .agg #[.int .i64 u.w0, .int .i64 u.w1, .int .i64 u.w2, .int .i64 u.w3]] w (Fit4 w p wh u) := by
  have HMI := Lib.hid HM
  have OK := Lib.hid ok
  have HU := Lib.hid hu
  have hg := ok.g
  have hld := ok.ld
  have hnd8 := ok.nd8
  obtain ⟨glo, hglo⟩ : ∃ g, p.glo = g := ⟨_, rfl⟩
  obtain ⟨ghi, hghi⟩ : ∃ g, p.ghi = g := ⟨_, rfl⟩
  rw [hglo, hghi] at hg
  have HGL := Lib.hid hglo
  have HGH := Lib.hid hghi
  have hmm := @run_makeMap Tryz.prog
  rw [hglo, hghi]
  clear HM ok hu hglo hghi
  go_enter Tryz.func123, Tryz.ntmps123
  go_upto_region 2 with (fail)
  go_name_world X hX
  have BX : Below w.heap.size w X := by rw [← hX]; (repeat first | with_reducible assumption | with_reducible exact Below.refl _ _ | (with_reducible refine Below.alloc ?_ ?side _; case side => (first | omega | (with_reducible exact Below.size (by assumption)) | (simp; done) | (simp; omega))) | (with_reducible refine Below.setCell ?_ ?side _; case side => (first | omega | (with_reducible exact Below.size (by assumption)) | (simp; done) | (simp; omega))) | with_reducible refine Below.drew ?_ | with_reducible refine below_drewN ?_ _ | (with_reducible refine below_step (by assumption) ?side ?_; case side => (first | omega | (with_reducible exact Below.size (by assumption)) | (simp; done) | (simp; omega))))
  have zX : X.heap.size = w.heap.size + 1 + 1 + 1 := by rw [← hX]; simp
  have HB0 : Hid (Blk X w.heap.size 96 #[.int .i64 p.ir, .int .i64 glo, .int .i64 ghi, .slice Ar nr cr, .slice Ad nd cd, .int .i64 p.wr]) := by rw [← hX]; exact ((Blk.new w _ _).alloc _).alloc _
  have HB1 : Hid (Blk X (w.heap.size + 1) 101 #[.int .i64 u.w0, .int .i64 u.w1, .int .i64 u.w2, .int .i64 u.w3]) := by
    rw [← hX]
    have := Blk.new (w.alloc (.cells #[.int .i64 p.ir, .int .i64 glo, .int .i64 ghi, .slice Ar nr cr, .slice Ad nd cd, .int .i64 p.wr] 96)) 101 #[.int .i64 u.w0, .int .i64 u.w1, .int .i64 u.w2, .int .i64 u.w3]
    rw [World.size_alloc] at this
    exact this.alloc _
  have HOW : Hid (X.ownsMap Tryz.prog 3 (plainElem (H := Unit) Tryz.prog 3) (w.heap.size + 1 + 1) 0 (.map [])) := by
    rw [← hX]
    have := World.ownsMap_made (H := Unit) ((w.alloc (.cells #[.int .i64 p.ir, .int .i64 glo, .int .i64 ghi, .slice Ar nr cr, .slice Ad nd cd, .int .i64 p.wr] 96)).alloc (.cells #[.int .i64 u.w0, .int .i64 u.w1, .int .i64 u.w2, .int .i64 u.w3] 101)) Tryz.prog 3 (plainElem Tryz.prog 3)
    refine Lib.hid ?_
    simpa only [World.size_alloc] using this
  have q0 := HB0.out.cell
  have l0 : w.heap.size < X.heap.size := by omega
  clear hX hmm
  go_wp2_with fail
  go_loopw [8] (fun i (wr : World) => ∃ j : Nat, glo + j ≤ ghi + 1 ∧ i = .int .i64 (glo + j) ∧ Hid (Off (fun b => b = w.heap.size + 1 + 1) X.heap.size X wr) ∧ Hid (∃ D, wr.ownsMap Tryz.prog 3 (plainElem (H := Unit) Tryz.prog 3) (w.heap.size + 1 + 1) (j * 8) D ∧ FitD D (ft4 p wh u j 0))) (fun i _ => (ghi + 1 - intOf i).toNat)
  case atStart => exact ⟨0, by omega, by simp, Lib.hid .refl, Lib.hid ⟨_, by simpa using HOW.out, FitD.made.congr ft4_start⟩⟩
  case round =>
    obtain ⟨j, hj, rfl, HOr, HDr⟩ := hrel
    obtain ⟨wo, rfl⟩ : ∃ wo : World, wo = wr := ⟨_, rfl⟩
    have zo := HOr.out.size
    have lo0 : w.heap.size < wo.heap.size := by omega
    have lo1 : w.heap.size + 1 < wo.heap.size := by omega
    have c0 := (HOr.out.blk HB0.out (by omega) (by omega)).cell
    have ho : Hid (Below w.heap.size w wo) := Lib.hid (HOr.out.below (m := w.heap.size) (fun b e => by omega) (by omega) BX)
    have HMo := Lib.hid (HMI.out.later ho.out)
    by_cases hle : glo + j ≤ ghi
    · have hqB : decide (glo + (j : Int) ≤ ghi) = true := decide_eq_true hle
      obtain ⟨ln, hln⟩ : ∃ x, glo + (j : Int) = x := ⟨_, rfl⟩
      rw [hln] at hqB ⊢
      have hlb : 1 ≤ ln ∧ ln ≤ 99999 ∧ ln ≤ ghi := by omega
      have hjb : j ≤ 99999 := by omega
      have HLN := Lib.hid hln
      clear hln hj hle
      have v1 : IntKind.i64.wrap (ln + 1) = ln + 1 := IntWalk.i64_in _ (by omega)
      go_wp2_with fail
      go_loopw [28] (fun i (wr : World) => ∃ k : Nat, k ≤ nd ∧ i = .int .i64 k ∧ Hid (Off (fun b => b = w.heap.size + 1 + 1) X.heap.size X wr) ∧ Hid (∃ D, wr.ownsMap Tryz.prog 3 (plainElem (H := Unit) Tryz.prog 3) (w.heap.size + 1 + 1) (j * 8 + k) D ∧ FitD D (ft4 p wh u j k))) (fun i _ => nd - (intOf i).toNat)
      case atStart => exact ⟨0, by omega, by simp, HOr, HDr⟩
      case round =>
        obtain ⟨k, hk, rfl, HOs, HDs⟩ := hrel
        have zs := HOs.out.size
        have ls0 : w.heap.size < wr.heap.size := by omega
        have ls1 : w.heap.size + 1 < wr.heap.size := by omega
        have d0 := (HOs.out.blk HB0.out (by omega) (by omega)).cell
        have d1 := (HOs.out.blk HB1.out (by omega) (by omega)).cell
        have hs : Hid (Below w.heap.size w wr) := Lib.hid (HOs.out.below (m := w.heap.size) (fun b e => by omega) (by omega) BX)
        have HMs := Lib.hid (HMI.out.later hs.out)
        by_cases hkn : k < nd
        · have hkB : decide ((k : Int) < nd) = true := by simp; omega
          have v2 : IntKind.i64.wrap ((k : Int) + 1) = (k : Int) + 1 := IntWalk.i64_in _ (by omega)
          obtain ⟨bd, od, hA, hbd, y0, y1, y2, y3, y4, y5, y6⟩ := HMs.out.hd.get hkn
          subst hA
          have hrk := OK.out.re k hkn
          have HWS := Lib.hid (wk4_succ (p := p) (wh := wh) (u := u) (len := ln) (k := k))
          have hwl : wk4 p wh u ln k ≤ k := wk4_le
          have HRG := Lib.hid (show rg4 p u ln k = rt4 p.ir (roAt p.rods (reAt p.res k).rd.toNat).gr (reAt p.res k) ln (u.at_ (reAt p.res k).rd.toNat) from rfl)
          have HGR := Lib.hid (fun q (hq : q < nr) => (OK.out.ro q hq).2.2)
          obtain ⟨x, hx⟩ : ∃ x, reAt p.res k = x := ⟨_, rfl⟩
          rw [hx] at y0 y1 y2 y3 y4 y5 y6 hrk HWS HRG
          obtain ⟨q, hq⟩ : ∃ q : Nat, x.rd = q := ⟨x.rd.toNat, by have := hrk.2.1; omega⟩
          have hqn : q < nr := by have := hrk.2.1; omega
          have hq4 : q < 4 := by have := OK.out.nr4; omega
          have hro := HU.out q hq4
          have dq := (d1 q).trans (at_w4 hq4)
          have hOX : OkX nr x := ⟨hrk.2.1, hrk.2.2.1, hrk.2.2.2.1, hrk.2.2.2.2.1, hrk.2.2.2.2.2⟩
          have HRT := Lib.hid (fun Z (hZ : Below wr.heap.size wr Z) => right4_c Ar nr cr (some ⟨bd, od, none⟩) nd cd p.ir glo ghi p.wr p.rods x ln (x.rd.toNat |> u.at_) Z (HMs.out.hr.later hZ) OK.out.ir (HGR.out _ (by omega)) hOX (by omega) (by rw [hq, Int.toNat_natCast]; exact hro))
          obtain ⟨R, hR⟩ : ∃ R, rt4 p.ir (roAt p.rods x.rd.toNat).gr x ln (u.at_ x.rd.toNat) = R := ⟨_, rfl⟩
          rw [hR] at HRT HRG
          obtain ⟨xw, xr, xc, xs, xo, lo, hi⟩ := x
          simp only at hq y0 y1 y2 y3 y4 y5 y6 HWS HRT
          subst hq
          rw [Int.toNat_natCast] at HRT
          obtain ⟨rod, hrod⟩ : ∃ r, u.at_ q = r := ⟨_, rfl⟩
          rw [hrod] at HRT dq hro
          obtain ⟨D, hD1, hD2⟩ := HDs.out
          have HD2 := Lib.hid hD2
          have HDM := Lib.hid hD1.isMap
          have HFX := Lib.hid hx
          clear hR hOX hx hrk hrod hD2 d1 HDs
          by_cases hw : xw = wh
          case neg =>
            have hwB : (xw == wh) = false := by simpa using hw
            have HW1 : Hid (wk4 p wh u ln (k + 1) = wk4 p wh u ln k) := Lib.hid (by rw [HWS.out, show decide (xw = wh) = false by simpa using hw]; simp)
            go_upto_region 8 with (fail)
            go_name_world Y hY
            have BY : Below wr.heap.size wr Y := (al1 hY).1
            have qY := (al1_0 hY).2.1
            have lY := (al1_0 hY).1
            clear hY
            have hcq := fun p : Regrown => (bcell (below_regrown Y p.d p.os)).1
            refine wp_region_quiet_below (by kernel_rfl) (by kernel_rfl) ?_
            repeat (go_big_quiet_step ((fail)))
            refine wpQuiet_nil ?_
            intro wq hq
            obtain ⟨pq, hq⟩ := hq
            have hbq : Below Y.heap.size Y wq := by rw [hq]; exact below_regrown _ _ _
            clear hq hcq pq
            obtain ⟨hcq, hfq⟩ := bcell hbq
            have zq := hbq.size
            have HBQ := Lib.hid (BY.trans (hbq.mono BY.size))
            clear hcq hfq hbq
            go_wp2_with fail
            go_roundw
            case rel =>
              refine ⟨k + 1, by omega, by go_num, Lib.hid (HOs.out.then_below HBQ.out (by omega)), Lib.hid ⟨D, (ownsMap_of_block (HBQ.out.block _ (by omega)) hD1).mono (by omega), HD2.out.congr fun y => ?_⟩⟩
              unfold ft4
              by_cases hy : y = p.glo + j
              · rw [if_pos hy, if_pos hy, hy, HGL.out, HLN.out, HW1.out]
              · rw [if_neg hy, if_neg hy]
            case measure => simp [intOf]; omega
          subst hw
          have hwB : (xw == xw) = true := by simp
          cases R
          · have HW1 : Hid (wk4 p xw u ln (k + 1) = wk4 p xw u ln k + 1) := Lib.hid (by rw [HWS.out, HRG.out]; simp)
            go_upto_region 8 with (fail)
            go_name_world Y hY
            have BY : Below wr.heap.size wr Y := (al1 hY).1
            have qY := (al1_0 hY).2.1
            have lY := (al1_0 hY).1
            have dY := (BY.cell (p := ⟨w.heap.size + 1, q, none⟩) ls1).trans dq
            have d0Y := fun i => (BY.cell (p := ⟨w.heap.size, i, none⟩) ls0).trans (d0 i)
            have lY1 : w.heap.size + 1 < Y.heap.size := Nat.lt_of_lt_of_le ls1 BY.size
            have lY0 : w.heap.size < Y.heap.size := Nat.lt_of_lt_of_le ls0 BY.size
            clear hY
            have hcq := fun p : Regrown => (bcell (below_regrown Y p.d p.os)).1
            refine wp_region_quiet_below (by kernel_rfl) (by kernel_rfl) ?_
            repeat (go_big_quiet_step ((go_at_call 126; exact Calls.regrown_of (HRT.out _ (BY.trans ((below_regrown _ _ _).mono BY.size))))))
            refine wpQuiet_nil ?_
            intro wq hq
            obtain ⟨pq, hq⟩ := hq
            have hbq : Below Y.heap.size Y wq := by rw [hq]; exact below_regrown _ _ _
            clear hq hcq pq
            obtain ⟨hcq, hfq⟩ := bcell hbq
            have zq := hbq.size
            have HBQ := Lib.hid (BY.trans (hbq.mono BY.size))
            have hOQ := ownsMap_of_block (HBQ.out.block _ (by omega)) hD1
            have hkey := key3 (x := ln) (by omega)
            clear hcq hfq hbq
            go_wp2_with (first
              | (at_lookup; refine wpList_lookup_own_int _ rfl _ _ 181 rfl 3 3 .i64 keyed3 Tryz.underlying181 Tryz.underlying3 (zero3i _) (w.heap.size + 1 + 1) (j * 8 + k) _ rfl hOQ _ _ rfl hkey ?_; intro c hat hwc)
              | (at_mapUpdate; refine wpList_mapUpdate_own _ rfl _ _ _ 181 rfl 3 3 keyed3 Tryz.underlying181 _ (w.heap.size + 1 + 1) (j * 8 + k) _ rfl hOQ (by unfold maxLen; omega) _ _ _ rfl rfl hkey _ [] (plainElem_int Tryz.underlying3 (wrap64_wf _)) ?_; intro w1 hown1 hgrow1)
              | fail)
            have hc : c = wk4 p xw u ln k := by
              have h1 := HD2.out ln (by omega) (by omega)
              rw [hat] at h1
              have h2 : ft4 p xw u j k ln = wk4 p xw u ln k := by unfold ft4; rw [HGL.out, if_neg (by have := HLN.out; omega), if_pos HLN.out.symm]
              rw [h2] at h1
              injection h1 with h1
              injection h1 with h1
            subst hc
            have hwr : wrap64 ((wk4 p xw u ln k : Int) + 1) = (wk4 p xw u ln k : Int) + 1 := IntWalk.wrap64_in ((wk4 p xw u ln k : Int) + 1) (by omega)
            have HG1 := Lib.hid hgrow1
            have HO1 := Lib.hid hown1
            clear hgrow1 hown1 hat hwc hOQ
            go_roundw
            case rel =>
              refine ⟨k + 1, by omega, by go_num, Lib.hid ((HOs.out.then_below HBQ.out (by omega)).grown HG1.out (fun g e => by cases e; exact .inl rfl) (Nat.le_refl _)), Lib.hid ⟨_, HO1.out.mono (by omega), HD2.out.put HDM.out ?_ fun y hy => ?_⟩⟩
              · rw [hwr]; unfold ft4; rw [HGL.out, if_neg (by have := HLN.out; omega), if_pos HLN.out.symm, HW1.out]; omega
              · unfold ft4
                rw [HGL.out]
                have h3 : ¬ y = glo + (j : Int) := fun e => hy (by rw [e]; exact HLN.out)
                rw [if_neg h3, if_neg h3]
            case measure => simp [intOf]; omega
          · have HW1 : Hid (wk4 p xw u ln (k + 1) = wk4 p xw u ln k) := Lib.hid (by rw [HWS.out, HRG.out]; simp)
            go_upto_region 8 with (fail)
            go_name_world Y hY
            have BY : Below wr.heap.size wr Y := (al1 hY).1
            have qY := (al1_0 hY).2.1
            have lY := (al1_0 hY).1
            have dY := (BY.cell (p := ⟨w.heap.size + 1, q, none⟩) ls1).trans dq
            have d0Y := fun i => (BY.cell (p := ⟨w.heap.size, i, none⟩) ls0).trans (d0 i)
            have lY1 : w.heap.size + 1 < Y.heap.size := Nat.lt_of_lt_of_le ls1 BY.size
            have lY0 : w.heap.size < Y.heap.size := Nat.lt_of_lt_of_le ls0 BY.size
            clear hY
            have hcq := fun p : Regrown => (bcell (below_regrown Y p.d p.os)).1
            refine wp_region_quiet_below (by kernel_rfl) (by kernel_rfl) ?_
            repeat (go_big_quiet_step ((go_at_call 126; exact Calls.regrown_of (HRT.out _ (BY.trans ((below_regrown _ _ _).mono BY.size))))))
            refine wpQuiet_nil ?_
            intro wq hq
            obtain ⟨pq, hq⟩ := hq
            have hbq : Below Y.heap.size Y wq := by rw [hq]; exact below_regrown _ _ _
            clear hq hcq pq
            obtain ⟨hcq, hfq⟩ := bcell hbq
            have zq := hbq.size
            have HBQ := Lib.hid (BY.trans (hbq.mono BY.size))
            clear hcq hfq hbq
            go_wp2_with fail
            go_roundw
            case rel =>
              refine ⟨k + 1, by omega, by go_num, Lib.hid (HOs.out.then_below HBQ.out (by omega)), Lib.hid ⟨D, (ownsMap_of_block (HBQ.out.block _ (by omega)) hD1).mono (by omega), HD2.out.congr fun y => ?_⟩⟩
              unfold ft4
              by_cases hy : y = p.glo + j
              · rw [if_pos hy, if_pos hy, hy, HGL.out, HLN.out, HW1.out]
              · rw [if_neg hy, if_neg hy]
            case measure => simp [intOf]; omega
        · obtain rfl : k = nd := by omega
          have hkB : decide ((k : Int) < k) = false := by simp
          go_wp2_with fail
          go_roundw
          case rel =>
            refine ⟨j + 1, by have := HLN.out; omega, by have := HLN.out; simp; omega, HOs, Lib.hid ?_⟩
            obtain ⟨D, h1, h2⟩ := HDs.out
            exact ⟨D, h1.mono (by omega), h2.congr fun x => by rw [ft4_next, hld]⟩
          case measure => simp [intOf]; omega
    · have hqB : decide (glo + (j : Int) ≤ ghi) = false := decide_eq_false hle
      go_wp2_with fail
      go_ret
      obtain ⟨D, h1, h2⟩ := HDr.out
      refine ⟨w.heap.size + 1 + 1, j * 8, D, rfl, by omega, by omega, h1, h2.congr fun x => ?_, ho.out⟩
      rw [HGL.out, HGH.out]
      unfold ft4
      rw [HGL.out]
      by_cases hx : glo ≤ x ∧ x ≤ ghi
      · rw [if_pos hx, if_neg (by omega), if_neg (by omega)]
      · rw [if_neg hx]
        by_cases h3 : x < glo ∨ glo + j < x
        · rw [if_pos h3]
        · rw [if_neg h3, if_pos (by omega)]; rfl

end Go.Proofs.YtcbeiadimchknaaGreat
