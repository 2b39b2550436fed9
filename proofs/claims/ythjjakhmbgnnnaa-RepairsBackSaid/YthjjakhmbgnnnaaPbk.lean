/- RepairsBack (layer 7): the walk. -/
import Derived.Deep.DrawnRows
import Derived.Test.YthjjakhmbgnnnaaBkw7
import Derived.Test.YthjjakhmbgnnnaaFa7
import Derived.Test.YthjjakhmbgnnnaaCp7
import Derived.Test.YthjjakhmbgnnnaaGo7
import Derived.Test.YthjjakhmbgnnnaaTr7
import Derived.Test.YthjjakhmbgnnnaaCc7
import Derived.Test.YthjjakhmbgnnnaaSd7
import Derived.Test.YthjjakhmbgnnnaaIr7
import Derived.Test.YthjjakhmbgnnnaaRi1
namespace Go.Proofs.Ythjjakhmbgnnnaa
open Go.RowKit
open Go.Sort (grow)
set_option linter.unusedVariables false

/-- the copy, as it is turned -/
def cpB (n : Nat) (ls : List Sp) : Nat → List Sp
  | 0 => ls
  | k + 1 => (cpB n ls k).set (n - 1 - k) (spAt ls k)
theorem cpB_len (n : Nat) (ls : List Sp) (k : Nat) : (cpB n ls k).length = ls.length := by
  induction k with
  | zero => rfl
  | succ k ih => rw [cpB, List.length_set, ih]
theorem cpB_at {n : Nat} {ls : List Sp} (hl : ls.length = n) {k : Nat} (hk : k ≤ n) {i : Nat} (hi : i < n) : spAt (cpB n ls k) i = if n - 1 - i < k then spAt ls (n - 1 - i) else spAt ls i := by
  induction k with
  | zero => rw [if_neg (by omega)]; rfl
  | succ k ih =>
    have e : spAt (cpB n ls (k + 1)) i = if n - 1 - k = i then spAt ls k else spAt (cpB n ls k) i := by
      show ((cpB n ls k).set _ _).getD i _ = _
      rw [List.getD_eq_getElem?_getD, List.getElem?_set]
      by_cases e : n - 1 - k = i
      · rw [if_pos e, if_pos e, if_pos (by rw [cpB_len]; omega)]; rfl
      · rw [if_neg e, if_neg e]; unfold spAt; rw [List.getD_eq_getElem?_getD]
    rw [e, ih (by omega)]
    by_cases e1 : n - 1 - k = i
    · rw [if_pos e1, if_pos (by omega)]; congr 1; omega
    · rw [if_neg e1]
      by_cases e2 : n - 1 - i < k
      · rw [if_pos e2, if_pos (by omega)]
      · rw [if_neg e2, if_neg (by omega)]
theorem cpB_all {n : Nat} {ls : List Sp} (hl : ls.length = n) : cpB n ls n = ls.reverse := by
  refine List.ext_getElem (by rw [cpB_len, List.length_reverse]) fun i h1 h2 => ?_
  have hi : i < n := by rw [cpB_len] at h1; omega
  rw [← spAt_lt h1, ← spAt_lt h2, cpB_at hl (Nat.le_refl _) hi, if_pos (by omega), spAt_rev hl hi]
set_option maxRecDepth 100000 in
set_option maxHeartbeats 12800000 in
theorem BackLaw_c (A B : Option Addr) (n c m d : Nat) (q : Cb) (ls : List Sp) (l : List Int) (x0 x1 x2 : Int) (w : World) (hq : CbOk q) (HL : SpsAt w A n ls) (hn : n ≤ 9223372036854775807) (HX : IntsAt w B m l) (hm : m ≤ 9223372036854775807) :
    Calls Try.prog 11 #[.agg #[.slice A n c, .int .i64 q.need, .int .i64 q.gap, .int .i64 q.doubt, .int .i64 q.joins, .int .i64 q.least], .slice B m d, .agg #[.int .i64 x0, .int .i64 x1, .int .i64 x2]] w
      fun e w' => e = .returned (.bool true) ∧ Below w.heap.size w w' := by
  have hrd : ∀ Z, Below w.heap.size w Z → Calls Try.prog 12 #[.agg #[.slice A n c, .int .i64 q.need, .int .i64 q.gap, .int .i64 q.doubt, .int .i64 q.joins, .int .i64 q.least]] Z fun e Z' => e = .returned (.bool (rdyC n ls q)) ∧ Below Z.heap.size Z Z' := fun Z hZ => ready_c A n c q ls Z (HL.later hZ)
  have hwk := Lib.hid works_c
  cases er : rdyC n ls q
  · rw [er] at hrd
    replace hrd := Lib.hid hrd
    clear er HL hq HX
    go_enter Try.func11, Try.ntmps11
    go_wp2_with fail
    obtain ⟨X, hX⟩ : ∃ X, (w.alloc (.cells #[.slice A n c, .int .i64 q.need, .int .i64 q.gap, .int .i64 q.doubt, .int .i64 q.joins, .int .i64 q.least] 24)).alloc (.cells #[.int .i64 x0, .int .i64 x1, .int .i64 x2] 28) = X := ⟨_, rfl⟩
    rw [hX]
    have BX : Below w.heap.size w X := (al2 hX).1
    have zX : X.heap.size = w.heap.size + 2 := (al2 hX).2
    have P0 := Lib.hid (al2_0 hX).2.1
    have P1 := Lib.hid (al2_1 hX).2.1
    have zw : w.heap.size ≤ X.heap.size := by omega
    have n0 : w.heap.size < X.heap.size := by omega
    have n1 : w.heap.size + 1 < X.heap.size := by omega
    clear hX
    refine (hrd.out X BX).mono ?_
    rintro e w1 ⟨rfl, hb1⟩
    have b1 := hb1
    clear hb1
    have c1_0 := fun j => (b1.cell (p := ⟨w.heap.size, j, none⟩) n0).trans (P0.out j)
    have c1_1 := fun j => (b1.cell (p := ⟨w.heap.size + 1, j, none⟩) n1).trans (P1.out j)
    have z1 := b1.size
    go_wp2_with fail
    refine (hwk.out _).mono ?_
    rintro e w99 ⟨rfl, hb99⟩
    go_wp2
    go_ret
    exact ⟨rfl, BX.trans (Below.mono (b1.trans (hb99.mono z1)) zw)⟩
  obtain ⟨hn8, hck⟩ := rdyC_len er
  rw [er] at hrd
  replace hrd := Lib.hid hrd
  have HLI := Lib.hid HL
  have HXI := Lib.hid HX
  have HCK := Lib.hid hck
  have HQ := Lib.hid hq
  clear er HL hq HX hck hn
  by_cases hm1 : 40 < m
  · have hB : decide ((40 : Int) < m) = true := by simp; omega
    go_enter Try.func11, Try.ntmps11
    go_wp2_with fail
    obtain ⟨X, hX⟩ : ∃ X, (w.alloc (.cells #[.slice A n c, .int .i64 q.need, .int .i64 q.gap, .int .i64 q.doubt, .int .i64 q.joins, .int .i64 q.least] 24)).alloc (.cells #[.int .i64 x0, .int .i64 x1, .int .i64 x2] 28) = X := ⟨_, rfl⟩
    rw [hX]
    have BX : Below w.heap.size w X := (al2 hX).1
    have zX : X.heap.size = w.heap.size + 2 := (al2 hX).2
    have P0 := Lib.hid (al2_0 hX).2.1
    have P1 := Lib.hid (al2_1 hX).2.1
    have zw : w.heap.size ≤ X.heap.size := by omega
    have n0 : w.heap.size < X.heap.size := by omega
    have n1 : w.heap.size + 1 < X.heap.size := by omega
    clear hX
    refine (hrd.out X BX).mono ?_
    rintro e w1 ⟨rfl, hb1⟩
    have b1 := hb1
    clear hb1
    have c1_0 := fun j => (b1.cell (p := ⟨w.heap.size, j, none⟩) n0).trans (P0.out j)
    have c1_1 := fun j => (b1.cell (p := ⟨w.heap.size + 1, j, none⟩) n1).trans (P1.out j)
    have z1 := b1.size
    go_wp2_with fail
    refine (hwk.out _).mono ?_
    rintro e w99 ⟨rfl, hb99⟩
    go_wp2
    go_ret
    exact ⟨rfl, BX.trans (Below.mono (b1.trans (hb99.mono z1)) zw)⟩
  have hm40 : m ≤ 40 := by omega
  have hmB : decide ((40 : Int) < m) = false := by simp; omega
  clear hm1
  go_enter Try.func11, Try.ntmps11
  go_wp2_with fail
  obtain ⟨X, hX⟩ : ∃ X, (w.alloc (.cells #[.slice A n c, .int .i64 q.need, .int .i64 q.gap, .int .i64 q.doubt, .int .i64 q.joins, .int .i64 q.least] 24)).alloc (.cells #[.int .i64 x0, .int .i64 x1, .int .i64 x2] 28) = X := ⟨_, rfl⟩
  rw [hX]
  have BX : Below w.heap.size w X := (al2 hX).1
  have zX : X.heap.size = w.heap.size + 2 := (al2 hX).2
  have P0 := Lib.hid (al2_0 hX).2.1
  have P1 := Lib.hid (al2_1 hX).2.1
  have zw : w.heap.size ≤ X.heap.size := by omega
  have n0 : w.heap.size < X.heap.size := by omega
  have n1 : w.heap.size + 1 < X.heap.size := by omega
  clear hX
  refine (hrd.out X BX).mono ?_
  rintro e w1 ⟨rfl, hb1⟩
  have b1 := hb1
  clear hb1
  have c1_0 := fun j => (b1.cell (p := ⟨w.heap.size, j, none⟩) n0).trans (P0.out j)
  have c1_1 := fun j => (b1.cell (p := ⟨w.heap.size + 1, j, none⟩) n1).trans (P1.out j)
  have z1 := b1.size
  go_wp2_with fail
  refine (Copy_c A n c q ls w1 (by omega) (HLI.out.later (BX.trans (b1.mono zw)))).mono ?_
  rintro e w3 ⟨A1, k1, rfl, hO, hb3⟩
  have HO := Lib.hid hO
  have b3 : Below X.heap.size X w3 := b1.trans (hb3.mono z1)
  have z13 := hb3.size
  clear hb3 hO c1_0 c1_1
  have c3_0 := fun j => (b3.cell (p := ⟨w.heap.size, j, none⟩) n0).trans (P0.out j)
  have c3_1 := fun j => (b3.cell (p := ⟨w.heap.size + 1, j, none⟩) n1).trans (P1.out j)
  have z3 := b3.size
  go_wp2_with fail
  go_name_world Y hY
  have BL : Blk Y w3.heap.size 24 #[.slice A1 n k1, .int .i64 q.need, .int .i64 q.gap, .int .i64 q.doubt, .int .i64 q.joins, .int .i64 q.least] := by rw [← hY]; exact Blk.new _ _ _
  have o0 := Lib.hid BL.cell
  have lY := BL.lt
  have bY := (al1 hY).1
  have b4 : Below X.heap.size X Y := b3.trans (bY.mono z3)
  have HOY : Hid (Y.ownsRow w1.heap.size 35 2 (.slice A1 n k1) n ((cpB n ls 0).flatMap encS)) := own_below HO.out bY
  have NE := Lib.hid (fun k hk (e : k = w3.heap.size) => by have := (HO.out.lt k hk).2; omega : ∀ k, (Value.slice A1 n k1).ownBlock = some k → k = w3.heap.size → False)
  clear hY bY c3_0 c3_1 BL b3 HO
  have hs1 : IntKind.i64.wrap ((n : Int) - 1) = (n : Int) - 1 := IntWalk.i64_in _ (by omega)
  go_loopw [8] (fun i (wr : World) => ∃ k : Nat, k ≤ n ∧ i = .int .i64 k ∧ Hid (wr.ownsRow w1.heap.size 35 2 (.slice A1 n k1) n ((cpB n ls k).flatMap encS)) ∧ Hid (∀ j, wr.cell? ⟨w3.heap.size, j, none⟩ = #[Value.slice A1 n k1, .int .i64 q.need, .int .i64 q.gap, .int .i64 q.doubt, .int .i64 q.joins, .int .i64 q.least][j]?) ∧ w3.heap.size < wr.heap.size ∧ Below X.heap.size X wr) (fun i _ => n - (intOf i).toNat)
  case atStart => exact ⟨0, by omega, rfl, HOY, o0, lY, b4⟩
  case round =>
    obtain ⟨k, hk, rfl, OZ, o0, lZ, b5⟩ := hrel
    have z5 := b5.size
    have c5_0 := fun j => (b5.cell (p := ⟨w.heap.size, j, none⟩) n0).trans (P0.out j)
    have hbw : Below w.heap.size w wr := BX.trans (b5.mono zw)
    by_cases hkn : k < n
    · have hkB : decide ((k : Int) < n) = true := by simp; omega
      obtain ⟨r, hr⟩ : ∃ r, n - 1 - k = r := ⟨_, rfl⟩
      have hrn : r < n := by omega
      have hs2 : IntKind.i64.wrap ((n : Int) - 1 - k) = (r : Int) := by rw [IntWalk.i64_in _ (by omega)]; omega
      obtain ⟨b0, f0, rfl, hb0, s0, s1⟩ := (HLI.out.later hbw).get hkn
      have hb0' : b0 < w.heap.size := by
        obtain ⟨b1, f1, e1, hb1, -⟩ := HLI.out.get hkn
        cases e1
        exact hb1
      obtain ⟨ga, k1', e4s, hga, hga'⟩ := OZ.out.form (by omega)
      injection e4s with e4a e4b e4c
      subst e4a e4c
      have r1 : ga ≠ w3.heap.size := fun e => NE.out ga rfl e
      have hcl : (cpB n ls k).length = n := by rw [cpB_len]; exact HLI.out.1
      have t0 : wr.cell? ⟨ga, r * 2, none⟩ = some (.int .i64 (spAt (cpB n ls k) r).lo) := (OZ.out.cellAt (r * 2) (by omega)).trans (flat_get (d := (⟨0, 0⟩ : Sp)) encS_len (cpB n ls k) r 0 (by omega) (by omega))
      have t1 : wr.cell? ⟨ga, r * 2 + 1, none⟩ = some (.int .i64 (spAt (cpB n ls k) r).hi) := (OZ.out.cellAt (r * 2 + 1) (by omega)).trans (flat_get (d := (⟨0, 0⟩ : Sp)) encS_len (cpB n ls k) r 1 (by omega) (by omega))
      have fz0 := OZ.out.frozenAt (r * 2)
      have fz1 := OZ.out.frozenAt (r * 2 + 1)
      have HNX : Hid (cpB n ls (k + 1) = (cpB n ls k).set r (spAt ls k)) := by show _ = _; rw [cpB, hr]
      obtain ⟨s, hs⟩ : ∃ s, spAt ls k = s := ⟨_, rfl⟩
      rw [hs] at s0 s1 HNX
      obtain ⟨L, hL⟩ : ∃ L, cpB n ls k = L := ⟨_, rfl⟩
      rw [hL] at OZ HNX hcl t0 t1
      have q1 : w1.heap.size ≤ ga := hga
      have q2 := b1.size
      have oo := o0.out
      clear e4b hr hs hL
      go_upto_region 7 with (fail)
      go_region_held3 (fun w' => (∀ j, w'.cell? ⟨w.heap.size, j, none⟩ = #[Value.slice (some ⟨b0, f0, none⟩) n c, .int .i64 q.need, .int .i64 q.gap, .int .i64 q.doubt, .int .i64 q.joins, .int .i64 q.least][j]?) ∧
          (∀ j, w'.cell? ⟨w3.heap.size, j, none⟩ = #[Value.slice (some ⟨ga, 0, none⟩) n k1, .int .i64 q.need, .int .i64 q.gap, .int .i64 q.doubt, .int .i64 q.joins, .int .i64 q.least][j]?) ∧ w'.cell? ⟨b0, f0 + k * 2, none⟩ = some (.int .i64 s.lo) ∧ w'.cell? ⟨b0, f0 + k * 2 + 1, none⟩ = some (.int .i64 s.hi))
        (first | with_reducible exact ⟨c5_0, oo, s0, s1⟩ | ((simp only [World.cell?_drew]; refine ⟨fun j => ?_, fun j => ?_, ?_, ?_⟩) <;> (repeat first | with_reducible exact c5_0 _ | with_reducible exact oo _ | with_reducible exact s0 | with_reducible exact s1 | ((with_reducible refine (World.cell?_setCell_other _ _ _ _ ?side).trans ?_); case side => (intro h; simp only [Addr.mk.injEq] at h; omega))); done) | go_keep)
        (fail)
      have hO1 : ((wr.setCell ⟨ga, r * 2, none⟩ (.int .i64 s.lo)).setCell ⟨ga, r * 2 + 1, none⟩ (.int .i64 s.hi)).ownsRow w1.heap.size 35 2 (.slice (some ⟨ga, 0, none⟩) n k1) n ((L.set r s).flatMap encS) := by
        have a1 := (OZ.out.stored (r * 2 + 0) (.int .i64 s.lo)).1
        rw [flat_set encS_len L r 0 ⟨s.lo, (spAt L r).hi⟩ (⟨0, 0⟩ : Sp) _ (by omega) (by omega) rfl] at a1
        have a2 := (a1.stored (r * 2 + 1) (.int .i64 s.hi)).1
        rw [flat_set encS_len _ r 1 s (⟨0, 0⟩ : Sp) _ (by rw [List.length_set]; omega) (by omega) (by
          rw [List.getD_eq_getElem?_getD, List.getElem?_set]
          simp [hcl, hrn, encS]), List.set_set] at a2
        exact a2
      have HO1 := Lib.hid hO1
      clear hO1
      go_wp2_with fail
      go_roundw
      case rel =>
        refine ⟨k + 1, by omega, by go_num, ?_, ?_, ?_, ?_⟩
        · show World.ownsRow _ _ _ _ _ _ _
          rw [HNX.out]
          exact HO1.out.drew
        · show ∀ j, _
          intro j
          rw [World.cell?_drew]
          exact (World.cell?_setCell_other _ _ _ _ (by intro h; simp only [Addr.mk.injEq] at h; omega)).trans ((World.cell?_setCell_other _ _ _ _ (by intro h; simp only [Addr.mk.injEq] at h; omega)).trans (oo j))
        · show _ < ((wr.setCell _ _).setCell _ _).heap.size
          simp only [World.size_setCell]; exact lZ
        · (repeat first | with_reducible assumption | with_reducible exact Below.refl _ _ | (with_reducible refine Below.alloc ?_ ?side _; case side => (first | omega | (with_reducible exact Below.size (by assumption)) | (simp; done) | (simp; omega))) | (with_reducible refine Below.setCell ?_ ?side _; case side => (first | omega | (with_reducible exact Below.size (by assumption)) | (simp; done) | (simp; omega))) | with_reducible refine Below.drew ?_ | with_reducible refine below_drewN ?_ _ | (with_reducible refine below_step (by assumption) ?side ?_; case side => (first | omega | (with_reducible exact Below.size (by assumption)) | (simp; done) | (simp; omega))))
      case measure => simp [intOf]; omega
    · obtain rfl : k = n := by omega
      obtain ⟨wc, rfl⟩ : ∃ wo : World, wo = wr := ⟨_, rfl⟩
      have hkB : decide (((k : Nat) : Int) < k) = false := by simp
      have HSP := Lib.hid (sps_iff.2 (sl_of_own encS_len OZ.out (by rw [cpB_len]; exact HLI.out.1)) : SpsAt wc A1 k (cpB k ls k))
      rw [cpB_all HLI.out.1] at HSP
      have BW := hbw
      have zc := BW.size
      have C0 := Lib.hid c5_0
      have C1 := Lib.hid (fun j => (b5.cell (p := ⟨w.heap.size + 1, j, none⟩) n1).trans (P1.out j))
      have CG := o0
      have N0 : w.heap.size < wc.heap.size := by omega
      have N1 : w.heap.size + 1 < wc.heap.size := by omega
      have Ng := lZ
      have hvV : ∀ V, Below wc.heap.size wc V → Below w.heap.size w V := fun V hV => BW.trans (hV.mono BW.size)
      have v0 : Below wc.heap.size wc wc := Below.refl _ _
      have hl := HLI.out.1
      have hwB : ∀ V, Below wc.heap.size wc V → SpsAt V A1 k ls.reverse := fun V hV => HSP.out.later hV
      have hwA : ∀ V, Below wc.heap.size wc V → SpsAt V A k ls := fun V hV => HLI.out.later (hvV V hV)
      have hwX : ∀ V, Below wc.heap.size wc V → IntsAt V B m l := fun V hV => HXI.out.later (hvV V hV)
      have hfa : ∀ V, Below wc.heap.size wc V → Calls Try.prog 17 #[.agg #[.slice A k c, .int .i64 q.need, .int .i64 q.gap, .int .i64 q.doubt, .int .i64 q.joins, .int .i64 q.least]] V fun e V' => e = .returned (.tuple #[.int .i64 ((plC k ls q).length : Nat), .int .i64 (erS k ls q)]) ∧ Below V.heap.size V V' := fun V hV => fewest_c A k c q ls V (by omega) HQ.out (hwA V hV)
      have hfb : ∀ V, Below wc.heap.size wc V → Calls Try.prog 17 #[.agg #[.slice A1 k k1, .int .i64 q.need, .int .i64 q.gap, .int .i64 q.doubt, .int .i64 q.joins, .int .i64 q.least]] V fun e V' => e = .returned (.tuple #[.int .i64 ((plC k ls q).length : Nat), .int .i64 (erS k ls q)]) ∧ Below V.heap.size V V' := fun V hV => by
        have := fewest_c A1 k k1 q ls.reverse V (by omega) HQ.out (hwB V hV)
        rwa [pl_rv hl, er_rv hl] at this
      have hca : ∀ V, Below wc.heap.size wc V → Calls Try.prog 18 #[.agg #[.slice A k c, .int .i64 q.need, .int .i64 q.gap, .int .i64 q.doubt, .int .i64 q.joins, .int .i64 q.least], .int .i64 x0, .int .i64 x1] V fun e V' => e = .returned (.tuple #[.int .i64 (chR k ls q x0 x1).1, .int .i64 (chR k ls q x0 x1).2]) ∧ Below V.heap.size V V' := fun V hV => cheapest_c A k c q x0 x1 ls V (by omega) HQ.out (hwA V hV)
      have hcb : ∀ V, Below wc.heap.size wc V → Calls Try.prog 18 #[.agg #[.slice A1 k k1, .int .i64 q.need, .int .i64 q.gap, .int .i64 q.doubt, .int .i64 q.joins, .int .i64 q.least], .int .i64 x0, .int .i64 x1] V fun e V' => e = .returned (.tuple #[.int .i64 (chR k ls q x0 x1).1, .int .i64 (chR k ls q x0 x1).2]) ∧ Below V.heap.size V V' := fun V hV => by
        have := cheapest_c A1 k k1 q x0 x1 ls.reverse V (by omega) HQ.out (hwB V hV)
        rwa [chR_rv hl] at this
      have hsa : ∀ V, Below wc.heap.size wc V → Calls Try.prog 19 #[.agg #[.slice A k c, .int .i64 q.need, .int .i64 q.gap, .int .i64 q.doubt, .int .i64 q.joins, .int .i64 q.least], .int .i64 x2] V fun e V' => e = .returned (.tuple #[.int .i64 (stR k ls q x2).1, .int .i64 (stR k ls q x2).2]) ∧ Below V.heap.size V V' := fun V hV => strong_c A k c q x2 ls V (by omega) HQ.out (hwA V hV)
      have hsb : ∀ V, Below wc.heap.size wc V → Calls Try.prog 19 #[.agg #[.slice A1 k k1, .int .i64 q.need, .int .i64 q.gap, .int .i64 q.doubt, .int .i64 q.joins, .int .i64 q.least], .int .i64 x2] V fun e V' => e = .returned (.tuple #[.int .i64 (stR k ls q x2).1, .int .i64 (stR k ls q x2).2]) ∧ Below V.heap.size V V' := fun V hV => by
        have := strong_c A1 k k1 q x2 ls.reverse V (by omega) HQ.out (hwB V hV)
        rwa [stR_rv hl] at this
      have hma : ∀ V, Below wc.heap.size wc V → Calls Try.prog 37 #[.agg #[.slice A k c, .int .i64 q.need, .int .i64 q.gap, .int .i64 q.doubt, .int .i64 q.joins, .int .i64 q.least]] V (LiRet (muL k ls q) (erS k ls q) V) := fun V hV => Must_c A k c q ls V (by omega) HQ.out (hwA V hV)
      have hmb : ∀ V, Below wc.heap.size wc V → Calls Try.prog 37 #[.agg #[.slice A1 k k1, .int .i64 q.need, .int .i64 q.gap, .int .i64 q.doubt, .int .i64 q.joins, .int .i64 q.least]] V (LiRet (bkN k (muL k ls q)) (erS k ls q) V) := fun V hV => by
        have := Must_c A1 k k1 q ls.reverse V (by omega) HQ.out (hwB V hV)
        rwa [mu_rv hl, er_rv hl] at this
      have hpa : ∀ V, Below wc.heap.size wc V → Calls Try.prog 39 #[.agg #[.slice A k c, .int .i64 q.need, .int .i64 q.gap, .int .i64 q.doubt, .int .i64 q.joins, .int .i64 q.least]] V (LiRet (spL k ls q) (erS k ls q) V) := fun V hV => Spared_c A k c q ls V (by omega) HQ.out (hwA V hV)
      have hpb : ∀ V, Below wc.heap.size wc V → Calls Try.prog 39 #[.agg #[.slice A1 k k1, .int .i64 q.need, .int .i64 q.gap, .int .i64 q.doubt, .int .i64 q.joins, .int .i64 q.least]] V (LiRet (bkN k (spL k ls q)) (erS k ls q) V) := fun V hV => by
        have := Spared_c A1 k k1 q ls.reverse V (by omega) HQ.out (hwB V hV)
        rwa [sp_rv hl, er_rv hl] at this
      have hir : ∀ V, Below wc.heap.size wc V → Calls Try.prog 26 #[.agg #[.slice A k c, .int .i64 q.need, .int .i64 q.gap, .int .i64 q.doubt, .int .i64 q.joins, .int .i64 q.least], .slice B m d] V fun e V' => e = .returned (.bool (isR k m l)) ∧ Below V.heap.size V V' := fun V hV => IsRepair_c A B k c m d q l V (by omega) hm40 (hwX V hV)
      have hga : ∀ V, Below wc.heap.size wc V → Calls Try.prog 28 #[.agg #[.slice A k c, .int .i64 q.need, .int .i64 q.gap, .int .i64 q.doubt, .int .i64 q.joins, .int .i64 q.least], .slice B m d] V fun e V' => e = .returned (.tuple #[.bool (gvG k m ls q l), .int .i64 (gvE k m ls q l)]) ∧ Below V.heap.size V V' := fun V hV => Good_c A B k c m d q ls l V (by omega) hm40 HQ.out (hwA V hV) (hwX V hV)
      have hha : ∀ V, Below wc.heap.size wc V → Calls Try.prog 33 #[.agg #[.slice A k c, .int .i64 q.need, .int .i64 q.gap, .int .i64 q.doubt, .int .i64 q.joins, .int .i64 q.least], .slice B m d] V fun e V' => e = .returned (.tuple #[.int .i64 (gvS k m ls q l), .int .i64 (gvE k m ls q l)]) ∧ Below V.heap.size V V' := fun V hV => Shackles_c A B k c m d q ls l V (by omega) hm40 HQ.out (hwA V hV) (hwX V hV)
      have hgb : ∀ V B' d', Below wc.heap.size wc V → IntsAt V B' m (bkL k l) → Calls Try.prog 28 #[.agg #[.slice A1 k k1, .int .i64 q.need, .int .i64 q.gap, .int .i64 q.doubt, .int .i64 q.joins, .int .i64 q.least], .slice B' m d'] V fun e V' => e = .returned (.tuple #[.bool (gvG k m ls.reverse q (bkL k l)), .int .i64 (gvE k m ls.reverse q (bkL k l))]) ∧ Below V.heap.size V V' := fun V B' d' hV hI => Good_c A1 B' k k1 m d' q ls.reverse (bkL k l) V (by omega) hm40 HQ.out (hwB V hV) hI
      have hhb : ∀ V B' d', Below wc.heap.size wc V → IntsAt V B' m (bkL k l) → Calls Try.prog 33 #[.agg #[.slice A1 k k1, .int .i64 q.need, .int .i64 q.gap, .int .i64 q.doubt, .int .i64 q.joins, .int .i64 q.least], .slice B' m d'] V fun e V' => e = .returned (.tuple #[.int .i64 (gvS k m ls.reverse q (bkL k l)), .int .i64 (gvE k m ls.reverse q (bkL k l))]) ∧ Below V.heap.size V V' := fun V B' d' hV hI => Shackles_c A1 B' k k1 m d' q ls.reverse (bkL k l) V (by omega) hm40 HQ.out (hwB V hV) hI
      have hbm : ∀ V B' d', IntsAt V B' (muL k ls q).length (ints (muL k ls q)) → Calls Try.prog 43 #[.agg #[.slice A k c, .int .i64 q.need, .int .i64 q.gap, .int .i64 q.doubt, .int .i64 q.joins, .int .i64 q.least], .slice B' (muL k ls q).length d'] V (BkRet (muL k ls q).length (ints (bkN k (muL k ls q))) V) := fun V B' d' hI => by
        have hlm := mu_len k ls q
        have := back_c A B' k c _ d' q _ V (by omega) (by omega) hI (fun j hj => by rw [ints_at (List.getElem?_eq_getElem hj)]; have := mu_lt _ (List.getElem_mem hj); omega)
        rwa [bk_ints mu_lt] at this
      have hbp : ∀ V B' d', IntsAt V B' (spL k ls q).length (ints (spL k ls q)) → Calls Try.prog 43 #[.agg #[.slice A k c, .int .i64 q.need, .int .i64 q.gap, .int .i64 q.doubt, .int .i64 q.joins, .int .i64 q.least], .slice B' (spL k ls q).length d'] V (BkRet (spL k ls q).length (ints (bkN k (spL k ls q))) V) := fun V B' d' hI => by
        have hlm := sp_len k ls q
        have := back_c A B' k c _ d' q _ V (by omega) (by omega) hI (fun j hj => by rw [ints_at (List.getElem?_eq_getElem hj)]; have := sp_lt _ (List.getElem_mem hj); omega)
        rwa [bk_ints sp_lt] at this
      have hml := mu_len k ls q
      have hsl := sp_len k ls q
      have hmk : (bkN k (muL k ls q)).length = (muL k ls q).length := by simp [bkN]
      have hsk : (bkN k (spL k ls q)).length = (spL k ls q).length := by simp [bkN]
      have HRT := Lib.hid (fun (h : isR k m l = true) => back_vals HCK.out hl HXI.out.1 h)
      have hbx : isR k m l = true → ∀ V, Below wc.heap.size wc V → Calls Try.prog 43 #[.agg #[.slice A k c, .int .i64 q.need, .int .i64 q.gap, .int .i64 q.doubt, .int .i64 q.joins, .int .i64 q.least], .slice B m d] V (BkRet m (bkL k l) V) := fun h V hV => back_c A B k c m d q l V (by omega) hm40 (hwX V hV) (isR_nn h)
      unfold LiRet at hma hmb hpa hpb
      unfold BkRet at hbm hbp hbx
      rw [hmk] at hmb
      rw [hsk] at hpb
      obtain ⟨R, hR⟩ : ∃ R, isR k m l = R := ⟨_, rfl⟩
      rw [hR] at hir HRT hbx
      obtain ⟨F, hF⟩ : ∃ F, (plC k ls q).length = F := ⟨_, rfl⟩
      obtain ⟨E, hE⟩ : ∃ E, erS k ls q = E := ⟨_, rfl⟩
      obtain ⟨⟨cv, ce⟩, hC⟩ : ∃ C, chR k ls q x0 x1 = C := ⟨_, rfl⟩
      obtain ⟨⟨sv, se⟩, hS⟩ : ∃ C, stR k ls q x2 = C := ⟨_, rfl⟩
      obtain ⟨MU, hMU⟩ : ∃ M, ints (bkN k (muL k ls q)) = M := ⟨_, rfl⟩
      obtain ⟨SP, hSP⟩ : ∃ M, ints (bkN k (spL k ls q)) = M := ⟨_, rfl⟩
      obtain ⟨mn, hmn⟩ : ∃ M, (muL k ls q).length = M := ⟨_, rfl⟩
      obtain ⟨sn, hsn⟩ : ∃ M, (spL k ls q).length = M := ⟨_, rfl⟩
      obtain ⟨LB, hLB⟩ : ∃ M, bkL k l = M := ⟨_, rfl⟩
      obtain ⟨LR, hLR⟩ : ∃ M, ls.reverse = M := ⟨_, rfl⟩
      rw [hF, hE] at hfa hfb
      rw [hC] at hca hcb
      rw [hS] at hsa hsb
      rw [hE] at hma hmb hpa hpb
      rw [hMU] at hmb hbm
      rw [hSP] at hpb hbp
      rw [hmn] at hma hmb hbm hml
      rw [hsn] at hpa hpb hbp hsl
      rw [hLB] at hgb hhb HRT hbx
      rw [hLR] at hgb hhb HRT
      have hsi : ∀ (M : List Int) (t : Nat) (Z : World) (B1 B2 : Option Addr) (c1 c2 : Nat), t ≤ 40 → IntsAt Z B1 t M → IntsAt Z B2 t M → Calls Try.prog 35 #[.slice B1 t c1, .slice B2 t c2] Z fun e Z' => e = .returned (.bool true) ∧ Below Z.heap.size Z Z' := fun M t Z B1 B2 c1 c2 ht h1 h2 => by
        have := SameInts_c B1 B2 t t c1 c2 M M Z ht ht h1 h2
        have e : (t == t && allN t fun k => iAt M k == iAt M k) = true := by rw [Bool.and_eq_true, allN_iff]; simp
        rwa [e] at this
      replace hfa := Lib.hid hfa
      replace hfb := Lib.hid hfb
      replace hca := Lib.hid hca
      replace hcb := Lib.hid hcb
      replace hsa := Lib.hid hsa
      replace hsb := Lib.hid hsb
      replace hma := Lib.hid hma
      replace hmb := Lib.hid hmb
      replace hpa := Lib.hid hpa
      replace hpb := Lib.hid hpb
      replace hir := Lib.hid hir
      replace hga := Lib.hid hga
      replace hha := Lib.hid hha
      replace hgb := Lib.hid hgb
      replace hhb := Lib.hid hhb
      replace hbm := Lib.hid hbm
      replace hbp := Lib.hid hbp
      replace hbx := Lib.hid hbx
      replace hsi := Lib.hid hsi
      have f4 : decide ((40 : Int) < mn) = false := by simp; omega
      have f5 : decide ((40 : Int) < sn) = false := by simp; omega
      have hm2 : mn ≤ 40 := by omega
      have hs2 : sn ≤ 40 := by omega
      clear c5_0 b5 o0 OZ NE lZ hbw hrd hl hwA hwB hwX hvV hmk hsk hR hF hE hC hS hMU hSP hmn hsn hLB hLR
      have d0_0 := fun j => (v0.cell (p := ⟨w.heap.size, j, none⟩) N0).trans (C0.out j)
      have d0_1 := fun j => (v0.cell (p := ⟨w.heap.size + 1, j, none⟩) N1).trans (C1.out j)
      have d0_g := fun j => (v0.cell (p := ⟨w3.heap.size, j, none⟩) Ng).trans (CG.out j)
      have y0 := v0.size
      go_wp2_with fail
      refine (hfa.out _ v0).mono ?_
      rintro e u1 ⟨rfl, hv1⟩
      have v1 : Below wc.heap.size wc u1 := v0.trans (hv1.mono y0)
      clear hv1 d0_0 d0_1 d0_g
      have d1_0 := fun j => (v1.cell (p := ⟨w.heap.size, j, none⟩) N0).trans (C0.out j)
      have d1_1 := fun j => (v1.cell (p := ⟨w.heap.size + 1, j, none⟩) N1).trans (C1.out j)
      have d1_g := fun j => (v1.cell (p := ⟨w3.heap.size, j, none⟩) Ng).trans (CG.out j)
      have y1 := v1.size
      go_wp2_with fail
      refine (hfb.out _ v1).mono ?_
      rintro e u2 ⟨rfl, hv2⟩
      have v2 : Below wc.heap.size wc u2 := v1.trans (hv2.mono y1)
      clear hv2 d1_0 d1_1 d1_g
      have d2_0 := fun j => (v2.cell (p := ⟨w.heap.size, j, none⟩) N0).trans (C0.out j)
      have d2_1 := fun j => (v2.cell (p := ⟨w.heap.size + 1, j, none⟩) N1).trans (C1.out j)
      have d2_g := fun j => (v2.cell (p := ⟨w3.heap.size, j, none⟩) Ng).trans (CG.out j)
      have y2 := v2.size
      go_wp2_with fail
      refine (hca.out _ v2).mono ?_
      rintro e u3 ⟨rfl, hv3⟩
      have v3 : Below wc.heap.size wc u3 := v2.trans (hv3.mono y2)
      clear hv3 d2_0 d2_1 d2_g
      have d3_0 := fun j => (v3.cell (p := ⟨w.heap.size, j, none⟩) N0).trans (C0.out j)
      have d3_1 := fun j => (v3.cell (p := ⟨w.heap.size + 1, j, none⟩) N1).trans (C1.out j)
      have d3_g := fun j => (v3.cell (p := ⟨w3.heap.size, j, none⟩) Ng).trans (CG.out j)
      have y3 := v3.size
      go_wp2_with fail
      refine (hcb.out _ v3).mono ?_
      rintro e u4 ⟨rfl, hv4⟩
      have v4 : Below wc.heap.size wc u4 := v3.trans (hv4.mono y3)
      clear hv4 d3_0 d3_1 d3_g
      have d4_0 := fun j => (v4.cell (p := ⟨w.heap.size, j, none⟩) N0).trans (C0.out j)
      have d4_1 := fun j => (v4.cell (p := ⟨w.heap.size + 1, j, none⟩) N1).trans (C1.out j)
      have d4_g := fun j => (v4.cell (p := ⟨w3.heap.size, j, none⟩) Ng).trans (CG.out j)
      have y4 := v4.size
      go_wp2_with fail
      refine (hsa.out _ v4).mono ?_
      rintro e u5 ⟨rfl, hv5⟩
      have v5 : Below wc.heap.size wc u5 := v4.trans (hv5.mono y4)
      clear hv5 d4_0 d4_1 d4_g
      have d5_0 := fun j => (v5.cell (p := ⟨w.heap.size, j, none⟩) N0).trans (C0.out j)
      have d5_1 := fun j => (v5.cell (p := ⟨w.heap.size + 1, j, none⟩) N1).trans (C1.out j)
      have d5_g := fun j => (v5.cell (p := ⟨w3.heap.size, j, none⟩) Ng).trans (CG.out j)
      have y5 := v5.size
      go_wp2_with fail
      refine (hsb.out _ v5).mono ?_
      rintro e u6 ⟨rfl, hv6⟩
      have v6 : Below wc.heap.size wc u6 := v5.trans (hv6.mono y5)
      clear hv6 d5_0 d5_1 d5_g
      have d6_0 := fun j => (v6.cell (p := ⟨w.heap.size, j, none⟩) N0).trans (C0.out j)
      have d6_1 := fun j => (v6.cell (p := ⟨w.heap.size + 1, j, none⟩) N1).trans (C1.out j)
      have d6_g := fun j => (v6.cell (p := ⟨w3.heap.size, j, none⟩) Ng).trans (CG.out j)
      have y6 := v6.size
      go_wp2_with fail
      refine (hma.out _ v6).mono ?_
      rintro e u7 ⟨E7, k7, rfl, hI, hv7⟩
      have v7 : Below wc.heap.size wc u7 := v6.trans (hv7.mono y6)
      have I7 := Lib.hid hI
      clear hI d6_0 d6_1 d6_g
      have d7_0 := fun j => (v7.cell (p := ⟨w.heap.size, j, none⟩) N0).trans (C0.out j)
      have d7_1 := fun j => (v7.cell (p := ⟨w.heap.size + 1, j, none⟩) N1).trans (C1.out j)
      have d7_g := fun j => (v7.cell (p := ⟨w3.heap.size, j, none⟩) Ng).trans (CG.out j)
      have y7 := v7.size
      clear hv7
      go_wp2_with fail
      refine (hmb.out _ v7).mono ?_
      rintro e u8 ⟨E8, k8, rfl, hI, hv8⟩
      have v8 : Below wc.heap.size wc u8 := v7.trans (hv8.mono y7)
      have I8 := Lib.hid hI
      clear hI d7_0 d7_1 d7_g
      have d8_0 := fun j => (v8.cell (p := ⟨w.heap.size, j, none⟩) N0).trans (C0.out j)
      have d8_1 := fun j => (v8.cell (p := ⟨w.heap.size + 1, j, none⟩) N1).trans (C1.out j)
      have d8_g := fun j => (v8.cell (p := ⟨w3.heap.size, j, none⟩) Ng).trans (CG.out j)
      have y8 := v8.size
      have I78 := Lib.hid (I7.out.later hv8)
      clear hv8 I7
      go_wp2_with fail
      refine (hpa.out _ v8).mono ?_
      rintro e u9 ⟨E9, k9, rfl, hI, hv9⟩
      have v9 : Below wc.heap.size wc u9 := v8.trans (hv9.mono y8)
      have I9 := Lib.hid hI
      clear hI d8_0 d8_1 d8_g
      have d9_0 := fun j => (v9.cell (p := ⟨w.heap.size, j, none⟩) N0).trans (C0.out j)
      have d9_1 := fun j => (v9.cell (p := ⟨w.heap.size + 1, j, none⟩) N1).trans (C1.out j)
      have d9_g := fun j => (v9.cell (p := ⟨w3.heap.size, j, none⟩) Ng).trans (CG.out j)
      have y9 := v9.size
      have I79 := Lib.hid (I78.out.later hv9)
      have I89 := Lib.hid (I8.out.later hv9)
      clear hv9 I78 I8
      go_wp2_with fail
      refine (hpb.out _ v9).mono ?_
      rintro e u10 ⟨E10, k10, rfl, hI, hv10⟩
      have v10 : Below wc.heap.size wc u10 := v9.trans (hv10.mono y9)
      have I10 := Lib.hid hI
      clear hI d9_0 d9_1 d9_g
      have d10_0 := fun j => (v10.cell (p := ⟨w.heap.size, j, none⟩) N0).trans (C0.out j)
      have d10_1 := fun j => (v10.cell (p := ⟨w.heap.size + 1, j, none⟩) N1).trans (C1.out j)
      have d10_g := fun j => (v10.cell (p := ⟨w3.heap.size, j, none⟩) Ng).trans (CG.out j)
      have y10 := v10.size
      have I7A := Lib.hid (I79.out.later hv10)
      have I8A := Lib.hid (I89.out.later hv10)
      have I9A := Lib.hid (I9.out.later hv10)
      clear hv10 I79 I89 I9
      go_wp2_with fail
      refine (hbm.out _ _ _ I7A.out).mono ?_
      rintro e u11 ⟨E11, k11, rfl, hI, hv11⟩
      have v11 : Below wc.heap.size wc u11 := v10.trans (hv11.mono y10)
      have I11 := Lib.hid hI
      clear hI d10_0 d10_1 d10_g
      have d11_0 := fun j => (v11.cell (p := ⟨w.heap.size, j, none⟩) N0).trans (C0.out j)
      have d11_1 := fun j => (v11.cell (p := ⟨w.heap.size + 1, j, none⟩) N1).trans (C1.out j)
      have d11_g := fun j => (v11.cell (p := ⟨w3.heap.size, j, none⟩) Ng).trans (CG.out j)
      have y11 := v11.size
      have I8B := Lib.hid (I8A.out.later hv11)
      have I9B := Lib.hid (I9A.out.later hv11)
      have IAB := Lib.hid (I10.out.later hv11)
      clear hv11 I7A I8A I9A I10
      go_wp2_with fail
      refine (hsi.out _ _ _ _ _ _ _ hm2 I11.out I8B.out).mono ?_
      rintro e u12 ⟨rfl, hv12⟩
      have v12 : Below wc.heap.size wc u12 := v11.trans (hv12.mono y11)
      have I9C := Lib.hid (I9B.out.later hv12)
      have IAC := Lib.hid (IAB.out.later hv12)
      clear hv12 d11_0 d11_1 d11_g I11 I8B I9B IAB
      have d12_0 := fun j => (v12.cell (p := ⟨w.heap.size, j, none⟩) N0).trans (C0.out j)
      have d12_1 := fun j => (v12.cell (p := ⟨w.heap.size + 1, j, none⟩) N1).trans (C1.out j)
      have d12_g := fun j => (v12.cell (p := ⟨w3.heap.size, j, none⟩) Ng).trans (CG.out j)
      have y12 := v12.size
      go_wp2_with fail
      refine (hbp.out _ _ _ I9C.out).mono ?_
      rintro e u13 ⟨E13, k13, rfl, hI, hv13⟩
      have v13 : Below wc.heap.size wc u13 := v12.trans (hv13.mono y12)
      have I13 := Lib.hid hI
      clear hI d12_0 d12_1 d12_g
      have d13_0 := fun j => (v13.cell (p := ⟨w.heap.size, j, none⟩) N0).trans (C0.out j)
      have d13_1 := fun j => (v13.cell (p := ⟨w.heap.size + 1, j, none⟩) N1).trans (C1.out j)
      have d13_g := fun j => (v13.cell (p := ⟨w3.heap.size, j, none⟩) Ng).trans (CG.out j)
      have y13 := v13.size
      have IAD := Lib.hid (IAC.out.later hv13)
      clear hv13 I9C IAC
      go_wp2_with fail
      refine (hsi.out _ _ _ _ _ _ _ hs2 I13.out IAD.out).mono ?_
      rintro e u14 ⟨rfl, hv14⟩
      have v14 : Below wc.heap.size wc u14 := v13.trans (hv14.mono y13)
      clear hv14 d13_0 d13_1 d13_g
      have d14_0 := fun j => (v14.cell (p := ⟨w.heap.size, j, none⟩) N0).trans (C0.out j)
      have d14_1 := fun j => (v14.cell (p := ⟨w.heap.size + 1, j, none⟩) N1).trans (C1.out j)
      have d14_g := fun j => (v14.cell (p := ⟨w3.heap.size, j, none⟩) Ng).trans (CG.out j)
      have y14 := v14.size
      clear I13 IAD
      go_wp2_with fail
      refine (hir.out _ v14).mono ?_
      rintro e u15 ⟨rfl, hv15⟩
      have v15 : Below wc.heap.size wc u15 := v14.trans (hv15.mono y14)
      clear hv15 d14_0 d14_1 d14_g
      have d15_0 := fun j => (v15.cell (p := ⟨w.heap.size, j, none⟩) N0).trans (C0.out j)
      have d15_1 := fun j => (v15.cell (p := ⟨w.heap.size + 1, j, none⟩) N1).trans (C1.out j)
      have d15_g := fun j => (v15.cell (p := ⟨w3.heap.size, j, none⟩) Ng).trans (CG.out j)
      have y15 := v15.size
      cases R
      · go_wp2_with fail
        refine (hwk.out _).mono ?_
        rintro e u99 ⟨rfl, hb99⟩
        go_wp2
        go_ret
        exact ⟨rfl, BW.trans (Below.mono (v15.trans (hb99.mono y15)) zc)⟩
      obtain ⟨g1, g2, g3, g4⟩ := HRT.out rfl
      rw [g1] at hga hha
      rw [g2, g3] at hgb
      rw [g2, g4] at hhb
      replace hbx := Lib.hid (hbx.out rfl)
      obtain ⟨G, hG⟩ : ∃ G, gvG k m ls q l = G := ⟨_, rfl⟩
      obtain ⟨S, hS⟩ : ∃ G, gvS k m ls q l = G := ⟨_, rfl⟩
      rw [hG] at hga hgb
      rw [hS] at hha hhb
      clear g1 g2 g3 g4 hG hS
      go_wp2_with fail
      refine (hga.out _ v15).mono ?_
      rintro e u16 ⟨rfl, hv16⟩
      have v16 : Below wc.heap.size wc u16 := v15.trans (hv16.mono y15)
      clear hv16 d15_0 d15_1 d15_g
      have d16_0 := fun j => (v16.cell (p := ⟨w.heap.size, j, none⟩) N0).trans (C0.out j)
      have d16_1 := fun j => (v16.cell (p := ⟨w.heap.size + 1, j, none⟩) N1).trans (C1.out j)
      have d16_g := fun j => (v16.cell (p := ⟨w3.heap.size, j, none⟩) Ng).trans (CG.out j)
      have y16 := v16.size
      go_upto_region 25 with (fail)
      go_region_held3 (fun w' => (∀ j, w'.cell? ⟨w.heap.size, j, none⟩ = #[Value.slice A k c, .int .i64 q.need, .int .i64 q.gap, .int .i64 q.doubt, .int .i64 q.joins, .int .i64 q.least][j]?) ∧
          (∀ j, w'.cell? ⟨w3.heap.size, j, none⟩ = #[Value.slice A1 k k1, .int .i64 q.need, .int .i64 q.gap, .int .i64 q.doubt, .int .i64 q.joins, .int .i64 q.least][j]?))
        (first | with_reducible exact ⟨d16_0, d16_g⟩ | exact ⟨fun j => (va.cell (p := ⟨w.heap.size, j, none⟩) N0).trans (C0.out j), fun j => (va.cell (p := ⟨w3.heap.size, j, none⟩) Ng).trans (CG.out j)⟩ | exact ⟨fun j => (v17.cell (p := ⟨w.heap.size, j, none⟩) N0).trans (C0.out j), fun j => (v17.cell (p := ⟨w3.heap.size, j, none⟩) Ng).trans (CG.out j)⟩ | go_keep)
        (first | (go_at_call 43; refine (hbx.out _ (by (repeat first | with_reducible assumption | with_reducible exact Below.refl _ _ | (with_reducible refine Below.alloc ?_ ?side _; case side => (first | omega | (with_reducible exact Below.size (by assumption)) | (simp; done) | (simp; omega))) | (with_reducible refine Below.setCell ?_ ?side _; case side => (first | omega | (with_reducible exact Below.size (by assumption)) | (simp; done) | (simp; omega))) | with_reducible refine Below.drew ?_ | with_reducible refine below_drewN ?_ _ | (with_reducible refine below_step (by assumption) ?side ?_; case side => (first | omega | (with_reducible exact Below.size (by assumption)) | (simp; done) | (simp; omega)))))).mono ?_; (rintro e ua ⟨Ea, ka, rfl, hIa, hva⟩); (have va : Below wc.heap.size wc ua := Below.trans (by (repeat first | with_reducible assumption | with_reducible exact Below.refl _ _ | (with_reducible refine Below.alloc ?_ ?side _; case side => (first | omega | (with_reducible exact Below.size (by assumption)) | (simp; done) | (simp; omega))) | (with_reducible refine Below.setCell ?_ ?side _; case side => (first | omega | (with_reducible exact Below.size (by assumption)) | (simp; done) | (simp; omega))) | with_reducible refine Below.drew ?_ | with_reducible refine below_drewN ?_ _ | (with_reducible refine below_step (by assumption) ?side ?_; case side => (first | omega | (with_reducible exact Below.size (by assumption)) | (simp; done) | (simp; omega))))) (hva.mono (by first | exact y16 | (simp; exact y16)))); (have Ia := Lib.hid hIa); clear hva hIa) | (go_at_call 28; refine (hgb.out _ _ _ (by (repeat first | with_reducible assumption | with_reducible exact Below.refl _ _ | (with_reducible refine Below.alloc ?_ ?side _; case side => (first | omega | (with_reducible exact Below.size (by assumption)) | (simp; done) | (simp; omega))) | (with_reducible refine Below.setCell ?_ ?side _; case side => (first | omega | (with_reducible exact Below.size (by assumption)) | (simp; done) | (simp; omega))) | with_reducible refine Below.drew ?_ | with_reducible refine below_drewN ?_ _ | (with_reducible refine below_step (by assumption) ?side ?_; case side => (first | omega | (with_reducible exact Below.size (by assumption)) | (simp; done) | (simp; omega))))) (by first | exact Ia.out | exact Ia.out.drew)).mono ?_; (rintro e u17 ⟨rfl, hv17⟩); (have ya := va.size); (have v17 : Below wc.heap.size wc u17 := Below.trans (by (repeat first | with_reducible assumption | with_reducible exact Below.refl _ _ | (with_reducible refine Below.alloc ?_ ?side _; case side => (first | omega | (with_reducible exact Below.size (by assumption)) | (simp; done) | (simp; omega))) | (with_reducible refine Below.setCell ?_ ?side _; case side => (first | omega | (with_reducible exact Below.size (by assumption)) | (simp; done) | (simp; omega))) | with_reducible refine Below.drew ?_ | with_reducible refine below_drewN ?_ _ | (with_reducible refine below_step (by assumption) ?side ?_; case side => (first | omega | (with_reducible exact Below.size (by assumption)) | (simp; done) | (simp; omega))))) (hv17.mono (by first | exact ya | (simp; exact ya)))); clear hv17))
      clear d16_0 d16_1 d16_g
      clear va Ia ya
      have d17_0 := fun j => (v17.cell (p := ⟨w.heap.size, j, none⟩) N0).trans (C0.out j)
      have d17_1 := fun j => (v17.cell (p := ⟨w.heap.size + 1, j, none⟩) N1).trans (C1.out j)
      have d17_g := fun j => (v17.cell (p := ⟨w3.heap.size, j, none⟩) Ng).trans (CG.out j)
      have y17 := v17.size
      go_wp2_with fail
      refine (hha.out _ v17).mono ?_
      rintro e u18 ⟨rfl, hv18⟩
      have v18 : Below wc.heap.size wc u18 := v17.trans (hv18.mono y17)
      clear hv18 d17_0 d17_1 d17_g
      have d18_0 := fun j => (v18.cell (p := ⟨w.heap.size, j, none⟩) N0).trans (C0.out j)
      have d18_1 := fun j => (v18.cell (p := ⟨w.heap.size + 1, j, none⟩) N1).trans (C1.out j)
      have d18_g := fun j => (v18.cell (p := ⟨w3.heap.size, j, none⟩) Ng).trans (CG.out j)
      have y18 := v18.size
      go_upto_region 27 with (fail)
      go_region_held3 (fun w' => (∀ j, w'.cell? ⟨w.heap.size, j, none⟩ = #[Value.slice A k c, .int .i64 q.need, .int .i64 q.gap, .int .i64 q.doubt, .int .i64 q.joins, .int .i64 q.least][j]?) ∧
          (∀ j, w'.cell? ⟨w3.heap.size, j, none⟩ = #[Value.slice A1 k k1, .int .i64 q.need, .int .i64 q.gap, .int .i64 q.doubt, .int .i64 q.joins, .int .i64 q.least][j]?))
        (first | with_reducible exact ⟨d18_0, d18_g⟩ | exact ⟨fun j => (va.cell (p := ⟨w.heap.size, j, none⟩) N0).trans (C0.out j), fun j => (va.cell (p := ⟨w3.heap.size, j, none⟩) Ng).trans (CG.out j)⟩ | exact ⟨fun j => (v19.cell (p := ⟨w.heap.size, j, none⟩) N0).trans (C0.out j), fun j => (v19.cell (p := ⟨w3.heap.size, j, none⟩) Ng).trans (CG.out j)⟩ | go_keep)
        (first | (go_at_call 43; refine (hbx.out _ (by (repeat first | with_reducible assumption | with_reducible exact Below.refl _ _ | (with_reducible refine Below.alloc ?_ ?side _; case side => (first | omega | (with_reducible exact Below.size (by assumption)) | (simp; done) | (simp; omega))) | (with_reducible refine Below.setCell ?_ ?side _; case side => (first | omega | (with_reducible exact Below.size (by assumption)) | (simp; done) | (simp; omega))) | with_reducible refine Below.drew ?_ | with_reducible refine below_drewN ?_ _ | (with_reducible refine below_step (by assumption) ?side ?_; case side => (first | omega | (with_reducible exact Below.size (by assumption)) | (simp; done) | (simp; omega)))))).mono ?_; (rintro e ua ⟨Ea, ka, rfl, hIa, hva⟩); (have va : Below wc.heap.size wc ua := Below.trans (by (repeat first | with_reducible assumption | with_reducible exact Below.refl _ _ | (with_reducible refine Below.alloc ?_ ?side _; case side => (first | omega | (with_reducible exact Below.size (by assumption)) | (simp; done) | (simp; omega))) | (with_reducible refine Below.setCell ?_ ?side _; case side => (first | omega | (with_reducible exact Below.size (by assumption)) | (simp; done) | (simp; omega))) | with_reducible refine Below.drew ?_ | with_reducible refine below_drewN ?_ _ | (with_reducible refine below_step (by assumption) ?side ?_; case side => (first | omega | (with_reducible exact Below.size (by assumption)) | (simp; done) | (simp; omega))))) (hva.mono (by first | exact y18 | (simp; exact y18)))); (have Ia := Lib.hid hIa); clear hva hIa) | (go_at_call 33; refine (hhb.out _ _ _ (by (repeat first | with_reducible assumption | with_reducible exact Below.refl _ _ | (with_reducible refine Below.alloc ?_ ?side _; case side => (first | omega | (with_reducible exact Below.size (by assumption)) | (simp; done) | (simp; omega))) | (with_reducible refine Below.setCell ?_ ?side _; case side => (first | omega | (with_reducible exact Below.size (by assumption)) | (simp; done) | (simp; omega))) | with_reducible refine Below.drew ?_ | with_reducible refine below_drewN ?_ _ | (with_reducible refine below_step (by assumption) ?side ?_; case side => (first | omega | (with_reducible exact Below.size (by assumption)) | (simp; done) | (simp; omega))))) (by first | exact Ia.out | exact Ia.out.drew)).mono ?_; (rintro e u19 ⟨rfl, hv19⟩); (have ya := va.size); (have v19 : Below wc.heap.size wc u19 := Below.trans (by (repeat first | with_reducible assumption | with_reducible exact Below.refl _ _ | (with_reducible refine Below.alloc ?_ ?side _; case side => (first | omega | (with_reducible exact Below.size (by assumption)) | (simp; done) | (simp; omega))) | (with_reducible refine Below.setCell ?_ ?side _; case side => (first | omega | (with_reducible exact Below.size (by assumption)) | (simp; done) | (simp; omega))) | with_reducible refine Below.drew ?_ | with_reducible refine below_drewN ?_ _ | (with_reducible refine below_step (by assumption) ?side ?_; case side => (first | omega | (with_reducible exact Below.size (by assumption)) | (simp; done) | (simp; omega))))) (hv19.mono (by first | exact ya | (simp; exact ya)))); clear hv19))
      clear d18_0 d18_1 d18_g
      clear va Ia ya
      have d19_0 := fun j => (v19.cell (p := ⟨w.heap.size, j, none⟩) N0).trans (C0.out j)
      have d19_1 := fun j => (v19.cell (p := ⟨w.heap.size + 1, j, none⟩) N1).trans (C1.out j)
      have d19_g := fun j => (v19.cell (p := ⟨w3.heap.size, j, none⟩) Ng).trans (CG.out j)
      have y19 := v19.size
      go_wp2_with fail
      refine (hwk.out _).mono ?_
      rintro e u99 ⟨rfl, hb99⟩
      go_wp2
      go_ret
      exact ⟨rfl, BW.trans (Below.mono (v19.trans (hb99.mono y19)) zc)⟩

end Go.Proofs.Ythjjakhmbgnnnaa
