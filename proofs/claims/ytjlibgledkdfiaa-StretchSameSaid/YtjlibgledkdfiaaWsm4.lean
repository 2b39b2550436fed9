/- StretchSame of the statements (layer 4), walked. -/
import Derived.Test.YtjlibgledkdfiaaCy4
import Derived.Test.YtjlibgledkdfiaaTq4
import Derived.Shelf.Abstract
import Derived.Laws.EntriesVeiled
import Derived.Handy
import Derived.Deep.DrawnRows
import Derived.Deep.DeepCutAuto
namespace Go.Proofs.Ytjlibgledkdfiaa
open Go.RowKit
open Go.Sort (grow)
set_option linter.unusedVariables false

theorem rt4_zero {ir gr : Int} {x : Re4} {len rod : Int} (h0 : x.lo = 0) (h1 : x.hi = 0) (h : rt4 ir gr x len rod = true) : -x.of ≤ len - sy4 x rod ∧ len - sy4 x rod ≤ x.of := by
  unfold rt4 at h
  rw [h0, h1, List.any_eq_true] at h
  obtain ⟨t, ht, h⟩ := h
  have := ups_mem.1 ht
  obtain rfl : t = 0 := by omega
  unfold ok4t dt4 at h
  simp only [Bool.and_eq_true, decide_eq_true_eq, Int.mul_zero, Int.add_zero] at h
  generalize sy4 x rod = s at h ⊢
  omega
/-- the two readings of one rod -/
def pair4 (rod ct bf af fi se : Int) : List Re4 := [⟨1, rod, ct, bf, fi, 0, 0⟩, ⟨2, rod, ct, af, se, 0, 0⟩]
theorem pair4_at {rs : List Re4} {rod ct bf af fi se : Int} : reAt (rs ++ pair4 rod ct bf af fi se) rs.length = ⟨1, rod, ct, bf, fi, 0, 0⟩ ∧ reAt (rs ++ pair4 rod ct bf af fi se) (rs.length + 1) = ⟨2, rod, ct, af, se, 0, 0⟩ := by
  unfold reAt pair4
  constructor
  · rw [List.getD_eq_getElem?_getD, List.getElem?_append_right (Nat.le_refl _), Nat.sub_self]; rfl
  · rw [List.getD_eq_getElem?_getD, List.getElem?_append_right (by omega), Nat.add_sub_cancel_left]; rfl
theorem same4_law {p : P4} {rs : List Re4} {rod ct bf af fi se : Int} (hp : p.res = rs ++ pair4 rod ct bf af fi se) (hw : p.wr = 0) {u : W4} {b a : Int} (ht : Tr4 p u b a) : (af - bf) - (fi + se) ≤ a - b ∧ a - b ≤ (af - bf) + (fi + se) := by
  obtain ⟨-, -, -, hz⟩ := ht
  rw [hw] at hz
  have l1 : p.res.length = rs.length + 2 := by rw [hp]; simp [pair4]
  have r1 : reAt p.res rs.length = ⟨1, rod, ct, bf, fi, 0, 0⟩ := by rw [hp]; exact pair4_at.1
  have r2 : reAt p.res (rs.length + 1) = ⟨2, rod, ct, af, se, 0, 0⟩ := by rw [hp]; exact pair4_at.2
  have g1 := wr4_zero (p := p) (wh := 1) (u := u) (l := b) (by omega) (j := rs.length) (by omega) (by rw [r1])
  have g2 := wr4_zero (p := p) (wh := 2) (u := u) (l := a) (by omega) (j := rs.length + 1) (by omega) (by rw [r2])
  unfold rg4 at g1 g2
  rw [r1] at g1
  rw [r2] at g2
  have k1 := rt4_zero rfl rfl g1
  have k2 := rt4_zero rfl rfl g2
  simp only [sy4] at k1 k2
  generalize ct * u.at_ rod.toNat = z at k1 k2
  omega
set_option maxRecDepth 100000 in
set_option maxHeartbeats 3200000 in
theorem strsame4_c (Ar : Option Addr) (nr cr : Nat) (Ad : Option Addr) (nd cd : Nat) (p : P4) (rod ct bf af fi se : Int) (w : World) (HM : MemP Ar nr Ad nd p w) (h1 : nr * 24 ≤ 140737488351232) (h2 : nd * 56 ≤ 140737488351232) :
    Calls Try.prog 3 #[.agg #[.int .i64 p.ir, .int .i64 p.glo, .int .i64 p.ghi, .slice Ar nr cr, .slice Ad nd cd, .int .i64 p.wr], .agg #[.int .i64 rod, .int .i64 ct, .int .i64 bf, .int .i64 af, .int .i64 fi, .int .i64 se]] w fun e w' => e = .returned (.bool true) ∧ Below w.heap.size w w' := by
  have HCP := Lib.hid (fun V (hV : Below w.heap.size w V) => Copy4_c Ar nr cr Ad nd cd p V (by omega) (by omega) (HM.later hV))
  have hr := HM.hr.1
  have hd := HM.hd.1
  clear HM
  obtain ⟨ir, glo, ghi, wrg, rods, res⟩ := p
  simp only at HCP hr hd ⊢
  obtain ⟨P', hP⟩ : ∃ P', P' = (⟨ir, glo, ghi, 0, rods, res ++ pair4 rod ct bf af fi se⟩ : P4) := ⟨_, rfl⟩
  have e1 : P'.ir = ir := by rw [hP]
  have e2 : P'.glo = glo := by rw [hP]
  have e3 : P'.ghi = ghi := by rw [hP]
  have e4 : P'.wr = 0 := by rw [hP]
  have e5 : P'.rods = rods := by rw [hP]
  have e6 : P'.res = res ++ pair4 rod ct bf af fi se := by rw [hP]
  have HRD := fun A1 c1 A8 C8 V (h : MemP A1 nr A8 (nd + 2) P' V) => ready4_c A1 nr c1 A8 (nd + 2) C8 P' V h
  rw [e1, e2, e3, e4] at HRD
  have HMP : Hid (∀ base A1 c1 A8 C8 V, PuOwn base A1 nr c1 A8 (nd + 2) C8 rods (res ++ pair4 rod ct bf af fi se) V → MemP A1 nr A8 (nd + 2) P' V) := Lib.hid (fun base A1 c1 A8 C8 V h => PuOwn.mem (p := P') (by rw [e5, e6]; exact h) (by rw [e5]; exact hr) (by rw [e6]; simp [pair4]; exact hd))
  have HLEN : Hid ((res ++ pair4 rod ct bf af fi se).length = nd + 2) := Lib.hid (by simp [pair4]; exact hd)
  cases hrd : ready4 P'
  · rw [hrd] at HRD
    replace HRD := Lib.hid HRD
    clear hP e1 e2 e3 e4 e5 e6 hr hd hrd
    go_enter Try.func3, Try.ntmps3
    go_upto_region 1 with (fail)
    go_name_world X hX
    have BX : Below w.heap.size w X := (al2 hX).1
    have zX := (al2 hX).2
    have qX0 := (al2_0 hX).2.1
    have lX0 := (al2_0 hX).1
    have HPR : Hid (Blk X (w.heap.size + 1) 29 #[.int .i64 rod, .int .i64 ct, .int .i64 bf, .int .i64 af, .int .i64 fi, .int .i64 se]) := by
      rw [← hX]
      have := Blk.new (w.alloc (.cells #[.int .i64 ir, .int .i64 glo, .int .i64 ghi, .slice Ar nr cr, .slice Ad nd cd, .int .i64 wrg] 27)) 29 #[.int .i64 rod, .int .i64 ct, .int .i64 bf, .int .i64 af, .int .i64 fi, .int .i64 se]
      rw [World.size_alloc] at this
      exact this
    have ZX := Lib.hid zX
    clear hX zX
    go_upto_region 2 with (go_at_call 11; refine (HCP.out X BX).mono ?_; (rintro e w1 ⟨A1, c1, A2, c2, rfl, hO, hb1⟩); (have z1 := hb1.size); (have HPR1 := Lib.hid (HPR.out.below hb1 HPR.out.lt)); (have B1 := BX.trans (hb1.mono BX.size)); (have HO1 := Lib.hid hO); clear hb1 hO qX0 lX0)
    go_name_world Y hY
    have BY : Below w1.heap.size w1 Y := (al1 hY).1
    have zY : Y.heap.size = w1.heap.size + 1 := (al1 hY).2
    have HOY := Lib.hid (HO1.out.later BY)
    have HPRY := Lib.hid (HPR1.out.below BY HPR1.out.lt)
    have BwY := B1.trans (BY.mono B1.size)
    have HBY : Hid (Blk Y w1.heap.size 27 #[.int .i64 ir, .int .i64 glo, .int .i64 ghi, .slice A1 nr c1, .slice A2 nd c2, .int .i64 wrg]) := by rw [← hY]; exact Lib.hid (Blk.new _ _ _)
    have HOL : Hid (∀ k, ((Value.slice A1 nr c1).ownBlock = some k ∨ (Value.slice A2 nd c2).ownBlock = some k) → X.heap.size ≤ k ∧ k ≠ w1.heap.size) := Lib.hid (fun k h => by
      have h1 := HO1.out.hp.lt k
      have h2 := HO1.out.hl.lt k
      rcases h with h | h
      · have := h1 h; omega
      · have := h2 h; omega)
    have hX1 : w.heap.size + 1 < X.heap.size := by have := ZX.out; omega
    have kY := HBY.out.cell
    have fY := HBY.out.frozen
    have pY := HPRY.out.cell
    have gY := HPRY.out.lt
    have lY := HBY.out.lt
    have hne : w.heap.size + 1 ≠ w1.heap.size := by omega
    have BYs := Lib.hid zY
    clear hY BY HPR HPR1 zY
    go_upto_region 4 with (at_builtin; go_must (refine wpList_append_B _ (d := (⟨0, 0, 0, 0, 0, 0, 0⟩ : Re4)) rfl (.tmp 14) (.tmp 33) _ rfl X.heap.size _ 7 56 reE encE4_len encE4_one (.slice A2 nd c2) (Value.slice A2 nd c2).ownBlock nd res rfl rfl ?ow _ 2 _ (pair4 rod ct bf af fi se) rfl ?sl ?sz ?sl2 ?sz2 ?_; (case ow => exact (own_set HOY.out.hl (fun k hk => (HOL.out k (.inr hk)).2)).alloc _); (case sl => exact sl_new encE4_len (by first | rfl | simp) rfl rfl); (case sz => omega); (case sl2 => omega); (case sz2 => go_size); (rintro v8 w8 ho8 hg8 ha8); (obtain ⟨A8, C8, rfl, -, -⟩ := SlAt.of_own (d := (⟨0, 0, 0, 0, 0, 0, 0⟩ : Re4)) encE4_len ho8 HLEN.out); (have z8 := hg8.size); (simp only [World.size_alloc, World.size_setCell] at z8); (have HO8 := Lib.hid ho8); (have HR8 := Lib.hid (((own_set HOY.out.hp (p := ⟨w1.heap.size, 5, none⟩) (u := .int .i64 0) (fun k hk => (HOL.out k (.inl hk)).2)).alloc _).kept hg8 HOY.out.ne1)); (have HN8 := Lib.hid ha8); (have HB8 := Lib.hid (((HBY.out.set_ 5 (.int .i64 0)).alloc _).grown hg8 (fun e => (HOL.out _ (.inr e.symm)).2 rfl))); (have HP8 := Lib.hid (((HPRY.out.far (p := ⟨w1.heap.size, 5, none⟩) hne (.int .i64 0)).alloc _).grown hg8 (fun e => by have := (HOL.out _ (.inr e.symm)).1; omega))); (have B8 : Below w.heap.size w w8 := Below.grown (by (repeat first | with_reducible assumption | with_reducible exact Below.refl _ _ | (with_reducible refine Below.alloc ?_ ?side _; case side => (first | omega | (with_reducible exact Below.size (by assumption)) | (simp; done) | (simp; omega))) | (with_reducible refine Below.setCell ?_ ?side _; case side => (first | omega | (with_reducible exact Below.size (by assumption)) | (simp; done) | (simp; omega))) | with_reducible refine Below.drew ?_ | with_reducible refine below_drewN ?_ _ | (with_reducible refine below_step (by assumption) ?side ?_; case side => (first | omega | (with_reducible exact Below.size (by assumption)) | (simp; done) | (simp; omega))))) hg8 (by go_size) (fun k hk => by have := (HOL.out k (.inr hk)).1; omega)); (have k8 := HB8.out.cell); (have f8 := HB8.out.frozen); (have l8 := HB8.out.lt); clear ho8 hg8 ha8 kY fY pY gY lY))
    go_name_world Z hZ
    have zZ : Z.heap.size = w8.heap.size := by rw [← hZ]; simp
    have HBZ : Hid (Blk Z w1.heap.size 27 #[.int .i64 ir, .int .i64 glo, .int .i64 ghi, .slice A1 nr c1, .slice A8 (nd + 2) C8, .int .i64 0]) := Lib.hid (by rw [← hZ]; simpa using HB8.out.set_ 4 (.slice A8 (nd + 2) C8))
    have HPZ : Hid (Blk Z (w.heap.size + 1) 29 #[.int .i64 rod, .int .i64 ct, .int .i64 bf, .int .i64 af, .int .i64 fi, .int .i64 se]) := Lib.hid (by rw [← hZ]; exact HP8.out.far hne _)
    have BZ : Below w.heap.size w Z := by rw [← hZ]; exact B8.setCell (by show w.heap.size ≤ w1.heap.size; omega) _
    have hzY := BwY.size
    have HMZ := Lib.hid (HMP.out X.heap.size A1 c1 A8 C8 Z (by
      have h8 : ∀ k, (Value.slice A8 (nd + 2) C8).ownBlock = some k → k ≠ w1.heap.size := fun k hk => by
        rcases HN8.out with h | h
        · exact (HOL.out k (.inr (h.symm.trans hk))).2
        · rw [hk] at h
          have := Option.some.inj h
          simp at this
          have := BYs.out
          omega
      refine ⟨by rw [← hZ]; exact own_set HR8.out (fun k hk => (HOL.out k (.inl hk)).2), by rw [← hZ]; exact own_set HO8.out h8, fun k h h' => ?_⟩
      rcases HN8.out with h2 | h2
      · exact HOY.out.ne k h (h2.symm.trans h')
      · have h3 := (HOY.out.hp.lt k h).2
        rw [h'] at h2
        have := Option.some.inj h2
        simp at this
        omega))
    have kZ := HBZ.out.cell
    have lZ := HBZ.out.lt
    clear hZ HB8 HP8 HR8 HO8 HN8 k8 f8 l8 B8 zZ
    go_wp2_with (first | (go_at_call 12; refine (HRD.out A1 c1 A8 C8 Z HMZ.out).mono ?_; (rintro e w9 ⟨rfl, hb9⟩); (have B9 := BZ.trans (hb9.mono BZ.size)); clear hb9) | (go_at_call 13; refine (works4_c w9).mono ?_; (rintro e w10 ⟨rfl, hb10⟩); (have B10 := B9.trans (hb10.mono B9.size)); clear hb10))
    go_ret
    exact ⟨rfl, B10⟩
  rw [hrd] at HRD
  replace HRD := Lib.hid HRD
  have rdy := ready4_iff hrd
  have hnr : nr ≤ 40 := by have := rdy.nr; rw [e5, hr] at this; exact this
  have hnd : nd + 2 ≤ 40 := by have := rdy.nd; rw [e6, HLEN.out] at this; exact this
  have HST := fun A1 c1 A8 C8 V (h : MemP A1 nr A8 (nd + 2) P' V) => stretch4_c A1 nr c1 A8 (nd + 2) C8 P' V hnr hnd h rdy.len
  have hop : op4 P' true = bif (tr4 P').isEmpty then 3 else 0 := by unfold op4; rw [rdy.ck]; rfl
  have hst : st4 P' = en4 (tr4 P') (tr4 P').length := by unfold st4 ol4; rw [rdy.ck]; rfl
  rw [e1, e2, e3, e4, hst] at HST
  by_cases hte : tr4 P' = []
  · rw [show op4 P' true = 3 by rw [hop, hte]; rfl] at HST
    obtain ⟨lo, hlo⟩ : ∃ x, (en4 (tr4 P') (tr4 P').length).lo = x := ⟨_, rfl⟩
    obtain ⟨hi, hhi⟩ : ∃ x, (en4 (tr4 P') (tr4 P').length).hi = x := ⟨_, rfl⟩
    rw [hlo, hhi] at HST
    replace HST := Lib.hid HST
    clear hP e1 e2 e3 e4 e5 e6 hr hd hrd rdy hop hst hte hlo hhi
    go_enter Try.func3, Try.ntmps3
    go_upto_region 1 with (fail)
    go_name_world X hX
    have BX : Below w.heap.size w X := (al2 hX).1
    have zX := (al2 hX).2
    have qX0 := (al2_0 hX).2.1
    have lX0 := (al2_0 hX).1
    have HPR : Hid (Blk X (w.heap.size + 1) 29 #[.int .i64 rod, .int .i64 ct, .int .i64 bf, .int .i64 af, .int .i64 fi, .int .i64 se]) := by
      rw [← hX]
      have := Blk.new (w.alloc (.cells #[.int .i64 ir, .int .i64 glo, .int .i64 ghi, .slice Ar nr cr, .slice Ad nd cd, .int .i64 wrg] 27)) 29 #[.int .i64 rod, .int .i64 ct, .int .i64 bf, .int .i64 af, .int .i64 fi, .int .i64 se]
      rw [World.size_alloc] at this
      exact this
    have ZX := Lib.hid zX
    clear hX zX
    go_upto_region 2 with (go_at_call 11; refine (HCP.out X BX).mono ?_; (rintro e w1 ⟨A1, c1, A2, c2, rfl, hO, hb1⟩); (have z1 := hb1.size); (have HPR1 := Lib.hid (HPR.out.below hb1 HPR.out.lt)); (have B1 := BX.trans (hb1.mono BX.size)); (have HO1 := Lib.hid hO); clear hb1 hO qX0 lX0)
    go_name_world Y hY
    have BY : Below w1.heap.size w1 Y := (al1 hY).1
    have zY : Y.heap.size = w1.heap.size + 1 := (al1 hY).2
    have HOY := Lib.hid (HO1.out.later BY)
    have HPRY := Lib.hid (HPR1.out.below BY HPR1.out.lt)
    have BwY := B1.trans (BY.mono B1.size)
    have HBY : Hid (Blk Y w1.heap.size 27 #[.int .i64 ir, .int .i64 glo, .int .i64 ghi, .slice A1 nr c1, .slice A2 nd c2, .int .i64 wrg]) := by rw [← hY]; exact Lib.hid (Blk.new _ _ _)
    have HOL : Hid (∀ k, ((Value.slice A1 nr c1).ownBlock = some k ∨ (Value.slice A2 nd c2).ownBlock = some k) → X.heap.size ≤ k ∧ k ≠ w1.heap.size) := Lib.hid (fun k h => by
      have h1 := HO1.out.hp.lt k
      have h2 := HO1.out.hl.lt k
      rcases h with h | h
      · have := h1 h; omega
      · have := h2 h; omega)
    have hX1 : w.heap.size + 1 < X.heap.size := by have := ZX.out; omega
    have kY := HBY.out.cell
    have fY := HBY.out.frozen
    have pY := HPRY.out.cell
    have gY := HPRY.out.lt
    have lY := HBY.out.lt
    have hne : w.heap.size + 1 ≠ w1.heap.size := by omega
    have BYs := Lib.hid zY
    clear hY BY HPR HPR1 zY
    go_upto_region 4 with (at_builtin; go_must (refine wpList_append_B _ (d := (⟨0, 0, 0, 0, 0, 0, 0⟩ : Re4)) rfl (.tmp 14) (.tmp 33) _ rfl X.heap.size _ 7 56 reE encE4_len encE4_one (.slice A2 nd c2) (Value.slice A2 nd c2).ownBlock nd res rfl rfl ?ow _ 2 _ (pair4 rod ct bf af fi se) rfl ?sl ?sz ?sl2 ?sz2 ?_; (case ow => exact (own_set HOY.out.hl (fun k hk => (HOL.out k (.inr hk)).2)).alloc _); (case sl => exact sl_new encE4_len (by first | rfl | simp) rfl rfl); (case sz => omega); (case sl2 => omega); (case sz2 => go_size); (rintro v8 w8 ho8 hg8 ha8); (obtain ⟨A8, C8, rfl, -, -⟩ := SlAt.of_own (d := (⟨0, 0, 0, 0, 0, 0, 0⟩ : Re4)) encE4_len ho8 HLEN.out); (have z8 := hg8.size); (simp only [World.size_alloc, World.size_setCell] at z8); (have HO8 := Lib.hid ho8); (have HR8 := Lib.hid (((own_set HOY.out.hp (p := ⟨w1.heap.size, 5, none⟩) (u := .int .i64 0) (fun k hk => (HOL.out k (.inl hk)).2)).alloc _).kept hg8 HOY.out.ne1)); (have HN8 := Lib.hid ha8); (have HB8 := Lib.hid (((HBY.out.set_ 5 (.int .i64 0)).alloc _).grown hg8 (fun e => (HOL.out _ (.inr e.symm)).2 rfl))); (have HP8 := Lib.hid (((HPRY.out.far (p := ⟨w1.heap.size, 5, none⟩) hne (.int .i64 0)).alloc _).grown hg8 (fun e => by have := (HOL.out _ (.inr e.symm)).1; omega))); (have B8 : Below w.heap.size w w8 := Below.grown (by (repeat first | with_reducible assumption | with_reducible exact Below.refl _ _ | (with_reducible refine Below.alloc ?_ ?side _; case side => (first | omega | (with_reducible exact Below.size (by assumption)) | (simp; done) | (simp; omega))) | (with_reducible refine Below.setCell ?_ ?side _; case side => (first | omega | (with_reducible exact Below.size (by assumption)) | (simp; done) | (simp; omega))) | with_reducible refine Below.drew ?_ | with_reducible refine below_drewN ?_ _ | (with_reducible refine below_step (by assumption) ?side ?_; case side => (first | omega | (with_reducible exact Below.size (by assumption)) | (simp; done) | (simp; omega))))) hg8 (by go_size) (fun k hk => by have := (HOL.out k (.inr hk)).1; omega)); (have k8 := HB8.out.cell); (have f8 := HB8.out.frozen); (have l8 := HB8.out.lt); clear ho8 hg8 ha8 kY fY pY gY lY))
    go_name_world Z hZ
    have zZ : Z.heap.size = w8.heap.size := by rw [← hZ]; simp
    have HBZ : Hid (Blk Z w1.heap.size 27 #[.int .i64 ir, .int .i64 glo, .int .i64 ghi, .slice A1 nr c1, .slice A8 (nd + 2) C8, .int .i64 0]) := Lib.hid (by rw [← hZ]; simpa using HB8.out.set_ 4 (.slice A8 (nd + 2) C8))
    have HPZ : Hid (Blk Z (w.heap.size + 1) 29 #[.int .i64 rod, .int .i64 ct, .int .i64 bf, .int .i64 af, .int .i64 fi, .int .i64 se]) := Lib.hid (by rw [← hZ]; exact HP8.out.far hne _)
    have BZ : Below w.heap.size w Z := by rw [← hZ]; exact B8.setCell (by show w.heap.size ≤ w1.heap.size; omega) _
    have hzY := BwY.size
    have HMZ := Lib.hid (HMP.out X.heap.size A1 c1 A8 C8 Z (by
      have h8 : ∀ k, (Value.slice A8 (nd + 2) C8).ownBlock = some k → k ≠ w1.heap.size := fun k hk => by
        rcases HN8.out with h | h
        · exact (HOL.out k (.inr (h.symm.trans hk))).2
        · rw [hk] at h
          have := Option.some.inj h
          simp at this
          have := BYs.out
          omega
      refine ⟨by rw [← hZ]; exact own_set HR8.out (fun k hk => (HOL.out k (.inl hk)).2), by rw [← hZ]; exact own_set HO8.out h8, fun k h h' => ?_⟩
      rcases HN8.out with h2 | h2
      · exact HOY.out.ne k h (h2.symm.trans h')
      · have h3 := (HOY.out.hp.lt k h).2
        rw [h'] at h2
        have := Option.some.inj h2
        simp at this
        omega))
    have kZ := HBZ.out.cell
    have lZ := HBZ.out.lt
    clear hZ HB8 HP8 HR8 HO8 HN8 k8 f8 l8 B8 zZ
    go_upto_region 6 with (go_at_call 12; refine (HRD.out A1 c1 A8 C8 Z HMZ.out).mono ?_; (rintro e w9 ⟨rfl, hb9⟩); (have B9 := BZ.trans (hb9.mono BZ.size)); (have HM9 := Lib.hid (HMZ.out.later hb9)); (have HB9 := Lib.hid (HBZ.out.below hb9 HBZ.out.lt)); (have HP9 := Lib.hid (HPZ.out.below hb9 HPZ.out.lt)); (have k9 := HB9.out.cell); (have l9 := HB9.out.lt); clear hb9 kZ lZ)
    go_upto_region 7 with (go_at_call 14; refine (HST.out A1 c1 A8 C8 w9 HM9.out).mono ?_; (rintro e w10 ⟨rfl, hb10⟩); (have B10 := B9.trans (hb10.mono B9.size)); (have HP10 := Lib.hid (HP9.out.below hb10 HP9.out.lt)); clear hb10 k9 l9)
    go_name_world V hV
    have bV := (al1 hV).1
    have BV := B10.trans (bV.mono B10.size)
    have HPV := Lib.hid (HP10.out.below bV HP10.out.lt)
    have HSV : Hid (Blk V w10.heap.size 23 #[.int .i64 lo, .int .i64 hi]) := by rw [← hV]; exact Lib.hid (Blk.new _ _ _)
    clear hV bV
    go_wp2_with (go_at_call 13; refine (works4_c V).mono ?_; (rintro e w11 ⟨rfl, hb11⟩); (have B11 := BV.trans (hb11.mono BV.size)); clear hb11)
    go_ret
    exact ⟨ret_bool (by first | rfl | simp), B11⟩
  have ok : Ok4 nr (nd + 2) P' := ok4_of rdy.ck (by rw [e5]; exact hr) (by rw [e6]; exact HLEN.out)
  have k1 := ok.re nd (by omega)
  have k2 := ok.re (nd + 1) (by omega)
  have g1 : reAt P'.res nd = ⟨1, rod, ct, bf, fi, 0, 0⟩ := by rw [e6, ← hd]; exact pair4_at.1
  have g2 : reAt P'.res (nd + 1) = ⟨2, rod, ct, af, se, 0, 0⟩ := by rw [e6, ← hd]; exact pair4_at.2
  rw [g1] at k1
  rw [g2] at k2
  have b1 := k1.2.2.2.1
  have b2 := k2.2.2.2.1
  have b3 := k1.2.2.2.2.1
  have b4 := k2.2.2.2.2.1
  simp only at b1 b2 b3 b4
  have hz0 : op4 P' true = 0 := by
    rw [hop]
    cases e : tr4 P' with
    | nil => exact absurd e hte
    | cons x l => rfl
  rw [hz0] at HST
  have hokB : ∀ x ∈ tr4 P', OkB x := fun x hx => tr4_ok ok hx
  have hsn := en4_sane hokB hte
  obtain ⟨⟨u1, x1, y1, t1, n1⟩, ⟨u2, x2, y2, t2, n2⟩⟩ := en4_hit hte
  have s1 := same4_law e6 e4 t1
  have s2 := same4_law e6 e4 t2
  rw [← n1] at s1
  rw [← n2] at s2
  obtain ⟨lo, hlo⟩ : ∃ x, (en4 (tr4 P') (tr4 P').length).lo = x := ⟨_, rfl⟩
  obtain ⟨hi, hhi⟩ : ∃ x, (en4 (tr4 P') (tr4 P').length).hi = x := ⟨_, rfl⟩
  rw [hlo] at s1
  rw [hhi] at s2
  rw [hlo, hhi] at HST
  replace HST := Lib.hid HST
  have HSN : Hid (∀ V, Calls Try.prog 15 #[.agg #[.int .i64 lo, .int .i64 hi]] V fun e w' => e = .returned (.bool true) ∧ Below V.heap.size V w') := Lib.hid (fun V => by
    have := sane4_c (en4 (tr4 P') (tr4 P').length) V
    rw [hsn, hlo, hhi] at this
    exact this)
  have v1 : IntKind.i64.wrap (af - bf) = af - bf := IntWalk.i64_in _ (by omega)
  have v2 : IntKind.i64.wrap (fi + se) = fi + se := IntWalk.i64_in _ (by omega)
  have v3 : IntKind.i64.wrap ((af - bf) - (fi + se)) = (af - bf) - (fi + se) := IntWalk.i64_in _ (by omega)
  have v4 : IntKind.i64.wrap ((af - bf) + (fi + se)) = (af - bf) + (fi + se) := IntWalk.i64_in _ (by omega)
  have t1B : decide ((af - bf) - (fi + se) ≤ lo) = true := decide_eq_true s1.1
  have t2B : decide (hi ≤ (af - bf) + (fi + se)) = true := decide_eq_true s2.2
  have V1 := Lib.hid v1
  have V2 := Lib.hid v2
  have V3 := Lib.hid v3
  have V4 := Lib.hid v4
  have T1 := Lib.hid t1B
  have T2 := Lib.hid t2B
  clear hP e1 e2 e3 e4 e5 e6 hr hd hrd rdy hop hst hte hlo hhi ok k1 k2 g1 g2 b1 b2 b3 b4 hz0 hokB hsn t1 t2 n1 n2 s1 s2 v1 v2 v3 v4 t1B t2B
  go_enter Try.func3, Try.ntmps3
  go_upto_region 1 with (fail)
  go_name_world X hX
  have BX : Below w.heap.size w X := (al2 hX).1
  have zX := (al2 hX).2
  have qX0 := (al2_0 hX).2.1
  have lX0 := (al2_0 hX).1
  have HPR : Hid (Blk X (w.heap.size + 1) 29 #[.int .i64 rod, .int .i64 ct, .int .i64 bf, .int .i64 af, .int .i64 fi, .int .i64 se]) := by
    rw [← hX]
    have := Blk.new (w.alloc (.cells #[.int .i64 ir, .int .i64 glo, .int .i64 ghi, .slice Ar nr cr, .slice Ad nd cd, .int .i64 wrg] 27)) 29 #[.int .i64 rod, .int .i64 ct, .int .i64 bf, .int .i64 af, .int .i64 fi, .int .i64 se]
    rw [World.size_alloc] at this
    exact this
  have ZX := Lib.hid zX
  clear hX zX
  go_upto_region 2 with (go_at_call 11; refine (HCP.out X BX).mono ?_; (rintro e w1 ⟨A1, c1, A2, c2, rfl, hO, hb1⟩); (have z1 := hb1.size); (have HPR1 := Lib.hid (HPR.out.below hb1 HPR.out.lt)); (have B1 := BX.trans (hb1.mono BX.size)); (have HO1 := Lib.hid hO); clear hb1 hO qX0 lX0)
  go_name_world Y hY
  have BY : Below w1.heap.size w1 Y := (al1 hY).1
  have zY : Y.heap.size = w1.heap.size + 1 := (al1 hY).2
  have HOY := Lib.hid (HO1.out.later BY)
  have HPRY := Lib.hid (HPR1.out.below BY HPR1.out.lt)
  have BwY := B1.trans (BY.mono B1.size)
  have HBY : Hid (Blk Y w1.heap.size 27 #[.int .i64 ir, .int .i64 glo, .int .i64 ghi, .slice A1 nr c1, .slice A2 nd c2, .int .i64 wrg]) := by rw [← hY]; exact Lib.hid (Blk.new _ _ _)
  have HOL : Hid (∀ k, ((Value.slice A1 nr c1).ownBlock = some k ∨ (Value.slice A2 nd c2).ownBlock = some k) → X.heap.size ≤ k ∧ k ≠ w1.heap.size) := Lib.hid (fun k h => by
    have h1 := HO1.out.hp.lt k
    have h2 := HO1.out.hl.lt k
    rcases h with h | h
    · have := h1 h; omega
    · have := h2 h; omega)
  have hX1 : w.heap.size + 1 < X.heap.size := by have := ZX.out; omega
  have kY := HBY.out.cell
  have fY := HBY.out.frozen
  have pY := HPRY.out.cell
  have gY := HPRY.out.lt
  have lY := HBY.out.lt
  have hne : w.heap.size + 1 ≠ w1.heap.size := by omega
  have BYs := Lib.hid zY
  clear hY BY HPR HPR1 zY
  go_upto_region 4 with (at_builtin; go_must (refine wpList_append_B _ (d := (⟨0, 0, 0, 0, 0, 0, 0⟩ : Re4)) rfl (.tmp 14) (.tmp 33) _ rfl X.heap.size _ 7 56 reE encE4_len encE4_one (.slice A2 nd c2) (Value.slice A2 nd c2).ownBlock nd res rfl rfl ?ow _ 2 _ (pair4 rod ct bf af fi se) rfl ?sl ?sz ?sl2 ?sz2 ?_; (case ow => exact (own_set HOY.out.hl (fun k hk => (HOL.out k (.inr hk)).2)).alloc _); (case sl => exact sl_new encE4_len (by first | rfl | simp) rfl rfl); (case sz => omega); (case sl2 => omega); (case sz2 => go_size); (rintro v8 w8 ho8 hg8 ha8); (obtain ⟨A8, C8, rfl, -, -⟩ := SlAt.of_own (d := (⟨0, 0, 0, 0, 0, 0, 0⟩ : Re4)) encE4_len ho8 HLEN.out); (have z8 := hg8.size); (simp only [World.size_alloc, World.size_setCell] at z8); (have HO8 := Lib.hid ho8); (have HR8 := Lib.hid (((own_set HOY.out.hp (p := ⟨w1.heap.size, 5, none⟩) (u := .int .i64 0) (fun k hk => (HOL.out k (.inl hk)).2)).alloc _).kept hg8 HOY.out.ne1)); (have HN8 := Lib.hid ha8); (have HB8 := Lib.hid (((HBY.out.set_ 5 (.int .i64 0)).alloc _).grown hg8 (fun e => (HOL.out _ (.inr e.symm)).2 rfl))); (have HP8 := Lib.hid (((HPRY.out.far (p := ⟨w1.heap.size, 5, none⟩) hne (.int .i64 0)).alloc _).grown hg8 (fun e => by have := (HOL.out _ (.inr e.symm)).1; omega))); (have B8 : Below w.heap.size w w8 := Below.grown (by (repeat first | with_reducible assumption | with_reducible exact Below.refl _ _ | (with_reducible refine Below.alloc ?_ ?side _; case side => (first | omega | (with_reducible exact Below.size (by assumption)) | (simp; done) | (simp; omega))) | (with_reducible refine Below.setCell ?_ ?side _; case side => (first | omega | (with_reducible exact Below.size (by assumption)) | (simp; done) | (simp; omega))) | with_reducible refine Below.drew ?_ | with_reducible refine below_drewN ?_ _ | (with_reducible refine below_step (by assumption) ?side ?_; case side => (first | omega | (with_reducible exact Below.size (by assumption)) | (simp; done) | (simp; omega))))) hg8 (by go_size) (fun k hk => by have := (HOL.out k (.inr hk)).1; omega)); (have k8 := HB8.out.cell); (have f8 := HB8.out.frozen); (have l8 := HB8.out.lt); clear ho8 hg8 ha8 kY fY pY gY lY))
  go_name_world Z hZ
  have zZ : Z.heap.size = w8.heap.size := by rw [← hZ]; simp
  have HBZ : Hid (Blk Z w1.heap.size 27 #[.int .i64 ir, .int .i64 glo, .int .i64 ghi, .slice A1 nr c1, .slice A8 (nd + 2) C8, .int .i64 0]) := Lib.hid (by rw [← hZ]; simpa using HB8.out.set_ 4 (.slice A8 (nd + 2) C8))
  have HPZ : Hid (Blk Z (w.heap.size + 1) 29 #[.int .i64 rod, .int .i64 ct, .int .i64 bf, .int .i64 af, .int .i64 fi, .int .i64 se]) := Lib.hid (by rw [← hZ]; exact HP8.out.far hne _)
  have BZ : Below w.heap.size w Z := by rw [← hZ]; exact B8.setCell (by show w.heap.size ≤ w1.heap.size; omega) _
  have hzY := BwY.size
  have HMZ := Lib.hid (HMP.out X.heap.size A1 c1 A8 C8 Z (by
    have h8 : ∀ k, (Value.slice A8 (nd + 2) C8).ownBlock = some k → k ≠ w1.heap.size := fun k hk => by
      rcases HN8.out with h | h
      · exact (HOL.out k (.inr (h.symm.trans hk))).2
      · rw [hk] at h
        have := Option.some.inj h
        simp at this
        have := BYs.out
        omega
    refine ⟨by rw [← hZ]; exact own_set HR8.out (fun k hk => (HOL.out k (.inl hk)).2), by rw [← hZ]; exact own_set HO8.out h8, fun k h h' => ?_⟩
    rcases HN8.out with h2 | h2
    · exact HOY.out.ne k h (h2.symm.trans h')
    · have h3 := (HOY.out.hp.lt k h).2
      rw [h'] at h2
      have := Option.some.inj h2
      simp at this
      omega))
  have kZ := HBZ.out.cell
  have lZ := HBZ.out.lt
  clear hZ HB8 HP8 HR8 HO8 HN8 k8 f8 l8 B8 zZ
  go_upto_region 6 with (go_at_call 12; refine (HRD.out A1 c1 A8 C8 Z HMZ.out).mono ?_; (rintro e w9 ⟨rfl, hb9⟩); (have B9 := BZ.trans (hb9.mono BZ.size)); (have HM9 := Lib.hid (HMZ.out.later hb9)); (have HB9 := Lib.hid (HBZ.out.below hb9 HBZ.out.lt)); (have HP9 := Lib.hid (HPZ.out.below hb9 HPZ.out.lt)); (have k9 := HB9.out.cell); (have l9 := HB9.out.lt); clear hb9 kZ lZ)
  go_upto_region 7 with (go_at_call 14; refine (HST.out A1 c1 A8 C8 w9 HM9.out).mono ?_; (rintro e w10 ⟨rfl, hb10⟩); (have B10 := B9.trans (hb10.mono B9.size)); (have HP10 := Lib.hid (HP9.out.below hb10 HP9.out.lt)); clear hb10 k9 l9)
  go_name_world V hV
  have bV := (al1 hV).1
  have BV := B10.trans (bV.mono B10.size)
  have HPV := Lib.hid (HP10.out.below bV HP10.out.lt)
  have HSV : Hid (Blk V w10.heap.size 23 #[.int .i64 lo, .int .i64 hi]) := by rw [← hV]; exact Lib.hid (Blk.new _ _ _)
  clear hV bV
  have pV := HPV.out.cell
  have gV := HPV.out.lt
  have sV := HSV.out.cell
  have uV := HSV.out.lt
  have v1 := V1.out
  have v2 := V2.out
  go_upto_region 9 with (fail)
  have hcq := fun p : Regrown => (bcell (below_regrown V p.d p.os)).1
  refine wp_region_quiet_below (by kernel_rfl) (by kernel_rfl) ?_
  repeat (go_big_quiet_step ((fail)))
  refine wpQuiet_nil ?_
  intro wq hq
  obtain ⟨pq, hq⟩ := hq
  have hbq : Below V.heap.size V wq := by rw [hq]; exact below_regrown _ _ _
  clear hq hcq pq
  obtain ⟨hcq, hfq⟩ := bcell hbq
  have zq := hbq.size
  have v3 := V3.out
  have v4 := V4.out
  have t1B := T1.out
  have t2B := T2.out
  have HSQ := Lib.hid (HSV.out.below hbq uV)
  have sq := HSQ.out.cell
  have uq := HSQ.out.lt
  have BQ := BV.trans (hbq.mono BV.size)
  clear hcq hfq pV gV sV uV
  go_wp2_with (first | (go_at_call 15; refine (HSN.out wq).mono ?_; (rintro e w12 ⟨rfl, hb12⟩); (have B12 := BQ.trans (hb12.mono BQ.size)); (have HSR := Lib.hid (HSQ.out.below hb12 HSQ.out.lt)); (have sr := HSR.out.cell); (have ur := HSR.out.lt); clear hb12 sq uq) | (go_at_call 13; refine (works4_c _).mono ?_; (rintro e w13 ⟨rfl, hb13⟩); (have B13 := B12.trans (hb13.mono B12.size)); clear hb13))
  go_ret
  exact ⟨ret_bool (by first | rfl | simp), B13⟩

end Go.Proofs.Ytjlibgledkdfiaa
