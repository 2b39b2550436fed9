/- Stretch of stretch (layer 4): the least and the greatest stretch of a pull. -/
import Derived.Test.YtjlibgledkdfiaaEn4
namespace Go.Proofs.Ytjlibgledkdfiaa
open Go.RowKit
open Go.Sort (grow)
set_option linter.unusedVariables false

/-- what Stretch returns -/
def st4 (p : P4) : Sp := en4 (ol4 p true) (ol4 p true).length
theorem ol4_ok {p : P4} {is : Bool} (hr : p.rods.length ≤ 40) (hd : p.res.length ≤ 40) : ∀ x ∈ ol4 p is, OkB x := by
  intro x hx
  unfold ol4 at hx
  cases h : ck4 p
  · rw [h] at hx; simp at hx
  cases is
  · simp at hx
  rw [h] at hx
  simp only [Bool.and_self, cond_true] at hx
  exact tr4_ok (ok4_of h rfl rfl) hx
theorem ol4_len {p : P4} {is : Bool} (hn : (tr4 p).length ≤ 90000) : (ol4 p is).length ≤ 90000 := by
  unfold ol4
  cases ck4 p <;> cases is <;> first | exact hn | exact Nat.zero_le _
set_option maxRecDepth 100000 in
set_option maxHeartbeats 3200000 in
theorem stretch4_c (Ar : Option Addr) (nr cr : Nat) (Ad : Option Addr) (nd cd : Nat) (p : P4) (w : World) (hnr : nr ≤ 40) (hnd : nd ≤ 40) (HM : MemP Ar nr Ad nd p w) (hn : (tr4 p).length ≤ 90000) :
    Calls Try.prog 14 #[.agg #[.int .i64 p.ir, .int .i64 p.glo, .int .i64 p.ghi, .slice Ar nr cr, .slice Ad nd cd, .int .i64 p.wr]] w fun e w' =>
      e = .returned (.tuple #[.agg #[.int .i64 (st4 p).lo, .int .i64 (st4 p).hi], .int .i64 (op4 p true)]) ∧ Below w.heap.size w w' := by
  have HOP := Lib.hid (fun V (hV : Below w.heap.size w V) => open4_c Ar nr cr Ad nd cd p true V hnr hnd (HM.later hV) hn)
  have hr := HM.hr.1
  have hd := HM.hd.1
  have HK := Lib.hid (ol4_ok (p := p) (is := true) (by omega) (by omega))
  have hl := ol4_len (p := p) (is := true) hn
  unfold st4
  unfold Op4 at HOP
  obtain ⟨z, hz⟩ : ∃ z, op4 p true = z := ⟨_, rfl⟩
  obtain ⟨l, hll⟩ : ∃ l, ol4 p true = l := ⟨_, rfl⟩
  rw [hz, hll] at HOP
  rw [hll] at HK hl
  rw [hz, hll]
  obtain ⟨m, hm⟩ : ∃ m, l.length = m := ⟨_, rfl⟩
  rw [hm] at HOP hl
  rw [hm]
  have HEN := Lib.hid (fun A c hs base V (HB : BsAt4 0 base V A m hs l) => ends4_c A m c 0 base hs l V hl HB HK.out)
  clear HM hr hd hn hz hll hm hl
  obtain ⟨s0, hs0⟩ : ∃ s, (en4 l m).lo = s := ⟨_, rfl⟩
  obtain ⟨s1, hs1⟩ : ∃ s, (en4 l m).hi = s := ⟨_, rfl⟩
  rw [hs0, hs1] at HEN
  rw [hs0, hs1]
  clear hs0 hs1
  obtain ⟨ir, glo, ghi, wrg, rods, res⟩ := p
  simp only at HOP ⊢
  go_enter Try.func14, Try.ntmps14
  go_upto_region 1 with (fail)
  go_name_world X hX
  have BX : Below w.heap.size w X := (al2 hX).1
  have zX := (al2 hX).2
  have q0 := (al2_0 hX).2.1
  have l0 := (al2_0 hX).1
  have HS : Hid (Blk X (w.heap.size + 1) 23 #[.int .i64 0, .int .i64 0]) := by
    rw [← hX]
    have := Blk.new (w.alloc (.cells #[.int .i64 ir, .int .i64 glo, .int .i64 ghi, .slice Ar nr cr, .slice Ad nd cd, .int .i64 wrg] 27)) 23 #[.int .i64 0, .int .i64 0]
    rw [World.size_alloc] at this
    exact this
  have ZX := Lib.hid zX
  clear hX zX
  go_upto_region 2 with (go_at_call 49; refine (HOP.out X BX).mono ?_; (rintro e w1 ⟨A, c, hs, rfl, hBs, hb1⟩); (have z1 := hb1.size); (have HS1 := Lib.hid (HS.out.below hb1 HS.out.lt)); (have B1 := BX.trans (hb1.mono BX.size)); (have HBs := Lib.hid hBs); (have HX1 := Lib.hid hb1); clear hb1 hBs)
  go_name_world Y hY
  have BY : Below w1.heap.size w1 Y := (al1 hY).1
  have zY := BY.size
  have HBY := Lib.hid (HBs.out.later BY)
  have HSY := Lib.hid (HS1.out.below BY HS1.out.lt)
  have B2 := B1.trans (BY.mono B1.size)
  clear hY BY
  go_wp2_with (go_at_call 50; refine (HEN.out A c hs _ Y HBY.out).mono ?_; (rintro e w2 ⟨rfl, hb2⟩); (have z2 := hb2.size); (have HS2 := Lib.hid (HSY.out.below hb2 HSY.out.lt)); (have k0 := HS2.out.cell); (have f0 := HS2.out.frozen); (have l2 := HS2.out.lt); (have B3 := B2.trans (hb2.mono B2.size)); clear hb2)
  have hbF := (HS2.out.set_ 0 (.int .i64 s0)).set_ 1 (.int .i64 s1)
  have d0 := hbF.cell 0
  have d1 := hbF.cell 1
  simp only [List.setIfInBounds_toArray, List.set_cons_zero, List.set_cons_succ] at d0 d1
  exact bodyPost_ret (v := .tuple #[.agg #[.int .i64 s0, .int .i64 s1], .int .i64 z]) (by simp [results, Try.results14, go_sem, d0, d1]) rfl ⟨rfl, by (repeat first | with_reducible assumption | with_reducible exact Below.refl _ _ | (with_reducible refine Below.alloc ?_ ?side _; case side => (first | omega | (with_reducible exact Below.size (by assumption)) | (simp; done) | (simp; omega))) | (with_reducible refine Below.setCell ?_ ?side _; case side => (first | omega | (with_reducible exact Below.size (by assumption)) | (simp; done) | (simp; omega))) | with_reducible refine Below.drew ?_ | with_reducible refine below_drewN ?_ _ | (with_reducible refine below_step (by assumption) ?side ?_; case side => (first | omega | (with_reducible exact Below.size (by assumption)) | (simp; done) | (simp; omega))))⟩

end Go.Proofs.Ytjlibgledkdfiaa
