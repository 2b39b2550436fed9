/- open of stretch (layer 4): a pull that has a truth, with its truths. -/
import Derived.Test.YtglpgcgidkdkiaaQc35
namespace Go.Proofs.Ytglpgcgidkdkiaa
open Go.RowKit
open Go.Sort (grow)
set_option linter.unusedVariables false
set_option linter.unusedSimpArgs false

/-- which error -/
def op4 (p : P4) (is : Bool) : Int := bif ck4 p then (bif is then (bif (tr4 p).isEmpty then 3 else 0) else 1) else 40
/-- which truths are handed back -/
def ol4 (p : P4) (is : Bool) : List Bu4 := bif ck4 p && is then tr4 p else []
def Op4 (Ar : Option Addr) (nr cr : Nat) (Ad : Option Addr) (nd cd : Nat) (p : P4) (z : Int) (l : List Bu4) (w : World) (e : Ending) (w' : World) : Prop :=
  ∃ A c hs, e = .returned (.tuple #[.agg #[.int .i64 p.ir, .int .i64 p.glo, .int .i64 p.ghi, .slice Ar nr cr, .slice Ad nd cd, .int .i64 p.wr], .slice A l.length c, .int .i64 z]) ∧ BsAt4 0 w.heap.size w' A l.length hs l ∧ Below w.heap.size w w'
set_option maxRecDepth 100000 in
set_option maxHeartbeats 3200000 in
theorem open4_c (Ar : Option Addr) (nr cr : Nat) (Ad : Option Addr) (nd cd : Nat) (p : P4) (is : Bool) (w : World) (hnr : nr ≤ 40) (hnd : nd ≤ 40) (HM : MemP Ar nr Ad nd p w) (hn : ck4 p = true → (tr4 p).length ≤ 90000) :
    Calls Try.prog 31 #[.agg #[.int .i64 p.ir, .int .i64 p.glo, .int .i64 p.ghi, .slice Ar nr cr, .slice Ad nd cd, .int .i64 p.wr], .bool is] w (Op4 Ar nr cr Ad nd cd p (op4 p is) (ol4 p is) w) := by
  have HCK := Lib.hid (fun V (hV : Below w.heap.size w V) => check4_c Ar nr cr Ad nd cd p V hnr hnd (HM.later hV))
  have HMI := Lib.hid HM
  have hr := HM.hr.1
  have hd := HM.hd.1
  have HTR := Lib.hid (fun (ok : Ok4 nr nd p) (hl : (tr4 p).length ≤ 90000) V (hV : Below w.heap.size w V) => collect4_c 54 #[.agg #[.int .i64 p.ir, .int .i64 p.glo, .int .i64 p.ghi, .slice Ar nr cr, .slice Ad nd cd, .int .i64 p.wr]] #[] (MemP Ar nr Ad nd p) (tr4 p) 0 ((truths4_c Ar nr cr Ad nd cd p ok).mono fun K O x args W h => h.atC) (enters_of Try.func54 (by kernel_rfl) rfl) hl V (Nat.zero_le _) (fun Z hZ => HM.later (hV.trans (hZ.mono hV.size))))
  have HOK := Lib.hid (fun (h : ck4 p = true) => ok4_of h hr hd)
  have HTN := Lib.hid hn
  unfold Op4 op4 ol4
  obtain ⟨ck, hck⟩ : ∃ c, ck4 p = c := ⟨_, rfl⟩
  rw [hck] at HCK HOK HTN ⊢
  obtain ⟨ts, hts⟩ : ∃ t, tr4 p = t := ⟨_, rfl⟩
  rw [hts] at HTR HTN ⊢
  clear HM hr hd hn hck hts
  have HTR2 := Lib.hid (fun (h : ck = true) => HTR.out (HOK.out h) (HTN.out h))
  clear HTR HOK HTN
  obtain ⟨ir, glo, ghi, wrg, rods, res⟩ := p
  simp only at HCK HTR2 ⊢
  cases ck
  · replace HCK := Lib.hid (HCK.out)
    simp only [cond_false, Bool.false_and, List.length_nil]
    rw [show er4 false = 40 from rfl] at HCK
    go_enter Try.func31, Try.ntmps31
    go_upto_region 2 with (fail)
    go_name_world Y hY
    have BY : Below w.heap.size w Y := (al3 hY).1
    have zY := (al3 hY).2
    have q0 := (al3_0 hY).2.1
    have l0 := (al3_0 hY).1
    have q2 := (al3_2 hY).2.1
    have l2 := (al3_2 hY).1
    have HZ : Hid (Blk Y (w.heap.size + 1) 75 #[.int .i64 0, .int .i64 0, .int .i64 0, .slice none 0 0, .slice none 0 0, .int .i64 0]) := by
      rw [← hY]
      have := Blk.new (w.alloc (.cells #[.int .i64 ir, .int .i64 glo, .int .i64 ghi, .slice Ar nr cr, .slice Ad nd cd, .int .i64 wrg] 27)) 75 #[.int .i64 0, .int .i64 0, .int .i64 0, .slice none 0 0, .slice none 0 0, .int .i64 0]
      rw [World.size_alloc] at this
      exact this.alloc _
    have ZY := Lib.hid zY
    clear hY zY
    go_wp2_with (go_at_call 52; refine (HCK.out Y BY).mono ?_; (rintro e w1 ⟨rfl, hb1⟩); (have z1 := hb1.size); (have q21 := fun j => (hb1.cell (p := ⟨w.heap.size + 1 + 1, j, none⟩) l2).trans (q2 j)); (have l21 := Nat.lt_of_lt_of_le l2 z1); (have HZ1 := Lib.hid (HZ.out.below hb1 HZ.out.lt)); (have k1 := HZ1.out.cell); (have f1 := HZ1.out.frozen); (have lz1 := HZ1.out.lt); (have B1 := BY.trans (hb1.mono BY.size)); clear hb1)
    have hbF := (((((HZ1.out.set_ 0 (.int .i64 ir)).set_ 1 (.int .i64 glo)).set_ 2 (.int .i64 ghi)).set_ 3 (.slice Ar nr cr)).set_ 4 (.slice Ad nd cd)).set_ 5 (.int .i64 wrg)
    have d0 := hbF.cell 0
    have d1 := hbF.cell 1
    have d2 := hbF.cell 2
    have d3 := hbF.cell 3
    have d4 := hbF.cell 4
    have d5 := hbF.cell 5
    simp only [List.setIfInBounds_toArray, List.set_cons_zero, List.set_cons_succ] at d0 d1 d2 d3 d4 d5
    exact bodyPost_ret (v := .tuple #[.agg #[.int .i64 ir, .int .i64 glo, .int .i64 ghi, .slice Ar nr cr, .slice Ad nd cd, .int .i64 wrg], .slice none 0 0, .int .i64 40]) (by simp [results, Try.results31, go_sem, d0, d1, d2, d3, d4, d5]) rfl ⟨_, _, _, rfl, .nil _, by (repeat first | with_reducible assumption | with_reducible exact Below.refl _ _ | (with_reducible refine Below.alloc ?_ ?side _; case side => (first | omega | (with_reducible exact Below.size (by assumption)) | (simp; done) | (simp; omega))) | (with_reducible refine Below.setCell ?_ ?side _; case side => (first | omega | (with_reducible exact Below.size (by assumption)) | (simp; done) | (simp; omega))) | with_reducible refine Below.drew ?_ | with_reducible refine below_drewN ?_ _ | (with_reducible refine below_step (by assumption) ?side ?_; case side => (first | omega | (with_reducible exact Below.size (by assumption)) | (simp; done) | (simp; omega))))⟩
  rw [show er4 true = 0 from rfl] at HCK
  cases is
  · simp only [cond_true, cond_false, Bool.and_false, List.length_nil]
    go_enter Try.func31, Try.ntmps31
    go_upto_region 2 with (fail)
    go_name_world Y hY
    have BY : Below w.heap.size w Y := (al3 hY).1
    have zY := (al3 hY).2
    have q0 := (al3_0 hY).2.1
    have l0 := (al3_0 hY).1
    have q2 := (al3_2 hY).2.1
    have l2 := (al3_2 hY).1
    have HZ : Hid (Blk Y (w.heap.size + 1) 75 #[.int .i64 0, .int .i64 0, .int .i64 0, .slice none 0 0, .slice none 0 0, .int .i64 0]) := by
      rw [← hY]
      have := Blk.new (w.alloc (.cells #[.int .i64 ir, .int .i64 glo, .int .i64 ghi, .slice Ar nr cr, .slice Ad nd cd, .int .i64 wrg] 27)) 75 #[.int .i64 0, .int .i64 0, .int .i64 0, .slice none 0 0, .slice none 0 0, .int .i64 0]
      rw [World.size_alloc] at this
      exact this.alloc _
    have ZY := Lib.hid zY
    clear hY zY
    go_wp2_with (go_at_call 52; refine (HCK.out Y BY).mono ?_; (rintro e w1 ⟨rfl, hb1⟩); (have z1 := hb1.size); (have q21 := fun j => (hb1.cell (p := ⟨w.heap.size + 1 + 1, j, none⟩) l2).trans (q2 j)); (have l21 := Nat.lt_of_lt_of_le l2 z1); (have HZ1 := Lib.hid (HZ.out.below hb1 HZ.out.lt)); (have k1 := HZ1.out.cell); (have f1 := HZ1.out.frozen); (have lz1 := HZ1.out.lt); (have B1 := BY.trans (hb1.mono BY.size)); clear hb1)
    have hbF := (((((HZ1.out.set_ 0 (.int .i64 ir)).set_ 1 (.int .i64 glo)).set_ 2 (.int .i64 ghi)).set_ 3 (.slice Ar nr cr)).set_ 4 (.slice Ad nd cd)).set_ 5 (.int .i64 wrg)
    have d0 := hbF.cell 0
    have d1 := hbF.cell 1
    have d2 := hbF.cell 2
    have d3 := hbF.cell 3
    have d4 := hbF.cell 4
    have d5 := hbF.cell 5
    simp only [List.setIfInBounds_toArray, List.set_cons_zero, List.set_cons_succ] at d0 d1 d2 d3 d4 d5
    exact bodyPost_ret (v := .tuple #[.agg #[.int .i64 ir, .int .i64 glo, .int .i64 ghi, .slice Ar nr cr, .slice Ad nd cd, .int .i64 wrg], .slice none 0 0, .int .i64 1]) (by simp [results, Try.results31, go_sem, d0, d1, d2, d3, d4, d5]) rfl ⟨_, _, _, rfl, .nil _, by (repeat first | with_reducible assumption | with_reducible exact Below.refl _ _ | (with_reducible refine Below.alloc ?_ ?side _; case side => (first | omega | (with_reducible exact Below.size (by assumption)) | (simp; done) | (simp; omega))) | (with_reducible refine Below.setCell ?_ ?side _; case side => (first | omega | (with_reducible exact Below.size (by assumption)) | (simp; done) | (simp; omega))) | with_reducible refine Below.drew ?_ | with_reducible refine below_drewN ?_ _ | (with_reducible refine below_step (by assumption) ?side ?_; case side => (first | omega | (with_reducible exact Below.size (by assumption)) | (simp; done) | (simp; omega))))⟩
  simp only [cond_true, Bool.and_true]
  obtain ⟨m, hm⟩ : ∃ m, ts.length = m := ⟨_, rfl⟩
  rw [hm] at HTR2 ⊢
  have he : ts.isEmpty = decide (m = 0) := by rw [← hm]; cases ts <;> simp
  rw [he]
  have HTS := Lib.hid (fun V hV => HTR2.out rfl V hV)
  have HM0 := Lib.hid hm
  clear he HTR2 hm
  by_cases h0 : m = 0
  · subst h0
    simp only [decide_true, cond_true]
    have hB : ((0 : Int) == 0) = true := rfl
    go_enter Try.func31, Try.ntmps31
    go_upto_region 2 with (fail)
    go_name_world Y hY
    have BY : Below w.heap.size w Y := (al3 hY).1
    have zY := (al3 hY).2
    have q0 := (al3_0 hY).2.1
    have l0 := (al3_0 hY).1
    have q2 := (al3_2 hY).2.1
    have l2 := (al3_2 hY).1
    have HZ : Hid (Blk Y (w.heap.size + 1) 75 #[.int .i64 0, .int .i64 0, .int .i64 0, .slice none 0 0, .slice none 0 0, .int .i64 0]) := by
      rw [← hY]
      have := Blk.new (w.alloc (.cells #[.int .i64 ir, .int .i64 glo, .int .i64 ghi, .slice Ar nr cr, .slice Ad nd cd, .int .i64 wrg] 27)) 75 #[.int .i64 0, .int .i64 0, .int .i64 0, .slice none 0 0, .slice none 0 0, .int .i64 0]
      rw [World.size_alloc] at this
      exact this.alloc _
    have ZY := Lib.hid zY
    clear hY zY
    go_wp2_with (first | (go_at_call 52; refine (HCK.out Y BY).mono ?_; (rintro e w1 ⟨rfl, hb1⟩); (have z1 := hb1.size); (have q21 := fun j => (hb1.cell (p := ⟨w.heap.size + 1 + 1, j, none⟩) l2).trans (q2 j)); (have l21 := Nat.lt_of_lt_of_le l2 z1); (have HZ1 := Lib.hid (HZ.out.below hb1 HZ.out.lt)); (have B1 := BY.trans (hb1.mono BY.size)); clear hb1) | (go_at_call 53; refine (HTS.out w1 B1).mono ?_; (rintro e w2 ⟨A, c, hs, rfl, hBs, hb2⟩); (have z2 := hb2.size); (have q22 := fun j => (hb2.cell (p := ⟨w.heap.size + 1 + 1, j, none⟩) l21).trans (q21 j)); (have l22 := Nat.lt_of_lt_of_le l21 z2); (have HZ2 := Lib.hid (HZ1.out.below hb2 HZ1.out.lt)); (have k1 := HZ2.out.cell); (have f1 := HZ2.out.frozen); (have lz1 := HZ2.out.lt); (have B2 := B1.trans (hb2.mono B1.size)); (have HBs := Lib.hid hBs); clear hb2 hBs))
    have ht : ts = [] := List.eq_nil_of_length_eq_zero HM0.out
    rw [ht]
    have hbF := (((((HZ2.out.set_ 0 (.int .i64 ir)).set_ 1 (.int .i64 glo)).set_ 2 (.int .i64 ghi)).set_ 3 (.slice Ar nr cr)).set_ 4 (.slice Ad nd cd)).set_ 5 (.int .i64 wrg)
    have d0 := hbF.cell 0
    have d1 := hbF.cell 1
    have d2 := hbF.cell 2
    have d3 := hbF.cell 3
    have d4 := hbF.cell 4
    have d5 := hbF.cell 5
    simp only [List.setIfInBounds_toArray, List.set_cons_zero, List.set_cons_succ] at d0 d1 d2 d3 d4 d5
    exact bodyPost_ret (v := .tuple #[.agg #[.int .i64 ir, .int .i64 glo, .int .i64 ghi, .slice Ar nr cr, .slice Ad nd cd, .int .i64 wrg], .slice none 0 0, .int .i64 3]) (by simp [results, Try.results31, go_sem, d0, d1, d2, d3, d4, d5]) rfl ⟨_, _, _, rfl, .nil _, by (repeat first | with_reducible assumption | with_reducible exact Below.refl _ _ | (with_reducible refine Below.alloc ?_ ?side _; case side => (first | omega | (with_reducible exact Below.size (by assumption)) | (simp; done) | (simp; omega))) | (with_reducible refine Below.setCell ?_ ?side _; case side => (first | omega | (with_reducible exact Below.size (by assumption)) | (simp; done) | (simp; omega))) | with_reducible refine Below.drew ?_ | with_reducible refine below_drewN ?_ _ | (with_reducible refine below_step (by assumption) ?side ?_; case side => (first | omega | (with_reducible exact Below.size (by assumption)) | (simp; done) | (simp; omega))))⟩
  · have hB : ((m : Int) == 0) = false := by simp; omega
    rw [show decide (m = 0) = false by simp [h0]]
    simp only [cond_false]
    go_enter Try.func31, Try.ntmps31
    go_upto_region 2 with (fail)
    go_name_world Y hY
    have BY : Below w.heap.size w Y := (al3 hY).1
    have zY := (al3 hY).2
    have q0 := (al3_0 hY).2.1
    have l0 := (al3_0 hY).1
    have q2 := (al3_2 hY).2.1
    have l2 := (al3_2 hY).1
    have HZ : Hid (Blk Y (w.heap.size + 1) 75 #[.int .i64 0, .int .i64 0, .int .i64 0, .slice none 0 0, .slice none 0 0, .int .i64 0]) := by
      rw [← hY]
      have := Blk.new (w.alloc (.cells #[.int .i64 ir, .int .i64 glo, .int .i64 ghi, .slice Ar nr cr, .slice Ad nd cd, .int .i64 wrg] 27)) 75 #[.int .i64 0, .int .i64 0, .int .i64 0, .slice none 0 0, .slice none 0 0, .int .i64 0]
      rw [World.size_alloc] at this
      exact this.alloc _
    have ZY := Lib.hid zY
    clear hY zY
    go_wp2_with (first | (go_at_call 52; refine (HCK.out Y BY).mono ?_; (rintro e w1 ⟨rfl, hb1⟩); (have z1 := hb1.size); (have q21 := fun j => (hb1.cell (p := ⟨w.heap.size + 1 + 1, j, none⟩) l2).trans (q2 j)); (have l21 := Nat.lt_of_lt_of_le l2 z1); (have HZ1 := Lib.hid (HZ.out.below hb1 HZ.out.lt)); (have B1 := BY.trans (hb1.mono BY.size)); clear hb1) | (go_at_call 53; refine (HTS.out w1 B1).mono ?_; (rintro e w2 ⟨A, c, hs, rfl, hBs, hb2⟩); (have z2 := hb2.size); (have q22 := fun j => (hb2.cell (p := ⟨w.heap.size + 1 + 1, j, none⟩) l21).trans (q21 j)); (have l22 := Nat.lt_of_lt_of_le l21 z2); (have HZ2 := Lib.hid (HZ1.out.below hb2 HZ1.out.lt)); (have k1 := HZ2.out.cell); (have f1 := HZ2.out.frozen); (have lz1 := HZ2.out.lt); (have B2 := B1.trans (hb2.mono B1.size)); (have HBs := Lib.hid hBs); clear hb2 hBs))
    have hfar : ∀ (V : World) (i : Nat) (u : Value), BsAt4 0 w.heap.size V A m hs ts → True := fun _ _ _ _ => trivial
    have hz1 := ZY.out
    have hB6 := (((((HBs.out.far (p := ⟨w.heap.size + 1, 0, none⟩) (Nat.zero_le _) (by show w.heap.size + 1 < w1.heap.size; omega) (.int .i64 ir)).far (p := ⟨w.heap.size + 1, 1, none⟩) (Nat.zero_le _) (by show w.heap.size + 1 < w1.heap.size; omega) (.int .i64 glo)).far (p := ⟨w.heap.size + 1, 2, none⟩) (Nat.zero_le _) (by show w.heap.size + 1 < w1.heap.size; omega) (.int .i64 ghi)).far (p := ⟨w.heap.size + 1, 3, none⟩) (Nat.zero_le _) (by show w.heap.size + 1 < w1.heap.size; omega) (.slice Ar nr cr)).far (p := ⟨w.heap.size + 1, 4, none⟩) (Nat.zero_le _) (by show w.heap.size + 1 < w1.heap.size; omega) (.slice Ad nd cd)).far (p := ⟨w.heap.size + 1, 5, none⟩) (Nat.zero_le _) (by show w.heap.size + 1 < w1.heap.size; omega) (.int .i64 wrg)
    have hB7 := Lib.hid (hB6.lower (base' := w.heap.size) (by omega))
    clear hB6 hfar
    have hbF := (((((HZ2.out.set_ 0 (.int .i64 ir)).set_ 1 (.int .i64 glo)).set_ 2 (.int .i64 ghi)).set_ 3 (.slice Ar nr cr)).set_ 4 (.slice Ad nd cd)).set_ 5 (.int .i64 wrg)
    have d0 := hbF.cell 0
    have d1 := hbF.cell 1
    have d2 := hbF.cell 2
    have d3 := hbF.cell 3
    have d4 := hbF.cell 4
    have d5 := hbF.cell 5
    simp only [List.setIfInBounds_toArray, List.set_cons_zero, List.set_cons_succ] at d0 d1 d2 d3 d4 d5
    exact bodyPost_ret (v := .tuple #[.agg #[.int .i64 ir, .int .i64 glo, .int .i64 ghi, .slice Ar nr cr, .slice Ad nd cd, .int .i64 wrg], .slice A m c, .int .i64 0]) (by simp [results, Try.results31, go_sem, d0, d1, d2, d3, d4, d5]) rfl ⟨_, _, _, rfl, hB7.out, by (repeat first | with_reducible assumption | with_reducible exact Below.refl _ _ | (with_reducible refine Below.alloc ?_ ?side _; case side => (first | omega | (with_reducible exact Below.size (by assumption)) | (simp; done) | (simp; omega))) | (with_reducible refine Below.setCell ?_ ?side _; case side => (first | omega | (with_reducible exact Below.size (by assumption)) | (simp; done) | (simp; omega))) | with_reducible refine Below.drew ?_ | with_reducible refine below_drewN ?_ _ | (with_reducible refine below_step (by assumption) ?side ?_; case side => (first | omega | (with_reducible exact Below.size (by assumption)) | (simp; done) | (simp; omega))))⟩

end Go.Proofs.Ytglpgcgidkdkiaa
