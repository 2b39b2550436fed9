/- Holds of stretch (layer 4). -/
import Derived.Test.YtmmgkmdfecnkdaaQa24
import Derived.BigRegionIn
import Derived.Shelf.RegionOpen
import Derived.Deep.DrawnRows
import Derived.Deep.DeepCutAuto
namespace Go.Proofs.Ytmmgkmdfecnkdaa
open Go.RowKit
open Go.Sort (grow)
set_option linter.unusedVariables false
set_option linter.unusedSimpArgs false

theorem op4_ol {p : P4} {is : Bool} (h : op4 p is = 0) : is = true ∧ ck4 p = true ∧ ol4 p is = tr4 p ∧ tr4 p ≠ [] := by
  unfold op4 at h
  unfold ol4
  cases hc : ck4 p <;> rw [hc] at h
  · simp at h
  cases is
  · simp at h
  cases ht : tr4 p with
  | nil => rw [ht] at h; simp at h
  | cons a l => simp
/-- behind the store of the bench's cells -/
theorem far6 {B0 base n : Nat} {w : World} {A : Option Addr} {hs : List Hb} {xs : List Bu4} (h : BsAt4 B0 base w A n hs xs) {g : Nat} (h1 : B0 ≤ g) (h2 : g < base) (u0 u1 u2 u3 u4 u5 : Value) :
    BsAt4 B0 base ((((((w.setCell ⟨g, 0, none⟩ u0).setCell ⟨g, 1, none⟩ u1).setCell ⟨g, 2, none⟩ u2).setCell ⟨g, 3, none⟩ u3).setCell ⟨g, 4, none⟩ u4).setCell ⟨g, 5, none⟩ u5) A n hs xs :=
  (((((h.far (p := ⟨g, 0, none⟩) h1 h2 u0).far (p := ⟨g, 1, none⟩) h1 h2 u1).far (p := ⟨g, 2, none⟩) h1 h2 u2).far (p := ⟨g, 3, none⟩) h1 h2 u3).far (p := ⟨g, 4, none⟩) h1 h2 u4).far (p := ⟨g, 5, none⟩) h1 h2 u5
theorem cell6 {w : World} {g b j : Nat} {u0 u1 u2 u3 u4 u5 : Value} (h : b ≠ g) :
    ((((((w.setCell ⟨g, 0, none⟩ u0).setCell ⟨g, 1, none⟩ u1).setCell ⟨g, 2, none⟩ u2).setCell ⟨g, 3, none⟩ u3).setCell ⟨g, 4, none⟩ u4).setCell ⟨g, 5, none⟩ u5).cell? ⟨b, j, none⟩ = w.cell? ⟨b, j, none⟩ := by
  have e : ∀ (w : World) (i : Nat) (u : Value), (w.setCell ⟨g, i, none⟩ u).cell? ⟨b, j, none⟩ = w.cell? ⟨b, j, none⟩ := fun w i u => World.cell?_setCell_other _ _ _ _ (by intro h'; simp only [Addr.mk.injEq] at h'; omega)
  rw [e, e, e, e, e, e]
theorem set6 {w : World} {B g : Nat} {u0 u1 u2 u3 u4 u5 : Value} (h : B ≤ g) :
    Below B w ((((((w.setCell ⟨g, 0, none⟩ u0).setCell ⟨g, 1, none⟩ u1).setCell ⟨g, 2, none⟩ u2).setCell ⟨g, 3, none⟩ u3).setCell ⟨g, 4, none⟩ u4).setCell ⟨g, 5, none⟩ u5) :=
  (((((((Below.refl _ _).setCell h _).setCell h _).setCell h _).setCell h _).setCell h _).setCell h _)
def hds4 (p : P4) (pt : Int) : Int := bif op4 p (wn pt 0 1000) == 0 then hd4 (tr4 p) pt else 0
set_option maxRecDepth 100000 in
set_option maxHeartbeats 3200000 in
theorem Holds4_c (Ar : Option Addr) (nr cr : Nat) (Ad : Option Addr) (nd cd : Nat) (p : P4) (pt : Int) (w : World) (hnr : nr ≤ 40) (hnd : nd ≤ 40) (HM : MemP Ar nr Ad nd p w) (hn : ck4 p = true → (tr4 p).length ≤ 90000) :
    Calls Try.prog 24 #[.agg #[.int .i64 p.ir, .int .i64 p.glo, .int .i64 p.ghi, .slice Ar nr cr, .slice Ad nd cd, .int .i64 p.wr], .int .i64 pt] w fun e w' =>
      e = .returned (.tuple #[.int .i64 (hds4 p pt), .int .i64 (op4 p (wn pt 0 1000))]) ∧ Below w.heap.size w w' := by
  have hwi := fun V => within4_c pt 0 1000 V
  have hw0 := wn_true (x := pt) (a := 0) (b := 1000)
  obtain ⟨is, his⟩ : ∃ b, wn pt 0 1000 = b := ⟨_, rfl⟩
  rw [his] at hwi hw0
  have HWI := Lib.hid hwi
  have HOP := Lib.hid (fun V (hV : Below w.heap.size w V) => open4_c Ar nr cr Ad nd cd p is V hnr hnd (HM.later hV) hn)
  have hr := HM.hr.1
  have hd := HM.hd.1
  have HK := Lib.hid (ol4_ok (p := p) (is := is) (by omega) (by omega))
  have hl := ol4_len (p := p) (is := is) hn
  have HH : Hid (op4 p is = 0 → (0 ≤ pt ∧ pt ≤ 1000) ∧ hds4 p pt = hd4 (ol4 p is) pt) := Lib.hid (fun h => by
    obtain ⟨h1, h2, h3, -⟩ := op4_ol h
    refine ⟨hw0.1 h1, ?_⟩
    unfold hds4
    rw [his, h, h3]
    rfl)
  have HH0 : Hid (op4 p is ≠ 0 → hds4 p pt = 0) := Lib.hid (fun h => by
    unfold hds4
    rw [his, show (op4 p is == 0) = false by simpa using h]
    rfl)
  rw [his]
  unfold Op4 at HOP
  obtain ⟨z, hz⟩ : ∃ z, op4 p is = z := ⟨_, rfl⟩
  obtain ⟨l, hll⟩ : ∃ l, ol4 p is = l := ⟨_, rfl⟩
  obtain ⟨r, hrr⟩ : ∃ r, hds4 p pt = r := ⟨_, rfl⟩
  rw [hz, hll] at HOP
  rw [hz, hrr] at HH0
  rw [hz, hrr, hll] at HH
  rw [hll] at HK hl
  rw [hz, hrr]
  obtain ⟨m, hm⟩ : ∃ m, l.length = m := ⟨_, rfl⟩
  rw [hm] at HOP hl
  have HHD := Lib.hid (fun hp A c hs base V (HB : BsAt4 0 base V A m hs l) => holds4_c A m c 0 base hs l pt V hl hp HB HK.out)
  clear HM hr hd hn hz hll hm hl hwi hw0 his hrr
  obtain ⟨ir, glo, ghi, wrg, rods, res⟩ := p
  simp only at HOP ⊢
  go_enter Try.func24, Try.ntmps24
  go_upto_region 1 with (fail)
  go_name_world X hX
  have BX : Below w.heap.size w X := (al1 hX).1
  have q0 := (al1_0 hX).2.1
  have l0 := (al1_0 hX).1
  clear hX
  have HBX := Lib.hid BX
  go_cut [6, 7, 8] (fun t6 t7 t8 (V : World) => ∃ A c hs, t7 = .slice A m c ∧ t8 = .int .i64 z ∧ Hid (BsAt4 0 w.heap.size V A m hs l) ∧ Hid (Below w.heap.size w V))
  case first =>
    as_aux_lemma =>
      refine wp_region_L (by kernel_rfl) (fun w' => ∀ j, w'.cell? ⟨w.heap.size, j, none⟩ = #[Value.int .i64 ir, .int .i64 glo, .int .i64 ghi, .slice Ar nr cr, .slice Ad nd cd, .int .i64 wrg][j]?) 99 ?_
      obtain ⟨Y, hY⟩ : ∃ Y, X.drew = Y := ⟨_, rfl⟩
      rw [hY]
      have BY : Below w.heap.size w Y := by rw [← hY]; (repeat first | with_reducible assumption | with_reducible exact Below.refl _ _ | (with_reducible refine Below.alloc ?_ ?side _; case side => (first | omega | (with_reducible exact Below.size (by assumption)) | (simp; done) | (simp; omega))) | (with_reducible refine Below.setCell ?_ ?side _; case side => (first | omega | (with_reducible exact Below.size (by assumption)) | (simp; done) | (simp; omega))) | with_reducible refine Below.drew ?_ | with_reducible refine below_drewN ?_ _ | (with_reducible refine below_step (by assumption) ?side ?_; case side => (first | omega | (with_reducible exact Below.size (by assumption)) | (simp; done) | (simp; omega))))
      have qY : ∀ j, Y.cell? ⟨w.heap.size, j, none⟩ = #[Value.int .i64 ir, .int .i64 glo, .int .i64 ghi, .slice Ar nr cr, .slice Ad nd cd, .int .i64 wrg][j]? := by rw [← hY]; exact q0
      have lY : w.heap.size < Y.heap.size := by rw [← hY]; exact l0
      clear hY q0 l0 BX HBX X
      have hS := qY
      refine wpAnyL_take (i := 0) (v := ?_) rfl (by kernel_rfl) (by kernel_rfl) (by kernel_rfl) (by kernel_rfl) (fun _ _ _ h => h) hS (Or.inl ⟨by rfl, ?_⟩) ?_
      rotate_left 1
      · intro w9 hw9
        have k0 := hw9
        go_simp
        try with_reducible rfl
      try simp only [List.getElem_toArray, List.getElem_cons_zero, Act.put, List.setIfInBounds_toArray, List.set_cons_zero, List.set_cons_succ]
      refine wpAnyL_take (i := 1) (v := ?_) rfl (by kernel_rfl) (by kernel_rfl) (by kernel_rfl) (by kernel_rfl) (fun _ _ _ h => h) hS (Or.inl ⟨by rfl, ?_⟩) ?_
      rotate_left 1
      · intro w9 hw9
        have k0 := hw9
        go_simp
        try with_reducible rfl
      try simp only [List.getElem_toArray, List.getElem_cons_zero, List.getElem_cons_succ, Act.put, List.setIfInBounds_toArray, List.set_cons_zero, List.set_cons_succ]
      clear hS
      refine wpAnyL_two (i := 2) (j := 8) (by kernel_rfl) rfl rfl (fun K hK => ?_) (fun K hK => ?_)
      · skip
        first | (go_simp; go_at_call 32) | (refine wpAnyL_one (i := 2) (by kernel_rfl) rfl (fun K hK => ?_); go_simp; go_at_call 32)
        refine (HWI.out _).mono ?_
        rintro e w' ⟨rfl, rfl⟩
        refine hK.out _ _ (fun _ => by first | exact qY | exact qZ) (fun _ => ?_)
        clear hK K
        try simp only [List.getElem_toArray, List.getElem_cons_zero, List.getElem_cons_succ, Act.put, List.setIfInBounds_toArray, List.set_cons_zero, List.set_cons_succ]
        refine wpAnyL_two (i := 3) (j := 8) (by kernel_rfl) rfl rfl (fun K hK => ?_) (fun K hK => ?_)
        · skip
          first | (go_simp; go_at_call 44) | (refine wpAnyL_one (i := 3) (by kernel_rfl) rfl (fun K hK => ?_); go_simp; go_at_call 44)
          refine (HOP.out Y BY).mono ?_
          rintro e w1 ⟨A, c, hs, rfl, hBs, hb1⟩
          have HBs := Lib.hid hBs
          have B1 := BY.trans (hb1.mono BY.size)
          have HB1 := Lib.hid hb1
          have l1 : w.heap.size < w1.heap.size := Nat.lt_of_lt_of_le (Nat.lt_of_lt_of_le lY (by first | exact Nat.le_refl _ | exact Nat.le_of_lt lZ)) hb1.size
          have q1 : ∀ j, w1.cell? ⟨w.heap.size, j, none⟩ = #[Value.int .i64 ir, .int .i64 glo, .int .i64 ghi, .slice Ar nr cr, .slice Ad nd cd, .int .i64 wrg][j]? := fun j => (hb1.cell (p := ⟨w.heap.size, j, none⟩) (Nat.lt_of_lt_of_le lY (by first | exact Nat.le_refl _ | exact Nat.le_of_lt lZ))).trans (by first | exact qY j | exact qZ j)
          clear hBs hb1
          refine hK.out _ _ (fun _ => q1) (fun _ => ?_)
          clear hK K
          try simp only [List.getElem_toArray, List.getElem_cons_zero, List.getElem_cons_succ, Act.put, List.setIfInBounds_toArray, List.set_cons_zero, List.set_cons_succ]
          have hS := q1
          refine wpAnyL_take (i := 4) (v := ?_) rfl (by kernel_rfl) (by kernel_rfl) (by kernel_rfl) (by kernel_rfl) (fun _ _ _ h => h) hS (Or.inl ⟨by rfl, ?_⟩) ?_
          rotate_left 1
          · intro w9 hw9
            have k0 := hw9
            go_simp
            try with_reducible rfl
          try simp only [List.getElem_toArray, List.getElem_cons_zero, List.getElem_cons_succ, Act.put, List.setIfInBounds_toArray, List.set_cons_zero, List.set_cons_succ]
          refine wpAnyL_take (i := 5) (v := ?_) rfl (by kernel_rfl) (by kernel_rfl) (by kernel_rfl) (by kernel_rfl) (fun _ _ _ h => h) hS (Or.inl ⟨by rfl, ?_⟩) ?_
          rotate_left 1
          · intro w9 hw9
            have k0 := hw9
            go_simp
            try with_reducible rfl
          try simp only [List.getElem_toArray, List.getElem_cons_zero, List.getElem_cons_succ, Act.put, List.setIfInBounds_toArray, List.set_cons_zero, List.set_cons_succ]
          refine wpAnyL_take (i := 6) (v := ?_) rfl (by kernel_rfl) (by kernel_rfl) (by kernel_rfl) (by kernel_rfl) (fun _ _ _ h => h) hS (Or.inl ⟨by rfl, ?_⟩) ?_
          rotate_left 1
          · intro w9 hw9
            have k0 := hw9
            go_simp
            try with_reducible rfl
          try simp only [List.getElem_toArray, List.getElem_cons_zero, List.getElem_cons_succ, Act.put, List.setIfInBounds_toArray, List.set_cons_zero, List.set_cons_succ]
          refine wpAnyL_take (i := 7) (v := ?_) rfl (by kernel_rfl) (by kernel_rfl) (by kernel_rfl) (by kernel_rfl) (fun _ _ _ h => h) hS (Or.inl ⟨by rfl, ?_⟩) ?_
          rotate_left 1
          · intro w9 hw9
            have k0 := hw9
            go_simp
            try with_reducible rfl
          try simp only [List.getElem_toArray, List.getElem_cons_zero, List.getElem_cons_succ, Act.put, List.setIfInBounds_toArray, List.set_cons_zero, List.set_cons_succ]
          clear hS
          try refine wpAnyL_one (i := 8) (by kernel_rfl) rfl (fun K hK => ?_)
          go_simp
          obtain ⟨Z, hZ⟩ : ∃ Z, w1.alloc (.cells #[.int .i64 0, .int .i64 0, .int .i64 0, .slice none 0 0, .slice none 0 0, .int .i64 0] 62) = Z := ⟨_, rfl⟩
          rw [hZ]
          have BZ : Below w.heap.size w Z := by rw [← hZ]; (repeat first | with_reducible assumption | with_reducible exact Below.refl _ _ | (with_reducible refine Below.alloc ?_ ?side _; case side => (first | omega | (with_reducible exact Below.size (by assumption)) | (simp; done) | (simp; omega))) | (with_reducible refine Below.setCell ?_ ?side _; case side => (first | omega | (with_reducible exact Below.size (by assumption)) | (simp; done) | (simp; omega))) | with_reducible refine Below.drew ?_ | with_reducible refine below_drewN ?_ _ | (with_reducible refine below_step (by assumption) ?side ?_; case side => (first | omega | (with_reducible exact Below.size (by assumption)) | (simp; done) | (simp; omega))))
          have lZ := (al1_0 hZ).1
          have kZ := (al1_0 hZ).2.1
          have fZ := (al1_0 hZ).2.2
          have HZ0 : Hid (Blk Z w1.heap.size 62 #[.int .i64 0, .int .i64 0, .int .i64 0, .slice none 0 0, .slice none 0 0, .int .i64 0]) := by rw [← hZ]; exact Lib.hid (Blk.new _ _ _)
          have qZ : ∀ j, Z.cell? ⟨w.heap.size, j, none⟩ = #[Value.int .i64 ir, .int .i64 glo, .int .i64 ghi, .slice Ar nr cr, .slice Ad nd cd, .int .i64 wrg][j]? := fun j => ((al1 hZ).1.cell (p := ⟨w.heap.size, j, none⟩) (by first | exact lY | exact l1)).trans (by first | exact qY j | exact q1 j)
          refine hK.out _ _ (fun _ => qZ) (fun _ => ?_)
          clear hK K
          try simp only [List.getElem_toArray, List.getElem_cons_zero, List.getElem_cons_succ, Act.put, List.setIfInBounds_toArray, List.set_cons_zero, List.set_cons_succ]
          refine wpAnyL_one (i := 9) (by kernel_rfl) rfl (fun K hK => ?_)
          go_simp
          refine hK.out _ _ (fun _ => fun j => (cell6 (by omega)).trans (by first | exact q1 j | exact qZ j)) (fun _ => ?_)
          clear hK K
          try simp only [List.getElem_toArray, List.getElem_cons_zero, List.getElem_cons_succ, Act.put, List.setIfInBounds_toArray, List.set_cons_zero, List.set_cons_succ]
          refine wpAnyL_one (i := 10) (by kernel_rfl) rfl (fun K hK => ?_)
          go_simp
          refine hK.out _ _ (fun _ => fun j => (cell6 (by omega)).trans (by first | exact q1 j | exact qZ j)) (fun _ => ?_)
          clear hK K
          refine wpAnyL_one (i := 11) (by kernel_rfl) rfl (fun K hK => ?_)
          go_simp
          refine hK.out _ _ (fun _ => fun j => (cell6 (by omega)).trans (by first | exact q1 j | exact qZ j)) (fun _ => ?_)
          clear hK K
          refine wpAnyL_done (by kernel_rfl) ?_ _
          go_wp2_with fail
          go_meet
          exact ⟨A, c, hs, rfl, rfl, Lib.hid ((HBs.out.later ((al1 hZ).1.trans (set6 (B := w1.heap.size) (Nat.le_refl _)))).lower (Nat.le_of_lt lY)), Lib.hid (BZ.trans (set6 (B := w.heap.size) (Nat.le_of_lt l1)))⟩
        · skip
          try refine wpAnyL_one (i := 8) (by kernel_rfl) rfl (fun K hK => ?_)
          go_simp
          obtain ⟨Z, hZ⟩ : ∃ Z, Y.alloc (.cells #[.int .i64 0, .int .i64 0, .int .i64 0, .slice none 0 0, .slice none 0 0, .int .i64 0] 62) = Z := ⟨_, rfl⟩
          rw [hZ]
          have BZ : Below w.heap.size w Z := by rw [← hZ]; (repeat first | with_reducible assumption | with_reducible exact Below.refl _ _ | (with_reducible refine Below.alloc ?_ ?side _; case side => (first | omega | (with_reducible exact Below.size (by assumption)) | (simp; done) | (simp; omega))) | (with_reducible refine Below.setCell ?_ ?side _; case side => (first | omega | (with_reducible exact Below.size (by assumption)) | (simp; done) | (simp; omega))) | with_reducible refine Below.drew ?_ | with_reducible refine below_drewN ?_ _ | (with_reducible refine below_step (by assumption) ?side ?_; case side => (first | omega | (with_reducible exact Below.size (by assumption)) | (simp; done) | (simp; omega))))
          have lZ := (al1_0 hZ).1
          have kZ := (al1_0 hZ).2.1
          have fZ := (al1_0 hZ).2.2
          have HZ0 : Hid (Blk Z Y.heap.size 62 #[.int .i64 0, .int .i64 0, .int .i64 0, .slice none 0 0, .slice none 0 0, .int .i64 0]) := by rw [← hZ]; exact Lib.hid (Blk.new _ _ _)
          have qZ : ∀ j, Z.cell? ⟨w.heap.size, j, none⟩ = #[Value.int .i64 ir, .int .i64 glo, .int .i64 ghi, .slice Ar nr cr, .slice Ad nd cd, .int .i64 wrg][j]? := fun j => ((al1 hZ).1.cell (p := ⟨w.heap.size, j, none⟩) (by first | exact lY | exact l1)).trans (by first | exact qY j | exact q1 j)
          refine hK.out _ _ (fun _ => qZ) (fun _ => ?_)
          clear hK K
          try simp only [List.getElem_toArray, List.getElem_cons_zero, List.getElem_cons_succ, Act.put, List.setIfInBounds_toArray, List.set_cons_zero, List.set_cons_succ]
          first | (go_simp; go_at_call 44) | (refine wpAnyL_one (i := 3) (by kernel_rfl) rfl (fun K hK => ?_); go_simp; go_at_call 44)
          refine (HOP.out Z BZ).mono ?_
          rintro e w1 ⟨A, c, hs, rfl, hBs, hb1⟩
          have HBs := Lib.hid hBs
          have B1 := BZ.trans (hb1.mono BZ.size)
          have HB1 := Lib.hid hb1
          have l1 : w.heap.size < w1.heap.size := Nat.lt_of_lt_of_le (Nat.lt_of_lt_of_le lY (by first | exact Nat.le_refl _ | exact Nat.le_of_lt lZ)) hb1.size
          have q1 : ∀ j, w1.cell? ⟨w.heap.size, j, none⟩ = #[Value.int .i64 ir, .int .i64 glo, .int .i64 ghi, .slice Ar nr cr, .slice Ad nd cd, .int .i64 wrg][j]? := fun j => (hb1.cell (p := ⟨w.heap.size, j, none⟩) (Nat.lt_of_lt_of_le lY (by first | exact Nat.le_refl _ | exact Nat.le_of_lt lZ))).trans (by first | exact qY j | exact qZ j)
          clear hBs hb1
          refine hK.out _ _ (fun _ => q1) (fun _ => ?_)
          clear hK K
          try simp only [List.getElem_toArray, List.getElem_cons_zero, List.getElem_cons_succ, Act.put, List.setIfInBounds_toArray, List.set_cons_zero, List.set_cons_succ]
          have hS := q1
          refine wpAnyL_take (i := 4) (v := ?_) rfl (by kernel_rfl) (by kernel_rfl) (by kernel_rfl) (by kernel_rfl) (fun _ _ _ h => h) hS (Or.inl ⟨by rfl, ?_⟩) ?_
          rotate_left 1
          · intro w9 hw9
            have k0 := hw9
            go_simp
            try with_reducible rfl
          try simp only [List.getElem_toArray, List.getElem_cons_zero, List.getElem_cons_succ, Act.put, List.setIfInBounds_toArray, List.set_cons_zero, List.set_cons_succ]
          refine wpAnyL_take (i := 5) (v := ?_) rfl (by kernel_rfl) (by kernel_rfl) (by kernel_rfl) (by kernel_rfl) (fun _ _ _ h => h) hS (Or.inl ⟨by rfl, ?_⟩) ?_
          rotate_left 1
          · intro w9 hw9
            have k0 := hw9
            go_simp
            try with_reducible rfl
          try simp only [List.getElem_toArray, List.getElem_cons_zero, List.getElem_cons_succ, Act.put, List.setIfInBounds_toArray, List.set_cons_zero, List.set_cons_succ]
          refine wpAnyL_take (i := 6) (v := ?_) rfl (by kernel_rfl) (by kernel_rfl) (by kernel_rfl) (by kernel_rfl) (fun _ _ _ h => h) hS (Or.inl ⟨by rfl, ?_⟩) ?_
          rotate_left 1
          · intro w9 hw9
            have k0 := hw9
            go_simp
            try with_reducible rfl
          try simp only [List.getElem_toArray, List.getElem_cons_zero, List.getElem_cons_succ, Act.put, List.setIfInBounds_toArray, List.set_cons_zero, List.set_cons_succ]
          refine wpAnyL_take (i := 7) (v := ?_) rfl (by kernel_rfl) (by kernel_rfl) (by kernel_rfl) (by kernel_rfl) (fun _ _ _ h => h) hS (Or.inl ⟨by rfl, ?_⟩) ?_
          rotate_left 1
          · intro w9 hw9
            have k0 := hw9
            go_simp
            try with_reducible rfl
          try simp only [List.getElem_toArray, List.getElem_cons_zero, List.getElem_cons_succ, Act.put, List.setIfInBounds_toArray, List.set_cons_zero, List.set_cons_succ]
          clear hS
          clear kZ fZ
          have HZ1 := Lib.hid (HZ0.out.below HB1.out HZ0.out.lt)
          have kZ := HZ1.out.cell
          have fZ := HZ1.out.frozen
          have lz1 := HZ1.out.lt
          refine wpAnyL_one (i := 9) (by kernel_rfl) rfl (fun K hK => ?_)
          go_simp
          refine hK.out _ _ (fun _ => fun j => (cell6 (by omega)).trans (by first | exact q1 j | exact qZ j)) (fun _ => ?_)
          clear hK K
          try simp only [List.getElem_toArray, List.getElem_cons_zero, List.getElem_cons_succ, Act.put, List.setIfInBounds_toArray, List.set_cons_zero, List.set_cons_succ]
          refine wpAnyL_one (i := 10) (by kernel_rfl) rfl (fun K hK => ?_)
          go_simp
          refine hK.out _ _ (fun _ => fun j => (cell6 (by omega)).trans (by first | exact q1 j | exact qZ j)) (fun _ => ?_)
          clear hK K
          refine wpAnyL_one (i := 11) (by kernel_rfl) rfl (fun K hK => ?_)
          go_simp
          refine hK.out _ _ (fun _ => fun j => (cell6 (by omega)).trans (by first | exact q1 j | exact qZ j)) (fun _ => ?_)
          clear hK K
          refine wpAnyL_done (by kernel_rfl) ?_ _
          go_wp2_with fail
          go_meet
          exact ⟨A, c, hs, rfl, rfl, Lib.hid ((far6 HBs.out (Nat.zero_le _) lZ _ _ _ _ _ _).lower (Nat.le_trans (Nat.le_of_lt lY) (Nat.le_of_lt lZ))), Lib.hid (B1.trans (set6 (B := w.heap.size) (Nat.le_of_lt lY)))⟩
      · skip
        try refine wpAnyL_one (i := 8) (by kernel_rfl) rfl (fun K hK => ?_)
        go_simp
        obtain ⟨Z, hZ⟩ : ∃ Z, Y.alloc (.cells #[.int .i64 0, .int .i64 0, .int .i64 0, .slice none 0 0, .slice none 0 0, .int .i64 0] 62) = Z := ⟨_, rfl⟩
        rw [hZ]
        have BZ : Below w.heap.size w Z := by rw [← hZ]; (repeat first | with_reducible assumption | with_reducible exact Below.refl _ _ | (with_reducible refine Below.alloc ?_ ?side _; case side => (first | omega | (with_reducible exact Below.size (by assumption)) | (simp; done) | (simp; omega))) | (with_reducible refine Below.setCell ?_ ?side _; case side => (first | omega | (with_reducible exact Below.size (by assumption)) | (simp; done) | (simp; omega))) | with_reducible refine Below.drew ?_ | with_reducible refine below_drewN ?_ _ | (with_reducible refine below_step (by assumption) ?side ?_; case side => (first | omega | (with_reducible exact Below.size (by assumption)) | (simp; done) | (simp; omega))))
        have lZ := (al1_0 hZ).1
        have kZ := (al1_0 hZ).2.1
        have fZ := (al1_0 hZ).2.2
        have HZ0 : Hid (Blk Z Y.heap.size 62 #[.int .i64 0, .int .i64 0, .int .i64 0, .slice none 0 0, .slice none 0 0, .int .i64 0]) := by rw [← hZ]; exact Lib.hid (Blk.new _ _ _)
        have qZ : ∀ j, Z.cell? ⟨w.heap.size, j, none⟩ = #[Value.int .i64 ir, .int .i64 glo, .int .i64 ghi, .slice Ar nr cr, .slice Ad nd cd, .int .i64 wrg][j]? := fun j => ((al1 hZ).1.cell (p := ⟨w.heap.size, j, none⟩) (by first | exact lY | exact l1)).trans (by first | exact qY j | exact q1 j)
        refine hK.out _ _ (fun _ => qZ) (fun _ => ?_)
        clear hK K
        try simp only [List.getElem_toArray, List.getElem_cons_zero, List.getElem_cons_succ, Act.put, List.setIfInBounds_toArray, List.set_cons_zero, List.set_cons_succ]
        first | (go_simp; go_at_call 32) | (refine wpAnyL_one (i := 2) (by kernel_rfl) rfl (fun K hK => ?_); go_simp; go_at_call 32)
        refine (HWI.out _).mono ?_
        rintro e w' ⟨rfl, rfl⟩
        refine hK.out _ _ (fun _ => by first | exact qY | exact qZ) (fun _ => ?_)
        clear hK K
        try simp only [List.getElem_toArray, List.getElem_cons_zero, List.getElem_cons_succ, Act.put, List.setIfInBounds_toArray, List.set_cons_zero, List.set_cons_succ]
        first | (go_simp; go_at_call 44) | (refine wpAnyL_one (i := 3) (by kernel_rfl) rfl (fun K hK => ?_); go_simp; go_at_call 44)
        refine (HOP.out Z BZ).mono ?_
        rintro e w1 ⟨A, c, hs, rfl, hBs, hb1⟩
        have HBs := Lib.hid hBs
        have B1 := BZ.trans (hb1.mono BZ.size)
        have HB1 := Lib.hid hb1
        have l1 : w.heap.size < w1.heap.size := Nat.lt_of_lt_of_le (Nat.lt_of_lt_of_le lY (by first | exact Nat.le_refl _ | exact Nat.le_of_lt lZ)) hb1.size
        have q1 : ∀ j, w1.cell? ⟨w.heap.size, j, none⟩ = #[Value.int .i64 ir, .int .i64 glo, .int .i64 ghi, .slice Ar nr cr, .slice Ad nd cd, .int .i64 wrg][j]? := fun j => (hb1.cell (p := ⟨w.heap.size, j, none⟩) (Nat.lt_of_lt_of_le lY (by first | exact Nat.le_refl _ | exact Nat.le_of_lt lZ))).trans (by first | exact qY j | exact qZ j)
        clear hBs hb1
        refine hK.out _ _ (fun _ => q1) (fun _ => ?_)
        clear hK K
        try simp only [List.getElem_toArray, List.getElem_cons_zero, List.getElem_cons_succ, Act.put, List.setIfInBounds_toArray, List.set_cons_zero, List.set_cons_succ]
        have hS := q1
        refine wpAnyL_take (i := 4) (v := ?_) rfl (by kernel_rfl) (by kernel_rfl) (by kernel_rfl) (by kernel_rfl) (fun _ _ _ h => h) hS (Or.inl ⟨by rfl, ?_⟩) ?_
        rotate_left 1
        · intro w9 hw9
          have k0 := hw9
          go_simp
          try with_reducible rfl
        try simp only [List.getElem_toArray, List.getElem_cons_zero, List.getElem_cons_succ, Act.put, List.setIfInBounds_toArray, List.set_cons_zero, List.set_cons_succ]
        refine wpAnyL_take (i := 5) (v := ?_) rfl (by kernel_rfl) (by kernel_rfl) (by kernel_rfl) (by kernel_rfl) (fun _ _ _ h => h) hS (Or.inl ⟨by rfl, ?_⟩) ?_
        rotate_left 1
        · intro w9 hw9
          have k0 := hw9
          go_simp
          try with_reducible rfl
        try simp only [List.getElem_toArray, List.getElem_cons_zero, List.getElem_cons_succ, Act.put, List.setIfInBounds_toArray, List.set_cons_zero, List.set_cons_succ]
        refine wpAnyL_take (i := 6) (v := ?_) rfl (by kernel_rfl) (by kernel_rfl) (by kernel_rfl) (by kernel_rfl) (fun _ _ _ h => h) hS (Or.inl ⟨by rfl, ?_⟩) ?_
        rotate_left 1
        · intro w9 hw9
          have k0 := hw9
          go_simp
          try with_reducible rfl
        try simp only [List.getElem_toArray, List.getElem_cons_zero, List.getElem_cons_succ, Act.put, List.setIfInBounds_toArray, List.set_cons_zero, List.set_cons_succ]
        refine wpAnyL_take (i := 7) (v := ?_) rfl (by kernel_rfl) (by kernel_rfl) (by kernel_rfl) (by kernel_rfl) (fun _ _ _ h => h) hS (Or.inl ⟨by rfl, ?_⟩) ?_
        rotate_left 1
        · intro w9 hw9
          have k0 := hw9
          go_simp
          try with_reducible rfl
        try simp only [List.getElem_toArray, List.getElem_cons_zero, List.getElem_cons_succ, Act.put, List.setIfInBounds_toArray, List.set_cons_zero, List.set_cons_succ]
        clear hS
        clear kZ fZ
        have HZ1 := Lib.hid (HZ0.out.below HB1.out HZ0.out.lt)
        have kZ := HZ1.out.cell
        have fZ := HZ1.out.frozen
        have lz1 := HZ1.out.lt
        refine wpAnyL_one (i := 9) (by kernel_rfl) rfl (fun K hK => ?_)
        go_simp
        refine hK.out _ _ (fun _ => fun j => (cell6 (by omega)).trans (by first | exact q1 j | exact qZ j)) (fun _ => ?_)
        clear hK K
        try simp only [List.getElem_toArray, List.getElem_cons_zero, List.getElem_cons_succ, Act.put, List.setIfInBounds_toArray, List.set_cons_zero, List.set_cons_succ]
        refine wpAnyL_one (i := 10) (by kernel_rfl) rfl (fun K hK => ?_)
        go_simp
        refine hK.out _ _ (fun _ => fun j => (cell6 (by omega)).trans (by first | exact q1 j | exact qZ j)) (fun _ => ?_)
        clear hK K
        refine wpAnyL_one (i := 11) (by kernel_rfl) rfl (fun K hK => ?_)
        go_simp
        refine hK.out _ _ (fun _ => fun j => (cell6 (by omega)).trans (by first | exact q1 j | exact qZ j)) (fun _ => ?_)
        clear hK K
        refine wpAnyL_done (by kernel_rfl) ?_ _
        go_wp2_with fail
        go_meet
        exact ⟨A, c, hs, rfl, rfl, Lib.hid ((far6 HBs.out (Nat.zero_le _) lZ _ _ _ _ _ _).lower (Nat.le_trans (Nat.le_of_lt lY) (Nat.le_of_lt lZ))), Lib.hid (B1.trans (set6 (B := w.heap.size) (Nat.le_of_lt lY)))⟩
  case rest =>
  obtain ⟨A, c, hs, rfl, rfl, HBs, HBV⟩ := hcut
  obtain ⟨V, hV⟩ : ∃ Z, wc = Z := ⟨_, rfl⟩
  rw [hV] at HBs HBV ⊢
  clear hV
  have BV := HBV.out
  by_cases hz0 : z = 0
  · subst hz0
    obtain ⟨hp, rfl⟩ := HH.out rfl
    have HHH := Lib.hid (HHD.out hp A c hs _ V HBs.out)
    clear hp HH0 HH HHD
    go_wp2_with (go_at_call 56; refine HHH.out.mono ?_; (rintro e w2 ⟨rfl, hb2⟩); (have B2 := BV.trans (hb2.mono BV.size)); clear hb2)
    exact bodyPost_ret (v := .tuple #[.int .i64 (hd4 l pt), .int .i64 0]) (by simp [results, Try.results24, go_sem]) rfl ⟨rfl, by (repeat first | with_reducible assumption | with_reducible exact Below.refl _ _ | (with_reducible refine Below.alloc ?_ ?side _; case side => (first | omega | (with_reducible exact Below.size (by assumption)) | (simp; done) | (simp; omega))) | (with_reducible refine Below.setCell ?_ ?side _; case side => (first | omega | (with_reducible exact Below.size (by assumption)) | (simp; done) | (simp; omega))) | with_reducible refine Below.drew ?_ | with_reducible refine below_drewN ?_ _ | (with_reducible refine below_step (by assumption) ?side ?_; case side => (first | omega | (with_reducible exact Below.size (by assumption)) | (simp; done) | (simp; omega))))⟩
  · obtain rfl : r = 0 := HH0.out hz0
    have hzb : (z == 0) = false := by simpa using hz0
    have hzn : (z != 0) = true := by simpa using hz0
    clear HHD HH HH0
    go_wp2_with fail
    exact bodyPost_ret (v := .tuple #[.int .i64 0, .int .i64 z]) (by simp [results, Try.results24, go_sem]) rfl ⟨rfl, by (repeat first | with_reducible assumption | with_reducible exact Below.refl _ _ | (with_reducible refine Below.alloc ?_ ?side _; case side => (first | omega | (with_reducible exact Below.size (by assumption)) | (simp; done) | (simp; omega))) | (with_reducible refine Below.setCell ?_ ?side _; case side => (first | omega | (with_reducible exact Below.size (by assumption)) | (simp; done) | (simp; omega))) | with_reducible refine Below.drew ?_ | with_reducible refine below_drewN ?_ _ | (with_reducible refine below_step (by assumption) ?side ?_; case side => (first | omega | (with_reducible exact Below.size (by assumption)) | (simp; done) | (simp; omega))))⟩

end Go.Proofs.Ytmmgkmdfecnkdaa
