/- Rods of stretch (layer 4): all lengths of a rod. -/
import Derived.Test.YtmmgkmdfecnkdaaQa26
import Derived.Test.YtmmgkmdfecnkdaaQa25
import Derived.BigRegionIn
import Derived.Shelf.RegionOpen
import Derived.Deep.DrawnRows
import Derived.Deep.DeepCutAuto
namespace Go.Proofs.Ytmmgkmdfecnkdaa
open Go.RowKit
open Go.Sort (grow)
set_option linter.unusedVariables false
set_option linter.unusedSimpArgs false

def rds4 (p : P4) (rod : Int) : List Int := bif op4 p (wn rod 0 ((p.rods.length : Int) - 1)) == 0 then rl4 (tr4 p) rod.toNat else []
theorem ol4_okw {p : P4} {is : Bool} : ∀ x ∈ ol4 p is, OkW x.u := by
  intro x hx
  unfold ol4 at hx
  cases h : ck4 p
  · rw [h] at hx; simp at hx
  cases is
  · simp at hx
  rw [h] at hx
  simp only [Bool.and_self, cond_true] at hx
  exact ws4_ok (ok4_of h rfl rfl) (mem_tr4.1 hx).1.1
theorem nil_ints (w : World) : IntsAt w none 0 [] := ⟨rfl, fun h => absurd h (by omega)⟩
set_option maxRecDepth 100000 in
set_option maxHeartbeats 3200000 in
theorem rods4_c (Ar : Option Addr) (nr cr : Nat) (Ad : Option Addr) (nd cd : Nat) (p : P4) (rod : Int) (w : World) (hnr : nr ≤ 40) (hnd : nd ≤ 40) (HM : MemP Ar nr Ad nd p w) (hn : ck4 p = true → (tr4 p).length ≤ 90000) :
    Calls Try.prog 16 #[.agg #[.int .i64 p.ir, .int .i64 p.glo, .int .i64 p.ghi, .slice Ar nr cr, .slice Ad nd cd, .int .i64 p.wr], .int .i64 rod] w fun e w' =>
      ∃ A c, e = .returned (.tuple #[.slice A (rds4 p rod).length c, .int .i64 (op4 p (wn rod 0 ((p.rods.length : Int) - 1)))]) ∧ IntsAt w' A (rds4 p rod).length (rds4 p rod) ∧ Below w.heap.size w w' := by
  have hr := HM.hr.1
  have hd := HM.hd.1
  have hwi := fun V => within4_c rod 0 ((nr : Int) - 1) V
  have hw0 := wn_true (x := rod) (a := 0) (b := (nr : Int) - 1)
  have hra : rds4 p rod = bif op4 p (wn rod 0 ((p.rods.length : Int) - 1)) == 0 then rl4 (tr4 p) rod.toNat else [] := rfl
  rw [hr] at hra ⊢
  obtain ⟨is, his⟩ : ∃ b, wn rod 0 ((nr : Int) - 1) = b := ⟨_, rfl⟩
  rw [his] at hwi hw0 hra ⊢
  have HWI := Lib.hid hwi
  have HOP := Lib.hid (fun V (hV : Below w.heap.size w V) => open4_c Ar nr cr Ad nd cd p is V hnr hnd (HM.later hV) hn)
  have HK := Lib.hid (ol4_okw (p := p) (is := is))
  have hl := ol4_len (p := p) (is := is) hn
  have HH : Hid (op4 p is = 0 → (∃ q : Nat, rod = q ∧ q < 4) ∧ rds4 p rod = rl4 (ol4 p is) rod.toNat) := Lib.hid (fun h => by
    obtain ⟨h1, h2, h3, -⟩ := op4_ol h
    have h4 := hw0.1 h1
    have h5 := (ok4_of (nr := nr) (nd := nd) h2 hr hd).nr4
    refine ⟨⟨rod.toNat, by omega, by omega⟩, ?_⟩
    rw [hra, h, h3]
    rfl)
  have HH0 : Hid (op4 p is ≠ 0 → rds4 p rod = []) := Lib.hid (fun h => by
    rw [hra, show (op4 p is == 0) = false by simpa using h]
    rfl)
  unfold Op4 at HOP
  obtain ⟨z, hz⟩ : ∃ z, op4 p is = z := ⟨_, rfl⟩
  obtain ⟨l, hll⟩ : ∃ l, ol4 p is = l := ⟨_, rfl⟩
  obtain ⟨r, hrr⟩ : ∃ r, rds4 p rod = r := ⟨_, rfl⟩
  rw [hz, hll] at HOP
  rw [hz, hrr] at HH0
  rw [hz, hrr, hll] at HH
  rw [hll] at HK hl
  rw [hz, hrr]
  obtain ⟨m, hm⟩ : ∃ m, l.length = m := ⟨_, rfl⟩
  rw [hm] at HOP hl
  have HHD := Lib.hid (fun q (hq : q < 4) A c hs base V (HB : BsAt4 0 base V A m hs l) => lengthsOf4_c A m c 0 base hs l q hq V hl HB HK.out)
  clear HM hr hd hn hz hll hm hl hwi hw0 his hrr hra
  have vn : IntKind.i64.wrap ((nr : Int) - 1) = (nr : Int) - 1 := IntWalk.i64_in _ (by omega)
  obtain ⟨ir, glo, ghi, wrg, rods, res⟩ := p
  simp only at HOP ⊢
  go_enter Try.func16, Try.ntmps16
  go_upto_region 1 with (fail)
  go_name_world X hX
  have BX : Below w.heap.size w X := (al1 hX).1
  have q0 := (al1_0 hX).2.1
  have l0 := (al1_0 hX).1
  clear hX
  have HBX := Lib.hid BX
  go_cut [6, 7, 8] (fun t6 t7 t8 (V : World) => ∃ A c hs, t7 = .slice A m c ∧ t8 = .int .i64 z ∧ Hid (BsAt4 0 w.heap.size V A m hs l) ∧ Hid (Below w.heap.size w V))
  case first =>
    as_aux_lemma =>
      refine wp_region_L (by kernel_rfl) (fun w' => ∀ j, w'.cell? ⟨w.heap.size, j, none⟩ = #[Value.int .i64 ir, .int .i64 glo, .int .i64 ghi, .slice Ar nr cr, .slice Ad nd cd, .int .i64 wrg][j]?) 99 ?_
      obtain ⟨Y, hY⟩ : ∃ Y, X.drew = Y := ⟨_, rfl⟩
      rw [hY]
      have BY : Below w.heap.size w Y := by rw [← hY]; (repeat first | with_reducible assumption | with_reducible exact Below.refl _ _ | (with_reducible refine Below.alloc ?_ ?side _; case side => (first | omega | (with_reducible exact Below.size (by assumption)) | (simp; done) | (simp; omega))) | (with_reducible refine Below.setCell ?_ ?side _; case side => (first | omega | (with_reducible exact Below.size (by assumption)) | (simp; done) | (simp; omega))) | with_reducible refine Below.drew ?_ | with_reducible refine below_drewN ?_ _ | (with_reducible refine below_step (by assumption) ?side ?_; case side => (first | omega | (with_reducible exact Below.size (by assumption)) | (simp; done) | (simp; omega))))
      have qY : ∀ j, Y.cell? ⟨w.heap.size, j, none⟩ = #[Value.int .i64 ir, .int .i64 glo, .int .i64 ghi, .slice Ar nr cr, .slice Ad nd cd, .int .i64 wrg][j]? := by rw [← hY]; exact q0
      have lY : w.heap.size < Y.heap.size := by rw [← hY]; exact l0
      clear hY q0 l0 BX HBX X
      have hS := qY
      refine wpAnyL_take (i := 0) (v := ?_) rfl (by kernel_rfl) (by kernel_rfl) (by kernel_rfl) (by kernel_rfl) (fun _ _ _ h => h) hS (Or.inl ⟨by rfl, ?_⟩) ?_
      rotate_left 1
      · intro w9 hw9
        have k0 := hw9
        go_simp
        try with_reducible rfl
      try simp only [List.getElem_toArray, List.getElem_cons_zero, Act.put, List.setIfInBounds_toArray, List.set_cons_zero, List.set_cons_succ]
      refine wpAnyL_take (i := 1) (v := ?_) rfl (by kernel_rfl) (by kernel_rfl) (by kernel_rfl) (by kernel_rfl) (fun _ _ _ h => h) hS (Or.inl ⟨by rfl, ?_⟩) ?_
      rotate_left 1
      · intro w9 hw9
        have k0 := hw9
        go_simp
        try with_reducible rfl
      try simp only [List.getElem_toArray, List.getElem_cons_zero, List.getElem_cons_succ, Act.put, List.setIfInBounds_toArray, List.set_cons_zero, List.set_cons_succ]
      refine wpAnyL_take (i := 2) (v := ?_) rfl (by kernel_rfl) (by kernel_rfl) (by kernel_rfl) (by kernel_rfl) (fun _ _ _ h => h) hS (Or.inl ⟨by rfl, ?_⟩) ?_
      rotate_left 1
      · intro w9 hw9
        have k0 := hw9
        go_simp
        try with_reducible rfl
      try simp only [List.getElem_toArray, List.getElem_cons_zero, List.getElem_cons_succ, Act.put, List.setIfInBounds_toArray, List.set_cons_zero, List.set_cons_succ]
      refine wpAnyL_take (i := 3) (v := ?_) rfl (by kernel_rfl) (by kernel_rfl) (by kernel_rfl) (by kernel_rfl) (fun _ _ _ h => h) hS (Or.inl ⟨by rfl, ?_⟩) ?_
      rotate_left 1
      · intro w9 hw9
        have k0 := hw9
        go_simp
        try with_reducible rfl
      try simp only [List.getElem_toArray, List.getElem_cons_zero, List.getElem_cons_succ, Act.put, List.setIfInBounds_toArray, List.set_cons_zero, List.set_cons_succ]
      refine wpAnyL_take (i := 4) (v := ?_) rfl (by kernel_rfl) (by kernel_rfl) (by kernel_rfl) (by kernel_rfl) (fun _ _ _ h => h) hS (Or.inl ⟨by rfl, ?_⟩) ?_
      rotate_left 1
      · intro w9 hw9
        have k0 := hw9
        go_simp
        try with_reducible rfl
      try simp only [List.getElem_toArray, List.getElem_cons_zero, List.getElem_cons_succ, Act.put, List.setIfInBounds_toArray, List.set_cons_zero, List.set_cons_succ]
      refine wpAnyL_take (i := 5) (v := ?_) rfl (by kernel_rfl) (by kernel_rfl) (by kernel_rfl) (by kernel_rfl) (fun _ _ _ h => h) hS (Or.inl ⟨by rfl, ?_⟩) ?_
      rotate_left 1
      · intro w9 hw9
        have k0 := hw9
        go_simp
        try with_reducible rfl
      try simp only [List.getElem_toArray, List.getElem_cons_zero, List.getElem_cons_succ, Act.put, List.setIfInBounds_toArray, List.set_cons_zero, List.set_cons_succ]
      clear hS
      refine wpAnyL_two (i := 6) (j := 12) (by kernel_rfl) rfl rfl (fun K hK => ?_) (fun K hK => ?_)
      · skip
        first | (go_simp; go_at_call 32) | (refine wpAnyL_one (i := 6) (by kernel_rfl) rfl (fun K hK => ?_); go_simp; go_at_call 32)
        refine (HWI.out _).mono ?_
        rintro e w' ⟨rfl, rfl⟩
        refine hK.out _ _ (fun _ => by first | exact qY | exact qZ) (fun _ => ?_)
        clear hK K
        try simp only [List.getElem_toArray, List.getElem_cons_zero, List.getElem_cons_succ, Act.put, List.setIfInBounds_toArray, List.set_cons_zero, List.set_cons_succ]
        refine wpAnyL_two (i := 7) (j := 12) (by kernel_rfl) rfl rfl (fun K hK => ?_) (fun K hK => ?_)
        · skip
          first | (go_simp; go_at_call 44) | (refine wpAnyL_one (i := 7) (by kernel_rfl) rfl (fun K hK => ?_); go_simp; go_at_call 44)
          refine (HOP.out Y BY).mono ?_
          rintro e w1 ⟨A, c, hs, rfl, hBs, hb1⟩
          have HBs := Lib.hid hBs
          have B1 := BY.trans (hb1.mono BY.size)
          have HB1 := Lib.hid hb1
          have l1 : w.heap.size < w1.heap.size := Nat.lt_of_lt_of_le (Nat.lt_of_lt_of_le lY (by first | exact Nat.le_refl _ | exact Nat.le_of_lt lZ)) hb1.size
          have q1 : ∀ j, w1.cell? ⟨w.heap.size, j, none⟩ = #[Value.int .i64 ir, .int .i64 glo, .int .i64 ghi, .slice Ar nr cr, .slice Ad nd cd, .int .i64 wrg][j]? := fun j => (hb1.cell (p := ⟨w.heap.size, j, none⟩) (Nat.lt_of_lt_of_le lY (by first | exact Nat.le_refl _ | exact Nat.le_of_lt lZ))).trans (by first | exact qY j | exact qZ j)
          clear hBs hb1
          refine hK.out _ _ (fun _ => q1) (fun _ => ?_)
          clear hK K
          try simp only [List.getElem_toArray, List.getElem_cons_zero, List.getElem_cons_succ, Act.put, List.setIfInBounds_toArray, List.set_cons_zero, List.set_cons_succ]
          have hS := q1
          refine wpAnyL_take (i := 8) (v := ?_) rfl (by kernel_rfl) (by kernel_rfl) (by kernel_rfl) (by kernel_rfl) (fun _ _ _ h => h) hS (Or.inl ⟨by rfl, ?_⟩) ?_
          rotate_left 1
          · intro w9 hw9
            have k0 := hw9
            go_simp
            try with_reducible rfl
          try simp only [List.getElem_toArray, List.getElem_cons_zero, List.getElem_cons_succ, Act.put, List.setIfInBounds_toArray, List.set_cons_zero, List.set_cons_succ]
          refine wpAnyL_take (i := 9) (v := ?_) rfl (by kernel_rfl) (by kernel_rfl) (by kernel_rfl) (by kernel_rfl) (fun _ _ _ h => h) hS (Or.inl ⟨by rfl, ?_⟩) ?_
          rotate_left 1
          · intro w9 hw9
            have k0 := hw9
            go_simp
            try with_reducible rfl
          try simp only [List.getElem_toArray, List.getElem_cons_zero, List.getElem_cons_succ, Act.put, List.setIfInBounds_toArray, List.set_cons_zero, List.set_cons_succ]
          refine wpAnyL_take (i := 10) (v := ?_) rfl (by kernel_rfl) (by kernel_rfl) (by kernel_rfl) (by kernel_rfl) (fun _ _ _ h => h) hS (Or.inl ⟨by rfl, ?_⟩) ?_
          rotate_left 1
          · intro w9 hw9
            have k0 := hw9
            go_simp
            try with_reducible rfl
          try simp only [List.getElem_toArray, List.getElem_cons_zero, List.getElem_cons_succ, Act.put, List.setIfInBounds_toArray, List.set_cons_zero, List.set_cons_succ]
          refine wpAnyL_take (i := 11) (v := ?_) rfl (by kernel_rfl) (by kernel_rfl) (by kernel_rfl) (by kernel_rfl) (fun _ _ _ h => h) hS (Or.inl ⟨by rfl, ?_⟩) ?_
          rotate_left 1
          · intro w9 hw9
            have k0 := hw9
            go_simp
            try with_reducible rfl
          try simp only [List.getElem_toArray, List.getElem_cons_zero, List.getElem_cons_succ, Act.put, List.setIfInBounds_toArray, List.set_cons_zero, List.set_cons_succ]
          clear hS
          try refine wpAnyL_one (i := 12) (by kernel_rfl) rfl (fun K hK => ?_)
          go_simp
          obtain ⟨Z, hZ⟩ : ∃ Z, w1.alloc (.cells #[.int .i64 0, .int .i64 0, .int .i64 0, .slice none 0 0, .slice none 0 0, .int .i64 0] 62) = Z := ⟨_, rfl⟩
          rw [hZ]
          have BZ : Below w.heap.size w Z := by rw [← hZ]; (repeat first | with_reducible assumption | with_reducible exact Below.refl _ _ | (with_reducible refine Below.alloc ?_ ?side _; case side => (first | omega | (with_reducible exact Below.size (by assumption)) | (simp; done) | (simp; omega))) | (with_reducible refine Below.setCell ?_ ?side _; case side => (first | omega | (with_reducible exact Below.size (by assumption)) | (simp; done) | (simp; omega))) | with_reducible refine Below.drew ?_ | with_reducible refine below_drewN ?_ _ | (with_reducible refine below_step (by assumption) ?side ?_; case side => (first | omega | (with_reducible exact Below.size (by assumption)) | (simp; done) | (simp; omega))))
          have lZ := (al1_0 hZ).1
          have kZ := (al1_0 hZ).2.1
          have fZ := (al1_0 hZ).2.2
          have HZ0 : Hid (Blk Z w1.heap.size 62 #[.int .i64 0, .int .i64 0, .int .i64 0, .slice none 0 0, .slice none 0 0, .int .i64 0]) := by rw [← hZ]; exact Lib.hid (Blk.new _ _ _)
          have qZ : ∀ j, Z.cell? ⟨w.heap.size, j, none⟩ = #[Value.int .i64 ir, .int .i64 glo, .int .i64 ghi, .slice Ar nr cr, .slice Ad nd cd, .int .i64 wrg][j]? := fun j => ((al1 hZ).1.cell (p := ⟨w.heap.size, j, none⟩) (by first | exact lY | exact l1)).trans (by first | exact qY j | exact q1 j)
          refine hK.out _ _ (fun _ => qZ) (fun _ => ?_)
          clear hK K
          try simp only [List.getElem_toArray, List.getElem_cons_zero, List.getElem_cons_succ, Act.put, List.setIfInBounds_toArray, List.set_cons_zero, List.set_cons_succ]
          refine wpAnyL_one (i := 13) (by kernel_rfl) rfl (fun K hK => ?_)
          go_simp
          refine hK.out _ _ (fun _ => fun j => (cell6 (by omega)).trans (by first | exact q1 j | exact qZ j)) (fun _ => ?_)
          clear hK K
          try simp only [List.getElem_toArray, List.getElem_cons_zero, List.getElem_cons_succ, Act.put, List.setIfInBounds_toArray, List.set_cons_zero, List.set_cons_succ]
          refine wpAnyL_one (i := 14) (by kernel_rfl) rfl (fun K hK => ?_)
          go_simp
          refine hK.out _ _ (fun _ => fun j => (cell6 (by omega)).trans (by first | exact q1 j | exact qZ j)) (fun _ => ?_)
          clear hK K
          refine wpAnyL_one (i := 15) (by kernel_rfl) rfl (fun K hK => ?_)
          go_simp
          refine hK.out _ _ (fun _ => fun j => (cell6 (by omega)).trans (by first | exact q1 j | exact qZ j)) (fun _ => ?_)
          clear hK K
          refine wpAnyL_done (by kernel_rfl) ?_ _
          go_wp2_with fail
          go_meet
          exact ⟨A, c, hs, rfl, rfl, Lib.hid ((HBs.out.later ((al1 hZ).1.trans (set6 (B := w1.heap.size) (Nat.le_refl _)))).lower (Nat.le_of_lt lY)), Lib.hid (BZ.trans (set6 (B := w.heap.size) (Nat.le_of_lt l1)))⟩
        · skip
          try refine wpAnyL_one (i := 12) (by kernel_rfl) rfl (fun K hK => ?_)
          go_simp
          obtain ⟨Z, hZ⟩ : ∃ Z, Y.alloc (.cells #[.int .i64 0, .int .i64 0, .int .i64 0, .slice none 0 0, .slice none 0 0, .int .i64 0] 62) = Z := ⟨_, rfl⟩
          rw [hZ]
          have BZ : Below w.heap.size w Z := by rw [← hZ]; (repeat first | with_reducible assumption | with_reducible exact Below.refl _ _ | (with_reducible refine Below.alloc ?_ ?side _; case side => (first | omega | (with_reducible exact Below.size (by assumption)) | (simp; done) | (simp; omega))) | (with_reducible refine Below.setCell ?_ ?side _; case side => (first | omega | (with_reducible exact Below.size (by assumption)) | (simp; done) | (simp; omega))) | with_reducible refine Below.drew ?_ | with_reducible refine below_drewN ?_ _ | (with_reducible refine below_step (by assumption) ?side ?_; case side => (first | omega | (with_reducible exact Below.size (by assumption)) | (simp; done) | (simp; omega))))
          have lZ := (al1_0 hZ).1
          have kZ := (al1_0 hZ).2.1
          have fZ := (al1_0 hZ).2.2
          have HZ0 : Hid (Blk Z Y.heap.size 62 #[.int .i64 0, .int .i64 0, .int .i64 0, .slice none 0 0, .slice none 0 0, .int .i64 0]) := by rw [← hZ]; exact Lib.hid (Blk.new _ _ _)
          have qZ : ∀ j, Z.cell? ⟨w.heap.size, j, none⟩ = #[Value.int .i64 ir, .int .i64 glo, .int .i64 ghi, .slice Ar nr cr, .slice Ad nd cd, .int .i64 wrg][j]? := fun j => ((al1 hZ).1.cell (p := ⟨w.heap.size, j, none⟩) (by first | exact lY | exact l1)).trans (by first | exact qY j | exact q1 j)
          refine hK.out _ _ (fun _ => qZ) (fun _ => ?_)
          clear hK K
          try simp only [List.getElem_toArray, List.getElem_cons_zero, List.getElem_cons_succ, Act.put, List.setIfInBounds_toArray, List.set_cons_zero, List.set_cons_succ]
          first | (go_simp; go_at_call 44) | (refine wpAnyL_one (i := 7) (by kernel_rfl) rfl (fun K hK => ?_); go_simp; go_at_call 44)
          refine (HOP.out Z BZ).mono ?_
          rintro e w1 ⟨A, c, hs, rfl, hBs, hb1⟩
          have HBs := Lib.hid hBs
          have B1 := BZ.trans (hb1.mono BZ.size)
          have HB1 := Lib.hid hb1
          have l1 : w.heap.size < w1.heap.size := Nat.lt_of_lt_of_le (Nat.lt_of_lt_of_le lY (by first | exact Nat.le_refl _ | exact Nat.le_of_lt lZ)) hb1.size
          have q1 : ∀ j, w1.cell? ⟨w.heap.size, j, none⟩ = #[Value.int .i64 ir, .int .i64 glo, .int .i64 ghi, .slice Ar nr cr, .slice Ad nd cd, .int .i64 wrg][j]? := fun j => (hb1.cell (p := ⟨w.heap.size, j, none⟩) (Nat.lt_of_lt_of_le lY (by first | exact Nat.le_refl _ | exact Nat.le_of_lt lZ))).trans (by first | exact qY j | exact qZ j)
          clear hBs hb1
          refine hK.out _ _ (fun _ => q1) (fun _ => ?_)
          clear hK K
          try simp only [List.getElem_toArray, List.getElem_cons_zero, List.getElem_cons_succ, Act.put, List.setIfInBounds_toArray, List.set_cons_zero, List.set_cons_succ]
          have hS := q1
          refine wpAnyL_take (i := 8) (v := ?_) rfl (by kernel_rfl) (by kernel_rfl) (by kernel_rfl) (by kernel_rfl) (fun _ _ _ h => h) hS (Or.inl ⟨by rfl, ?_⟩) ?_
          rotate_left 1
          · intro w9 hw9
            have k0 := hw9
            go_simp
            try with_reducible rfl
          try simp only [List.getElem_toArray, List.getElem_cons_zero, List.getElem_cons_succ, Act.put, List.setIfInBounds_toArray, List.set_cons_zero, List.set_cons_succ]
          refine wpAnyL_take (i := 9) (v := ?_) rfl (by kernel_rfl) (by kernel_rfl) (by kernel_rfl) (by kernel_rfl) (fun _ _ _ h => h) hS (Or.inl ⟨by rfl, ?_⟩) ?_
          rotate_left 1
          · intro w9 hw9
            have k0 := hw9
            go_simp
            try with_reducible rfl
          try simp only [List.getElem_toArray, List.getElem_cons_zero, List.getElem_cons_succ, Act.put, List.setIfInBounds_toArray, List.set_cons_zero, List.set_cons_succ]
          refine wpAnyL_take (i := 10) (v := ?_) rfl (by kernel_rfl) (by kernel_rfl) (by kernel_rfl) (by kernel_rfl) (fun _ _ _ h => h) hS (Or.inl ⟨by rfl, ?_⟩) ?_
          rotate_left 1
          · intro w9 hw9
            have k0 := hw9
            go_simp
            try with_reducible rfl
          try simp only [List.getElem_toArray, List.getElem_cons_zero, List.getElem_cons_succ, Act.put, List.setIfInBounds_toArray, List.set_cons_zero, List.set_cons_succ]
          refine wpAnyL_take (i := 11) (v := ?_) rfl (by kernel_rfl) (by kernel_rfl) (by kernel_rfl) (by kernel_rfl) (fun _ _ _ h => h) hS (Or.inl ⟨by rfl, ?_⟩) ?_
          rotate_left 1
          · intro w9 hw9
            have k0 := hw9
            go_simp
            try with_reducible rfl
          try simp only [List.getElem_toArray, List.getElem_cons_zero, List.getElem_cons_succ, Act.put, List.setIfInBounds_toArray, List.set_cons_zero, List.set_cons_succ]
          clear hS
          clear kZ fZ
          have HZ1 := Lib.hid (HZ0.out.below HB1.out HZ0.out.lt)
          have kZ := HZ1.out.cell
          have fZ := HZ1.out.frozen
          have lz1 := HZ1.out.lt
          refine wpAnyL_one (i := 13) (by kernel_rfl) rfl (fun K hK => ?_)
          go_simp
          refine hK.out _ _ (fun _ => fun j => (cell6 (by omega)).trans (by first | exact q1 j | exact qZ j)) (fun _ => ?_)
          clear hK K
          try simp only [List.getElem_toArray, List.getElem_cons_zero, List.getElem_cons_succ, Act.put, List.setIfInBounds_toArray, List.set_cons_zero, List.set_cons_succ]
          refine wpAnyL_one (i := 14) (by kernel_rfl) rfl (fun K hK => ?_)
          go_simp
          refine hK.out _ _ (fun _ => fun j => (cell6 (by omega)).trans (by first | exact q1 j | exact qZ j)) (fun _ => ?_)
          clear hK K
          refine wpAnyL_one (i := 15) (by kernel_rfl) rfl (fun K hK => ?_)
          go_simp
          refine hK.out _ _ (fun _ => fun j => (cell6 (by omega)).trans (by first | exact q1 j | exact qZ j)) (fun _ => ?_)
          clear hK K
          refine wpAnyL_done (by kernel_rfl) ?_ _
          go_wp2_with fail
          go_meet
          exact ⟨A, c, hs, rfl, rfl, Lib.hid ((far6 HBs.out (Nat.zero_le _) lZ _ _ _ _ _ _).lower (Nat.le_trans (Nat.le_of_lt lY) (Nat.le_of_lt lZ))), Lib.hid (B1.trans (set6 (B := w.heap.size) (Nat.le_of_lt lY)))⟩
      · skip
        try refine wpAnyL_one (i := 12) (by kernel_rfl) rfl (fun K hK => ?_)
        go_simp
        obtain ⟨Z, hZ⟩ : ∃ Z, Y.alloc (.cells #[.int .i64 0, .int .i64 0, .int .i64 0, .slice none 0 0, .slice none 0 0, .int .i64 0] 62) = Z := ⟨_, rfl⟩
        rw [hZ]
        have BZ : Below w.heap.size w Z := by rw [← hZ]; (repeat first | with_reducible assumption | with_reducible exact Below.refl _ _ | (with_reducible refine Below.alloc ?_ ?side _; case side => (first | omega | (with_reducible exact Below.size (by assumption)) | (simp; done) | (simp; omega))) | (with_reducible refine Below.setCell ?_ ?side _; case side => (first | omega | (with_reducible exact Below.size (by assumption)) | (simp; done) | (simp; omega))) | with_reducible refine Below.drew ?_ | with_reducible refine below_drewN ?_ _ | (with_reducible refine below_step (by assumption) ?side ?_; case side => (first | omega | (with_reducible exact Below.size (by assumption)) | (simp; done) | (simp; omega))))
        have lZ := (al1_0 hZ).1
        have kZ := (al1_0 hZ).2.1
        have fZ := (al1_0 hZ).2.2
        have HZ0 : Hid (Blk Z Y.heap.size 62 #[.int .i64 0, .int .i64 0, .int .i64 0, .slice none 0 0, .slice none 0 0, .int .i64 0]) := by rw [← hZ]; exact Lib.hid (Blk.new _ _ _)
        have qZ : ∀ j, Z.cell? ⟨w.heap.size, j, none⟩ = #[Value.int .i64 ir, .int .i64 glo, .int .i64 ghi, .slice Ar nr cr, .slice Ad nd cd, .int .i64 wrg][j]? := fun j => ((al1 hZ).1.cell (p := ⟨w.heap.size, j, none⟩) (by first | exact lY | exact l1)).trans (by first | exact qY j | exact q1 j)
        refine hK.out _ _ (fun _ => qZ) (fun _ => ?_)
        clear hK K
        try simp only [List.getElem_toArray, List.getElem_cons_zero, List.getElem_cons_succ, Act.put, List.setIfInBounds_toArray, List.set_cons_zero, List.set_cons_succ]
        first | (go_simp; go_at_call 32) | (refine wpAnyL_one (i := 6) (by kernel_rfl) rfl (fun K hK => ?_); go_simp; go_at_call 32)
        refine (HWI.out _).mono ?_
        rintro e w' ⟨rfl, rfl⟩
        refine hK.out _ _ (fun _ => by first | exact qY | exact qZ) (fun _ => ?_)
        clear hK K
        try simp only [List.getElem_toArray, List.getElem_cons_zero, List.getElem_cons_succ, Act.put, List.setIfInBounds_toArray, List.set_cons_zero, List.set_cons_succ]
        first | (go_simp; go_at_call 44) | (refine wpAnyL_one (i := 7) (by kernel_rfl) rfl (fun K hK => ?_); go_simp; go_at_call 44)
        refine (HOP.out Z BZ).mono ?_
        rintro e w1 ⟨A, c, hs, rfl, hBs, hb1⟩
        have HBs := Lib.hid hBs
        have B1 := BZ.trans (hb1.mono BZ.size)
        have HB1 := Lib.hid hb1
        have l1 : w.heap.size < w1.heap.size := Nat.lt_of_lt_of_le (Nat.lt_of_lt_of_le lY (by first | exact Nat.le_refl _ | exact Nat.le_of_lt lZ)) hb1.size
        have q1 : ∀ j, w1.cell? ⟨w.heap.size, j, none⟩ = #[Value.int .i64 ir, .int .i64 glo, .int .i64 ghi, .slice Ar nr cr, .slice Ad nd cd, .int .i64 wrg][j]? := fun j => (hb1.cell (p := ⟨w.heap.size, j, none⟩) (Nat.lt_of_lt_of_le lY (by first | exact Nat.le_refl _ | exact Nat.le_of_lt lZ))).trans (by first | exact qY j | exact qZ j)
        clear hBs hb1
        refine hK.out _ _ (fun _ => q1) (fun _ => ?_)
        clear hK K
        try simp only [List.getElem_toArray, List.getElem_cons_zero, List.getElem_cons_succ, Act.put, List.setIfInBounds_toArray, List.set_cons_zero, List.set_cons_succ]
        have hS := q1
        refine wpAnyL_take (i := 8) (v := ?_) rfl (by kernel_rfl) (by kernel_rfl) (by kernel_rfl) (by kernel_rfl) (fun _ _ _ h => h) hS (Or.inl ⟨by rfl, ?_⟩) ?_
        rotate_left 1
        · intro w9 hw9
          have k0 := hw9
          go_simp
          try with_reducible rfl
        try simp only [List.getElem_toArray, List.getElem_cons_zero, List.getElem_cons_succ, Act.put, List.setIfInBounds_toArray, List.set_cons_zero, List.set_cons_succ]
        refine wpAnyL_take (i := 9) (v := ?_) rfl (by kernel_rfl) (by kernel_rfl) (by kernel_rfl) (by kernel_rfl) (fun _ _ _ h => h) hS (Or.inl ⟨by rfl, ?_⟩) ?_
        rotate_left 1
        · intro w9 hw9
          have k0 := hw9
          go_simp
          try with_reducible rfl
        try simp only [List.getElem_toArray, List.getElem_cons_zero, List.getElem_cons_succ, Act.put, List.setIfInBounds_toArray, List.set_cons_zero, List.set_cons_succ]
        refine wpAnyL_take (i := 10) (v := ?_) rfl (by kernel_rfl) (by kernel_rfl) (by kernel_rfl) (by kernel_rfl) (fun _ _ _ h => h) hS (Or.inl ⟨by rfl, ?_⟩) ?_
        rotate_left 1
        · intro w9 hw9
          have k0 := hw9
          go_simp
          try with_reducible rfl
        try simp only [List.getElem_toArray, List.getElem_cons_zero, List.getElem_cons_succ, Act.put, List.setIfInBounds_toArray, List.set_cons_zero, List.set_cons_succ]
        refine wpAnyL_take (i := 11) (v := ?_) rfl (by kernel_rfl) (by kernel_rfl) (by kernel_rfl) (by kernel_rfl) (fun _ _ _ h => h) hS (Or.inl ⟨by rfl, ?_⟩) ?_
        rotate_left 1
        · intro w9 hw9
          have k0 := hw9
          go_simp
          try with_reducible rfl
        try simp only [List.getElem_toArray, List.getElem_cons_zero, List.getElem_cons_succ, Act.put, List.setIfInBounds_toArray, List.set_cons_zero, List.set_cons_succ]
        clear hS
        clear kZ fZ
        have HZ1 := Lib.hid (HZ0.out.below HB1.out HZ0.out.lt)
        have kZ := HZ1.out.cell
        have fZ := HZ1.out.frozen
        have lz1 := HZ1.out.lt
        refine wpAnyL_one (i := 13) (by kernel_rfl) rfl (fun K hK => ?_)
        go_simp
        refine hK.out _ _ (fun _ => fun j => (cell6 (by omega)).trans (by first | exact q1 j | exact qZ j)) (fun _ => ?_)
        clear hK K
        try simp only [List.getElem_toArray, List.getElem_cons_zero, List.getElem_cons_succ, Act.put, List.setIfInBounds_toArray, List.set_cons_zero, List.set_cons_succ]
        refine wpAnyL_one (i := 14) (by kernel_rfl) rfl (fun K hK => ?_)
        go_simp
        refine hK.out _ _ (fun _ => fun j => (cell6 (by omega)).trans (by first | exact q1 j | exact qZ j)) (fun _ => ?_)
        clear hK K
        refine wpAnyL_one (i := 15) (by kernel_rfl) rfl (fun K hK => ?_)
        go_simp
        refine hK.out _ _ (fun _ => fun j => (cell6 (by omega)).trans (by first | exact q1 j | exact qZ j)) (fun _ => ?_)
        clear hK K
        refine wpAnyL_done (by kernel_rfl) ?_ _
        go_wp2_with fail
        go_meet
        exact ⟨A, c, hs, rfl, rfl, Lib.hid ((far6 HBs.out (Nat.zero_le _) lZ _ _ _ _ _ _).lower (Nat.le_trans (Nat.le_of_lt lY) (Nat.le_of_lt lZ))), Lib.hid (B1.trans (set6 (B := w.heap.size) (Nat.le_of_lt lY)))⟩
  case rest =>
  obtain ⟨A, c, hs, rfl, rfl, HBs, HBV⟩ := hcut
  obtain ⟨V, hV⟩ : ∃ Z, wc = Z := ⟨_, rfl⟩
  rw [hV] at HBs HBV ⊢
  clear hV
  have BV := HBV.out
  by_cases hz0 : z = 0
  · subst hz0
    obtain ⟨⟨q, rfl, hq⟩, rfl⟩ := HH.out rfl
    have HHH := Lib.hid (HHD.out q hq A c hs _ V HBs.out)
    clear HH0 HH HHD
    go_wp2_with (go_at_call 48; refine HHH.out.mono ?_; (rintro e w2 ⟨A2, c2, rfl, hI, hb2⟩); (have B2 := BV.trans (hb2.mono BV.size)); (have HI := Lib.hid hI); clear hb2 hI)
    exact bodyPost_ret (v := .tuple #[.slice A2 (rl4 l q).length c2, .int .i64 0]) (by simp [results, Try.results16, go_sem]) rfl ⟨A2, c2, rfl, HI.out, B2⟩
  · obtain rfl : r = [] := HH0.out hz0
    have hzb : (z == 0) = false := by simpa using hz0
    have hzn : (z != 0) = true := by simpa using hz0
    clear HHD HH HH0
    go_wp2_with fail
    exact bodyPost_ret (v := .tuple #[.slice none 0 0, .int .i64 z]) (by simp [results, Try.results16, go_sem]) rfl ⟨none, 0, rfl, nil_ints _, by (repeat first | with_reducible assumption | with_reducible exact Below.refl _ _ | (with_reducible refine Below.alloc ?_ ?side _; case side => (first | omega | (with_reducible exact Below.size (by assumption)) | (simp; done) | (simp; omega))) | (with_reducible refine Below.setCell ?_ ?side _; case side => (first | omega | (with_reducible exact Below.size (by assumption)) | (simp; done) | (simp; omega))) | with_reducible refine Below.drew ?_ | with_reducible refine below_drewN ?_ _ | (with_reducible refine below_step (by assumption) ?side ?_; case side => (first | omega | (with_reducible exact Below.size (by assumption)) | (simp; done) | (simp; omega))))⟩

end Go.Proofs.Ytmmgkmdfecnkdaa
