/- Lengths of stretch (layer 4): all lengths before, or after. -/
import Derived.Test.YtcbeiadimchknaaGreatQp43
import Derived.BigRegionIn
import Derived.Shelf.RegionOpen
import Derived.Deep.DrawnRows
import Derived.Deep.DeepCutAuto
import Derived.Maps.OwnOps
import Derived.Maps.OwnSet
import Derived.Maps.Views
import Derived.WalkArith
namespace Go.Proofs.YtcbeiadimchknaaGreat
open Go.RowKit Go.Maps
open Go.Sort (grow)
set_option linter.unusedVariables false
set_option linter.unusedSimpArgs false

def sd4 (wh : Int) (x : Bu4) : List Int := if wh = 2 then x.a.2 else x.b.2
def lg4 (p : P4) (l : List Bu4) (wh : Int) : List Int := (ln4 p).filter fun n => l.any fun x => (sd4 wh x).contains n
def lgs4 (p : P4) (wh : Int) : List Int := bif op4 p (when4 wh) == 0 then lg4 p (tr4 p) wh else []
def lk4 (l : List Bu4) (wh : Int) (k : Nat) (n : Int) : Bool := (l.take k).any fun x => (sd4 wh x).contains n
theorem lk4_succ {l : List Bu4} {wh : Int} {k : Nat} {x : Bu4} (h : l[k]? = some x) (n : Int) : lk4 l wh (k + 1) n = (lk4 l wh k n || (sd4 wh x).contains n) := by
  unfold lk4
  rw [List.take_add_one, h, List.any_append]
  simp
theorem lj_succ {s : List Int} {j : Nat} {v : Int} (h : s[j]? = some v) (y : Int) : (s.take (j + 1)).contains y = ((s.take j).contains y || y == v) := by
  rw [List.take_add_one, h, List.contains_eq_any_beq, List.contains_eq_any_beq, List.any_append]
  simp
theorem iAt_get {l : List Int} {k : Nat} (h : k < l.length) : l[k]? = some (iAt l k) := by unfold iAt; rw [List.getD_eq_getElem?_getD, List.getElem?_eq_getElem h]; rfl
theorem ol4_ln {p : P4} {is : Bool} {wh : Int} : ∀ x ∈ ol4 p is, ∀ n ∈ sd4 wh x, n ∈ ln4 p := by
  intro x hx n hn
  unfold ol4 at hx
  cases h : ck4 p
  · rw [h] at hx; simp at hx
  cases is
  · simp at hx
  rw [h] at hx
  simp only [Bool.and_self, cond_true] at hx
  obtain ⟨⟨-, h1, h2⟩, -⟩ := mem_tr4.1 hx
  unfold sd4 at hn
  split at hn
  · exact ((gr4_mem h2).1 hn).1
  · exact ((gr4_mem h1).1 hn).1
set_option maxRecDepth 100000 in
set_option maxHeartbeats 3200000 in
theorem lengths4_c (Ar : Option Addr) (nr cr : Nat) (Ad : Option Addr) (nd cd : Nat) (p : P4) (wh : Int) (w : World) (hnr : nr ≤ 40) (hnd : nd ≤ 40) (HM : MemP Ar nr Ad nd p w) (hn : ck4 p = true → (tr4 p).length ≤ 90000) :
    Calls Tryz.prog 18 #[.agg #[.int .i64 p.ir, .int .i64 p.glo, .int .i64 p.ghi, .slice Ar nr cr, .slice Ad nd cd, .int .i64 p.wr], .int .i64 wh] w fun e w' =>
      ∃ A c, e = .returned (.tuple #[.slice A (lgs4 p wh).length c, .int .i64 (op4 p (when4 wh))]) ∧ IntsAt w' A (lgs4 p wh).length (lgs4 p wh) ∧ Below w.heap.size w w' := by
  have hr := HM.hr.1
  have hd := HM.hd.1
  have hwi := fun V => isWhen4_c wh V
  have hra : lgs4 p wh = bif op4 p (when4 wh) == 0 then lg4 p (tr4 p) wh else [] := rfl
  obtain ⟨is, his⟩ : ∃ b, when4 wh = b := ⟨_, rfl⟩
  rw [his] at hwi hra ⊢
  have HWI := Lib.hid hwi
  have HOP := Lib.hid (fun V (hV : Below w.heap.size w V) => open4_c Ar nr cr Ad nd cd p is V hnr hnd (HM.later hV) hn)
  have HK := Lib.hid (ol4_ok (p := p) (is := is) (by omega) (by omega))
  have hl := ol4_len (p := p) (is := is) hn
  have HMM : Hid (∀ m, (ol4 p is).length = m → ∀ y, y ∈ lg4 p (ol4 p is) wh ↔ lk4 (ol4 p is) wh m y = true) := Lib.hid (fun m hm y => by
    unfold lg4 lk4
    rw [List.mem_filter, List.take_of_length_le (by rw [hm]; exact Nat.le_refl _)]
    refine ⟨fun h => h.2, fun h => ⟨?_, h⟩⟩
    obtain ⟨x, hx, e⟩ := List.any_eq_true.1 h
    exact ol4_ln x hx y (by simpa using e))
  have HPW : Hid ((lg4 p (ol4 p is) wh).Pairwise (· < ·)) := Lib.hid (ups_pair.filter _)
  have HH : Hid (op4 p is = 0 → lgs4 p wh = lg4 p (ol4 p is) wh) := Lib.hid (fun h => by
    obtain ⟨-, -, h3, -⟩ := op4_ol h
    rw [hra, h, h3]
    rfl)
  have HH0 : Hid (op4 p is ≠ 0 → lgs4 p wh = []) := Lib.hid (fun h => by
    rw [hra, show (op4 p is == 0) = false by simpa using h]
    rfl)
  unfold Op4 at HOP
  obtain ⟨z, hz⟩ : ∃ z, op4 p is = z := ⟨_, rfl⟩
  obtain ⟨r, hrr⟩ : ∃ r, lgs4 p wh = r := ⟨_, rfl⟩
  obtain ⟨L, hL⟩ : ∃ r, lg4 p (ol4 p is) wh = r := ⟨_, rfl⟩
  rw [hL] at HMM HPW HH
  obtain ⟨l, hll⟩ : ∃ l, ol4 p is = l := ⟨_, rfl⟩
  rw [hz, hll] at HOP
  rw [hz, hrr] at HH0
  rw [hz, hrr] at HH
  rw [hll] at HK hl HMM
  rw [hz, hrr]
  obtain ⟨m, hm⟩ : ∃ m, l.length = m := ⟨_, rfl⟩
  rw [hm] at HOP hl
  have HXL := Lib.hid hm
  have HLM := Lib.hid (HMM.out m hm)
  have HKK := Lib.hid (fun b V D nn hown f hf hm hn => keysK_c b nn D V hown f hf L HPW.out hm hn)
  have hmm := @run_makeMap Tryz.prog
  clear HM hr hd hn hz hll hm hwi his hrr hra hL HMM HPW
  obtain ⟨ir, glo, ghi, wrg, rods, res⟩ := p
  simp only at HOP ⊢
  go_enter Tryz.func18, Tryz.ntmps18
  go_upto_region 1 with (fail)
  go_name_world X hX
  have BX : Below w.heap.size w X := (al1 hX).1
  have q0 := (al1_0 hX).2.1
  have l0 := (al1_0 hX).1
  clear hX
  have HBX := Lib.hid BX
  go_cut [6, 7, 8] (fun t6 t7 t8 (V : World) => ∃ A c hs, t7 = .slice A m c ∧ t8 = .int .i64 z ∧ Hid (BsAt4 0 w.heap.size V A m hs l) ∧ Hid (Below w.heap.size w V))
  case first =>
    as_aux_lemma =>
      clear hmm
      refine wp_region_L (by kernel_rfl) (fun w' => ∀ j, w'.cell? ⟨w.heap.size, j, none⟩ = #[Value.int .i64 ir, .int .i64 glo, .int .i64 ghi, .slice Ar nr cr, .slice Ad nd cd, .int .i64 wrg][j]?) 99 ?_
      obtain ⟨Y, hY⟩ : ∃ Y, X.drew = Y := ⟨_, rfl⟩
      rw [hY]
      have BY : Below w.heap.size w Y := by rw [← hY]; (repeat first | with_reducible assumption | with_reducible exact Below.refl _ _ | (with_reducible refine Below.alloc ?_ ?side _; case side => (first | omega | (with_reducible exact Below.size (by assumption)) | (simp; done) | (simp; omega))) | (with_reducible refine Below.setCell ?_ ?side _; case side => (first | omega | (with_reducible exact Below.size (by assumption)) | (simp; done) | (simp; omega))) | with_reducible refine Below.drew ?_ | with_reducible refine below_drewN ?_ _ | (with_reducible refine below_step (by assumption) ?side ?_; case side => (first | omega | (with_reducible exact Below.size (by assumption)) | (simp; done) | (simp; omega))))
      have qY : ∀ j, Y.cell? ⟨w.heap.size, j, none⟩ = #[Value.int .i64 ir, .int .i64 glo, .int .i64 ghi, .slice Ar nr cr, .slice Ad nd cd, .int .i64 wrg][j]? := by rw [← hY]; exact q0
      have lY : w.heap.size < Y.heap.size := by rw [← hY]; exact l0
      clear hY q0 l0 BX HBX X
      have hS := qY
      refine wpAnyL_take (i := 0) (v := ?_) rfl (by kernel_rfl) (by kernel_rfl) (by kernel_rfl) (by kernel_rfl) (fun _ _ _ h => h) hS (Or.inl ⟨by rfl, ?_⟩) ?_
      rotate_left 1
      · intro w9 hw9
        have k0 := hw9
        go_simp
        try with_reducible rfl
      try simp only [List.getElem_toArray, List.getElem_cons_zero, Act.put, List.setIfInBounds_toArray, List.set_cons_zero, List.set_cons_succ]
      refine wpAnyL_take (i := 1) (v := ?_) rfl (by kernel_rfl) (by kernel_rfl) (by kernel_rfl) (by kernel_rfl) (fun _ _ _ h => h) hS (Or.inl ⟨by rfl, ?_⟩) ?_
      rotate_left 1
      · intro w9 hw9
        have k0 := hw9
        go_simp
        try with_reducible rfl
      try simp only [List.getElem_toArray, List.getElem_cons_zero, List.getElem_cons_succ, Act.put, List.setIfInBounds_toArray, List.set_cons_zero, List.set_cons_succ]
      clear hS
      refine wpAnyL_two (i := 2) (j := 8) (by kernel_rfl) rfl rfl (fun K hK => ?_) (fun K hK => ?_)
      · skip
        first | (go_simp; go_at_call 45) | (refine wpAnyL_one (i := 2) (by kernel_rfl) rfl (fun K hK => ?_); go_simp; go_at_call 45)
        refine (HWI.out _).mono ?_
        rintro e w' ⟨rfl, rfl⟩
        refine hK.out _ _ (fun _ => by first | exact qY | exact qZ) (fun _ => ?_)
        clear hK K
        try simp only [List.getElem_toArray, List.getElem_cons_zero, List.getElem_cons_succ, Act.put, List.setIfInBounds_toArray, List.set_cons_zero, List.set_cons_succ]
        refine wpAnyL_two (i := 3) (j := 8) (by kernel_rfl) rfl rfl (fun K hK => ?_) (fun K hK => ?_)
        · skip
          first | (go_simp; go_at_call 44) | (refine wpAnyL_one (i := 3) (by kernel_rfl) rfl (fun K hK => ?_); go_simp; go_at_call 44)
          refine (HOP.out Y BY).mono ?_
          rintro e w1 ⟨A, c, hs, rfl, hBs, hb1⟩
          have HBs := Lib.hid hBs
          have B1 := BY.trans (hb1.mono BY.size)
          have HB1 := Lib.hid hb1
          have l1 : w.heap.size < w1.heap.size := Nat.lt_of_lt_of_le (Nat.lt_of_lt_of_le lY (by first | exact Nat.le_refl _ | exact Nat.le_of_lt lZ)) hb1.size
          have q1 : ∀ j, w1.cell? ⟨w.heap.size, j, none⟩ = #[Value.int .i64 ir, .int .i64 glo, .int .i64 ghi, .slice Ar nr cr, .slice Ad nd cd, .int .i64 wrg][j]? := fun j => (hb1.cell (p := ⟨w.heap.size, j, none⟩) (Nat.lt_of_lt_of_le lY (by first | exact Nat.le_refl _ | exact Nat.le_of_lt lZ))).trans (by first | exact qY j | exact qZ j)
          clear hBs hb1
          refine hK.out _ _ (fun _ => q1) (fun _ => ?_)
          clear hK K
          try simp only [List.getElem_toArray, List.getElem_cons_zero, List.getElem_cons_succ, Act.put, List.setIfInBounds_toArray, List.set_cons_zero, List.set_cons_succ]
          have hS := q1
          refine wpAnyL_take (i := 4) (v := ?_) rfl (by kernel_rfl) (by kernel_rfl) (by kernel_rfl) (by kernel_rfl) (fun _ _ _ h => h) hS (Or.inl ⟨by rfl, ?_⟩) ?_
          rotate_left 1
          · intro w9 hw9
            have k0 := hw9
            go_simp
            try with_reducible rfl
          try simp only [List.getElem_toArray, List.getElem_cons_zero, List.getElem_cons_succ, Act.put, List.setIfInBounds_toArray, List.set_cons_zero, List.set_cons_succ]
          refine wpAnyL_take (i := 5) (v := ?_) rfl (by kernel_rfl) (by kernel_rfl) (by kernel_rfl) (by kernel_rfl) (fun _ _ _ h => h) hS (Or.inl ⟨by rfl, ?_⟩) ?_
          rotate_left 1
          · intro w9 hw9
            have k0 := hw9
            go_simp
            try with_reducible rfl
          try simp only [List.getElem_toArray, List.getElem_cons_zero, List.getElem_cons_succ, Act.put, List.setIfInBounds_toArray, List.set_cons_zero, List.set_cons_succ]
          refine wpAnyL_take (i := 6) (v := ?_) rfl (by kernel_rfl) (by kernel_rfl) (by kernel_rfl) (by kernel_rfl) (fun _ _ _ h => h) hS (Or.inl ⟨by rfl, ?_⟩) ?_
          rotate_left 1
          · intro w9 hw9
            have k0 := hw9
            go_simp
            try with_reducible rfl
          try simp only [List.getElem_toArray, List.getElem_cons_zero, List.getElem_cons_succ, Act.put, List.setIfInBounds_toArray, List.set_cons_zero, List.set_cons_succ]
          refine wpAnyL_take (i := 7) (v := ?_) rfl (by kernel_rfl) (by kernel_rfl) (by kernel_rfl) (by kernel_rfl) (fun _ _ _ h => h) hS (Or.inl ⟨by rfl, ?_⟩) ?_
          rotate_left 1
          · intro w9 hw9
            have k0 := hw9
            go_simp
            try with_reducible rfl
          try simp only [List.getElem_toArray, List.getElem_cons_zero, List.getElem_cons_succ, Act.put, List.setIfInBounds_toArray, List.set_cons_zero, List.set_cons_succ]
          clear hS
          try refine wpAnyL_one (i := 8) (by kernel_rfl) rfl (fun K hK => ?_)
          go_simp
          obtain ⟨Z, hZ⟩ : ∃ Z, w1.alloc (.cells #[.int .i64 0, .int .i64 0, .int .i64 0, .slice none 0 0, .slice none 0 0, .int .i64 0] 96) = Z := ⟨_, rfl⟩
          rw [hZ]
          have BZ : Below w.heap.size w Z := by rw [← hZ]; (repeat first | with_reducible assumption | with_reducible exact Below.refl _ _ | (with_reducible refine Below.alloc ?_ ?side _; case side => (first | omega | (with_reducible exact Below.size (by assumption)) | (simp; done) | (simp; omega))) | (with_reducible refine Below.setCell ?_ ?side _; case side => (first | omega | (with_reducible exact Below.size (by assumption)) | (simp; done) | (simp; omega))) | with_reducible refine Below.drew ?_ | with_reducible refine below_drewN ?_ _ | (with_reducible refine below_step (by assumption) ?side ?_; case side => (first | omega | (with_reducible exact Below.size (by assumption)) | (simp; done) | (simp; omega))))
          have lZ := (al1_0 hZ).1
          have kZ := (al1_0 hZ).2.1
          have fZ := (al1_0 hZ).2.2
          have HZ0 : Hid (Blk Z w1.heap.size 96 #[.int .i64 0, .int .i64 0, .int .i64 0, .slice none 0 0, .slice none 0 0, .int .i64 0]) := by rw [← hZ]; exact Lib.hid (Blk.new _ _ _)
          have qZ : ∀ j, Z.cell? ⟨w.heap.size, j, none⟩ = #[Value.int .i64 ir, .int .i64 glo, .int .i64 ghi, .slice Ar nr cr, .slice Ad nd cd, .int .i64 wrg][j]? := fun j => ((al1 hZ).1.cell (p := ⟨w.heap.size, j, none⟩) (by first | exact lY | exact l1)).trans (by first | exact qY j | exact q1 j)
          refine hK.out _ _ (fun _ => qZ) (fun _ => ?_)
          clear hK K
          try simp only [List.getElem_toArray, List.getElem_cons_zero, List.getElem_cons_succ, Act.put, List.setIfInBounds_toArray, List.set_cons_zero, List.set_cons_succ]
          refine wpAnyL_one (i := 9) (by kernel_rfl) rfl (fun K hK => ?_)
          go_simp
          refine hK.out _ _ (fun _ => fun j => (cell6 (by omega)).trans (by first | exact q1 j | exact qZ j)) (fun _ => ?_)
          clear hK K
          try simp only [List.getElem_toArray, List.getElem_cons_zero, List.getElem_cons_succ, Act.put, List.setIfInBounds_toArray, List.set_cons_zero, List.set_cons_succ]
          refine wpAnyL_one (i := 10) (by kernel_rfl) rfl (fun K hK => ?_)
          go_simp
          refine hK.out _ _ (fun _ => fun j => (cell6 (by omega)).trans (by first | exact q1 j | exact qZ j)) (fun _ => ?_)
          clear hK K
          refine wpAnyL_one (i := 11) (by kernel_rfl) rfl (fun K hK => ?_)
          go_simp
          refine hK.out _ _ (fun _ => fun j => (cell6 (by omega)).trans (by first | exact q1 j | exact qZ j)) (fun _ => ?_)
          clear hK K
          refine wpAnyL_done (by kernel_rfl) ?_ _
          go_wp2_with fail
          go_meet
          exact ⟨A, c, hs, rfl, rfl, Lib.hid ((HBs.out.later ((al1 hZ).1.trans (set6 (B := w1.heap.size) (Nat.le_refl _)))).lower (Nat.le_of_lt lY)), Lib.hid (BZ.trans (set6 (B := w.heap.size) (Nat.le_of_lt l1)))⟩
        · skip
          try refine wpAnyL_one (i := 8) (by kernel_rfl) rfl (fun K hK => ?_)
          go_simp
          obtain ⟨Z, hZ⟩ : ∃ Z, Y.alloc (.cells #[.int .i64 0, .int .i64 0, .int .i64 0, .slice none 0 0, .slice none 0 0, .int .i64 0] 96) = Z := ⟨_, rfl⟩
          rw [hZ]
          have BZ : Below w.heap.size w Z := by rw [← hZ]; (repeat first | with_reducible assumption | with_reducible exact Below.refl _ _ | (with_reducible refine Below.alloc ?_ ?side _; case side => (first | omega | (with_reducible exact Below.size (by assumption)) | (simp; done) | (simp; omega))) | (with_reducible refine Below.setCell ?_ ?side _; case side => (first | omega | (with_reducible exact Below.size (by assumption)) | (simp; done) | (simp; omega))) | with_reducible refine Below.drew ?_ | with_reducible refine below_drewN ?_ _ | (with_reducible refine below_step (by assumption) ?side ?_; case side => (first | omega | (with_reducible exact Below.size (by assumption)) | (simp; done) | (simp; omega))))
          have lZ := (al1_0 hZ).1
          have kZ := (al1_0 hZ).2.1
          have fZ := (al1_0 hZ).2.2
          have HZ0 : Hid (Blk Z Y.heap.size 96 #[.int .i64 0, .int .i64 0, .int .i64 0, .slice none 0 0, .slice none 0 0, .int .i64 0]) := by rw [← hZ]; exact Lib.hid (Blk.new _ _ _)
          have qZ : ∀ j, Z.cell? ⟨w.heap.size, j, none⟩ = #[Value.int .i64 ir, .int .i64 glo, .int .i64 ghi, .slice Ar nr cr, .slice Ad nd cd, .int .i64 wrg][j]? := fun j => ((al1 hZ).1.cell (p := ⟨w.heap.size, j, none⟩) (by first | exact lY | exact l1)).trans (by first | exact qY j | exact q1 j)
          refine hK.out _ _ (fun _ => qZ) (fun _ => ?_)
          clear hK K
          try simp only [List.getElem_toArray, List.getElem_cons_zero, List.getElem_cons_succ, Act.put, List.setIfInBounds_toArray, List.set_cons_zero, List.set_cons_succ]
          first | (go_simp; go_at_call 44) | (refine wpAnyL_one (i := 3) (by kernel_rfl) rfl (fun K hK => ?_); go_simp; go_at_call 44)
          refine (HOP.out Z BZ).mono ?_
          rintro e w1 ⟨A, c, hs, rfl, hBs, hb1⟩
          have HBs := Lib.hid hBs
          have B1 := BZ.trans (hb1.mono BZ.size)
          have HB1 := Lib.hid hb1
          have l1 : w.heap.size < w1.heap.size := Nat.lt_of_lt_of_le (Nat.lt_of_lt_of_le lY (by first | exact Nat.le_refl _ | exact Nat.le_of_lt lZ)) hb1.size
          have q1 : ∀ j, w1.cell? ⟨w.heap.size, j, none⟩ = #[Value.int .i64 ir, .int .i64 glo, .int .i64 ghi, .slice Ar nr cr, .slice Ad nd cd, .int .i64 wrg][j]? := fun j => (hb1.cell (p := ⟨w.heap.size, j, none⟩) (Nat.lt_of_lt_of_le lY (by first | exact Nat.le_refl _ | exact Nat.le_of_lt lZ))).trans (by first | exact qY j | exact qZ j)
          clear hBs hb1
          refine hK.out _ _ (fun _ => q1) (fun _ => ?_)
          clear hK K
          try simp only [List.getElem_toArray, List.getElem_cons_zero, List.getElem_cons_succ, Act.put, List.setIfInBounds_toArray, List.set_cons_zero, List.set_cons_succ]
          have hS := q1
          refine wpAnyL_take (i := 4) (v := ?_) rfl (by kernel_rfl) (by kernel_rfl) (by kernel_rfl) (by kernel_rfl) (fun _ _ _ h => h) hS (Or.inl ⟨by rfl, ?_⟩) ?_
          rotate_left 1
          · intro w9 hw9
            have k0 := hw9
            go_simp
            try with_reducible rfl
          try simp only [List.getElem_toArray, List.getElem_cons_zero, List.getElem_cons_succ, Act.put, List.setIfInBounds_toArray, List.set_cons_zero, List.set_cons_succ]
          refine wpAnyL_take (i := 5) (v := ?_) rfl (by kernel_rfl) (by kernel_rfl) (by kernel_rfl) (by kernel_rfl) (fun _ _ _ h => h) hS (Or.inl ⟨by rfl, ?_⟩) ?_
          rotate_left 1
          · intro w9 hw9
            have k0 := hw9
            go_simp
            try with_reducible rfl
          try simp only [List.getElem_toArray, List.getElem_cons_zero, List.getElem_cons_succ, Act.put, List.setIfInBounds_toArray, List.set_cons_zero, List.set_cons_succ]
          refine wpAnyL_take (i := 6) (v := ?_) rfl (by kernel_rfl) (by kernel_rfl) (by kernel_rfl) (by kernel_rfl) (fun _ _ _ h => h) hS (Or.inl ⟨by rfl, ?_⟩) ?_
          rotate_left 1
          · intro w9 hw9
            have k0 := hw9
            go_simp
            try with_reducible rfl
          try simp only [List.getElem_toArray, List.getElem_cons_zero, List.getElem_cons_succ, Act.put, List.setIfInBounds_toArray, List.set_cons_zero, List.set_cons_succ]
          refine wpAnyL_take (i := 7) (v := ?_) rfl (by kernel_rfl) (by kernel_rfl) (by kernel_rfl) (by kernel_rfl) (fun _ _ _ h => h) hS (Or.inl ⟨by rfl, ?_⟩) ?_
          rotate_left 1
          · intro w9 hw9
            have k0 := hw9
            go_simp
            try with_reducible rfl
          try simp only [List.getElem_toArray, List.getElem_cons_zero, List.getElem_cons_succ, Act.put, List.setIfInBounds_toArray, List.set_cons_zero, List.set_cons_succ]
          clear hS
          clear kZ fZ
          have HZ1 := Lib.hid (HZ0.out.below HB1.out HZ0.out.lt)
          have kZ := HZ1.out.cell
          have fZ := HZ1.out.frozen
          have lz1 := HZ1.out.lt
          refine wpAnyL_one (i := 9) (by kernel_rfl) rfl (fun K hK => ?_)
          go_simp
          refine hK.out _ _ (fun _ => fun j => (cell6 (by omega)).trans (by first | exact q1 j | exact qZ j)) (fun _ => ?_)
          clear hK K
          try simp only [List.getElem_toArray, List.getElem_cons_zero, List.getElem_cons_succ, Act.put, List.setIfInBounds_toArray, List.set_cons_zero, List.set_cons_succ]
          refine wpAnyL_one (i := 10) (by kernel_rfl) rfl (fun K hK => ?_)
          go_simp
          refine hK.out _ _ (fun _ => fun j => (cell6 (by omega)).trans (by first | exact q1 j | exact qZ j)) (fun _ => ?_)
          clear hK K
          refine wpAnyL_one (i := 11) (by kernel_rfl) rfl (fun K hK => ?_)
          go_simp
          refine hK.out _ _ (fun _ => fun j => (cell6 (by omega)).trans (by first | exact q1 j | exact qZ j)) (fun _ => ?_)
          clear hK K
          refine wpAnyL_done (by kernel_rfl) ?_ _
          go_wp2_with fail
          go_meet
          exact ⟨A, c, hs, rfl, rfl, Lib.hid ((far6 HBs.out (Nat.zero_le _) lZ _ _ _ _ _ _).lower (Nat.le_trans (Nat.le_of_lt lY) (Nat.le_of_lt lZ))), Lib.hid (B1.trans (set6 (B := w.heap.size) (Nat.le_of_lt lY)))⟩
      · skip
        try refine wpAnyL_one (i := 8) (by kernel_rfl) rfl (fun K hK => ?_)
        go_simp
        obtain ⟨Z, hZ⟩ : ∃ Z, Y.alloc (.cells #[.int .i64 0, .int .i64 0, .int .i64 0, .slice none 0 0, .slice none 0 0, .int .i64 0] 96) = Z := ⟨_, rfl⟩
        rw [hZ]
        have BZ : Below w.heap.size w Z := by rw [← hZ]; (repeat first | with_reducible assumption | with_reducible exact Below.refl _ _ | (with_reducible refine Below.alloc ?_ ?side _; case side => (first | omega | (with_reducible exact Below.size (by assumption)) | (simp; done) | (simp; omega))) | (with_reducible refine Below.setCell ?_ ?side _; case side => (first | omega | (with_reducible exact Below.size (by assumption)) | (simp; done) | (simp; omega))) | with_reducible refine Below.drew ?_ | with_reducible refine below_drewN ?_ _ | (with_reducible refine below_step (by assumption) ?side ?_; case side => (first | omega | (with_reducible exact Below.size (by assumption)) | (simp; done) | (simp; omega))))
        have lZ := (al1_0 hZ).1
        have kZ := (al1_0 hZ).2.1
        have fZ := (al1_0 hZ).2.2
        have HZ0 : Hid (Blk Z Y.heap.size 96 #[.int .i64 0, .int .i64 0, .int .i64 0, .slice none 0 0, .slice none 0 0, .int .i64 0]) := by rw [← hZ]; exact Lib.hid (Blk.new _ _ _)
        have qZ : ∀ j, Z.cell? ⟨w.heap.size, j, none⟩ = #[Value.int .i64 ir, .int .i64 glo, .int .i64 ghi, .slice Ar nr cr, .slice Ad nd cd, .int .i64 wrg][j]? := fun j => ((al1 hZ).1.cell (p := ⟨w.heap.size, j, none⟩) (by first | exact lY | exact l1)).trans (by first | exact qY j | exact q1 j)
        refine hK.out _ _ (fun _ => qZ) (fun _ => ?_)
        clear hK K
        try simp only [List.getElem_toArray, List.getElem_cons_zero, List.getElem_cons_succ, Act.put, List.setIfInBounds_toArray, List.set_cons_zero, List.set_cons_succ]
        first | (go_simp; go_at_call 45) | (refine wpAnyL_one (i := 2) (by kernel_rfl) rfl (fun K hK => ?_); go_simp; go_at_call 45)
        refine (HWI.out _).mono ?_
        rintro e w' ⟨rfl, rfl⟩
        refine hK.out _ _ (fun _ => by first | exact qY | exact qZ) (fun _ => ?_)
        clear hK K
        try simp only [List.getElem_toArray, List.getElem_cons_zero, List.getElem_cons_succ, Act.put, List.setIfInBounds_toArray, List.set_cons_zero, List.set_cons_succ]
        first | (go_simp; go_at_call 44) | (refine wpAnyL_one (i := 3) (by kernel_rfl) rfl (fun K hK => ?_); go_simp; go_at_call 44)
        refine (HOP.out Z BZ).mono ?_
        rintro e w1 ⟨A, c, hs, rfl, hBs, hb1⟩
        have HBs := Lib.hid hBs
        have B1 := BZ.trans (hb1.mono BZ.size)
        have HB1 := Lib.hid hb1
        have l1 : w.heap.size < w1.heap.size := Nat.lt_of_lt_of_le (Nat.lt_of_lt_of_le lY (by first | exact Nat.le_refl _ | exact Nat.le_of_lt lZ)) hb1.size
        have q1 : ∀ j, w1.cell? ⟨w.heap.size, j, none⟩ = #[Value.int .i64 ir, .int .i64 glo, .int .i64 ghi, .slice Ar nr cr, .slice Ad nd cd, .int .i64 wrg][j]? := fun j => (hb1.cell (p := ⟨w.heap.size, j, none⟩) (Nat.lt_of_lt_of_le lY (by first | exact Nat.le_refl _ | exact Nat.le_of_lt lZ))).trans (by first | exact qY j | exact qZ j)
        clear hBs hb1
        refine hK.out _ _ (fun _ => q1) (fun _ => ?_)
        clear hK K
        try simp only [List.getElem_toArray, List.getElem_cons_zero, List.getElem_cons_succ, Act.put, List.setIfInBounds_toArray, List.set_cons_zero, List.set_cons_succ]
        have hS := q1
        refine wpAnyL_take (i := 4) (v := ?_) rfl (by kernel_rfl) (by kernel_rfl) (by kernel_rfl) (by kernel_rfl) (fun _ _ _ h => h) hS (Or.inl ⟨by rfl, ?_⟩) ?_
        rotate_left 1
        · intro w9 hw9
          have k0 := hw9
          go_simp
          try with_reducible rfl
        try simp only [List.getElem_toArray, List.getElem_cons_zero, List.getElem_cons_succ, Act.put, List.setIfInBounds_toArray, List.set_cons_zero, List.set_cons_succ]
        refine wpAnyL_take (i := 5) (v := ?_) rfl (by kernel_rfl) (by kernel_rfl) (by kernel_rfl) (by kernel_rfl) (fun _ _ _ h => h) hS (Or.inl ⟨by rfl, ?_⟩) ?_
        rotate_left 1
        · intro w9 hw9
          have k0 := hw9
          go_simp
          try with_reducible rfl
        try simp only [List.getElem_toArray, List.getElem_cons_zero, List.getElem_cons_succ, Act.put, List.setIfInBounds_toArray, List.set_cons_zero, List.set_cons_succ]
        refine wpAnyL_take (i := 6) (v := ?_) rfl (by kernel_rfl) (by kernel_rfl) (by kernel_rfl) (by kernel_rfl) (fun _ _ _ h => h) hS (Or.inl ⟨by rfl, ?_⟩) ?_
        rotate_left 1
        · intro w9 hw9
          have k0 := hw9
          go_simp
          try with_reducible rfl
        try simp only [List.getElem_toArray, List.getElem_cons_zero, List.getElem_cons_succ, Act.put, List.setIfInBounds_toArray, List.set_cons_zero, List.set_cons_succ]
        refine wpAnyL_take (i := 7) (v := ?_) rfl (by kernel_rfl) (by kernel_rfl) (by kernel_rfl) (by kernel_rfl) (fun _ _ _ h => h) hS (Or.inl ⟨by rfl, ?_⟩) ?_
        rotate_left 1
        · intro w9 hw9
          have k0 := hw9
          go_simp
          try with_reducible rfl
        try simp only [List.getElem_toArray, List.getElem_cons_zero, List.getElem_cons_succ, Act.put, List.setIfInBounds_toArray, List.set_cons_zero, List.set_cons_succ]
        clear hS
        clear kZ fZ
        have HZ1 := Lib.hid (HZ0.out.below HB1.out HZ0.out.lt)
        have kZ := HZ1.out.cell
        have fZ := HZ1.out.frozen
        have lz1 := HZ1.out.lt
        refine wpAnyL_one (i := 9) (by kernel_rfl) rfl (fun K hK => ?_)
        go_simp
        refine hK.out _ _ (fun _ => fun j => (cell6 (by omega)).trans (by first | exact q1 j | exact qZ j)) (fun _ => ?_)
        clear hK K
        try simp only [List.getElem_toArray, List.getElem_cons_zero, List.getElem_cons_succ, Act.put, List.setIfInBounds_toArray, List.set_cons_zero, List.set_cons_succ]
        refine wpAnyL_one (i := 10) (by kernel_rfl) rfl (fun K hK => ?_)
        go_simp
        refine hK.out _ _ (fun _ => fun j => (cell6 (by omega)).trans (by first | exact q1 j | exact qZ j)) (fun _ => ?_)
        clear hK K
        refine wpAnyL_one (i := 11) (by kernel_rfl) rfl (fun K hK => ?_)
        go_simp
        refine hK.out _ _ (fun _ => fun j => (cell6 (by omega)).trans (by first | exact q1 j | exact qZ j)) (fun _ => ?_)
        clear hK K
        refine wpAnyL_done (by kernel_rfl) ?_ _
        go_wp2_with fail
        go_meet
        exact ⟨A, c, hs, rfl, rfl, Lib.hid ((far6 HBs.out (Nat.zero_le _) lZ _ _ _ _ _ _).lower (Nat.le_trans (Nat.le_of_lt lY) (Nat.le_of_lt lZ))), Lib.hid (B1.trans (set6 (B := w.heap.size) (Nat.le_of_lt lY)))⟩
  case rest =>
  obtain ⟨A, c, hs, rfl, rfl, HBs, HBV⟩ := hcut
  obtain ⟨V, hV⟩ : ∃ Z, wc = Z := ⟨_, rfl⟩
  rw [hV] at HBs HBV ⊢
  clear hV
  have BV := HBV.out
  by_cases hz0 : z = 0
  rotate_left 1
  · obtain rfl : r = [] := HH0.out hz0
    have hzb : (z == 0) = false := by simpa using hz0
    have hzn : (z != 0) = true := by simpa using hz0
    clear HH HH0 HKK
    go_wp2_with fail
    exact bodyPost_ret (v := .tuple #[.slice none 0 0, .int .i64 z]) (by simp [results, Tryz.results18, go_sem]) rfl ⟨none, 0, rfl, nil_ints _, by (repeat first | with_reducible assumption | with_reducible exact Below.refl _ _ | (with_reducible refine Below.alloc ?_ ?side _; case side => (first | omega | (with_reducible exact Below.size (by assumption)) | (simp; done) | (simp; omega))) | (with_reducible refine Below.setCell ?_ ?side _; case side => (first | omega | (with_reducible exact Below.size (by assumption)) | (simp; done) | (simp; omega))) | with_reducible refine Below.drew ?_ | with_reducible refine below_drewN ?_ _ | (with_reducible refine below_step (by assumption) ?side ?_; case side => (first | omega | (with_reducible exact Below.size (by assumption)) | (simp; done) | (simp; omega))))⟩
  subst hz0
  obtain rfl := HH.out rfl
  clear HH HH0 HOP HWI BX HBX q0 l0
  by_cases hwh : wh = 2
  · subst hwh
    go_upto_region 5 with (fail)
    go_name_world Y0 hY0
    have BY0 : Below V.heap.size V Y0 := by rw [← hY0]; (repeat first | with_reducible assumption | with_reducible exact Below.refl _ _ | (with_reducible refine Below.alloc ?_ ?side _; case side => (first | omega | (with_reducible exact Below.size (by assumption)) | (simp; done) | (simp; omega))) | (with_reducible refine Below.setCell ?_ ?side _; case side => (first | omega | (with_reducible exact Below.size (by assumption)) | (simp; done) | (simp; omega))) | with_reducible refine Below.drew ?_ | with_reducible refine below_drewN ?_ _ | (with_reducible refine below_step (by assumption) ?side ?_; case side => (first | omega | (with_reducible exact Below.size (by assumption)) | (simp; done) | (simp; omega))))
    have zY0 : Y0.heap.size = V.heap.size + 1 := by rw [← hY0]; simp
    have HOW : Hid (Y0.ownsMap Tryz.prog 3 (plainElem (H := Unit) Tryz.prog 3) V.heap.size 0 (.map [])) := by rw [← hY0]; exact Lib.hid (World.ownsMap_made _ _ _ _)
    clear hY0 hmm
    go_wp2_with fail
    go_loopw [29] (fun i (wr : World) => ∃ k : Nat, k ≤ m ∧ i = .int .i64 k ∧ Hid (Off (fun b => b = V.heap.size) Y0.heap.size Y0 wr) ∧ Hid (∃ D, wr.ownsMap Tryz.prog 3 (plainElem (H := Unit) Tryz.prog 3) V.heap.size (99999 * k) D ∧ KeyD D (lk4 l 2 k))) (fun i _ => m - (intOf i).toNat)
    case atStart => exact ⟨0, by omega, by simp, Lib.hid .refl, Lib.hid ⟨_, HOW.out, .made fun x => rfl⟩⟩
    case round =>
      obtain ⟨k, hk, rfl, HOr, HDr⟩ := hrel
      obtain ⟨wo, rfl⟩ : ∃ wo : World, wo = wr := ⟨_, rfl⟩
      have zo := HOr.out.size
      have hVo := Lib.hid (HOr.out.below (m := V.heap.size) (fun b e => by omega) (by omega) BY0)
      by_cases hkn : k < m
      · have hkB : decide ((k : Int) < m) = true := by simp; omega
        have vk : IntKind.i64.wrap ((k : Int) + 1) = (k : Int) + 1 := IntWalk.i64_in _ (by omega)
        obtain ⟨b, off, hA, hb, hc, -⟩ := (HBs.out.later hVo.out).get hkn
        have hR := HBs.out.inn k hkn
        subst hA
        obtain ⟨x, hx⟩ : ∃ x, bxAt l k = x := ⟨_, rfl⟩
        have hxg : l[k]? = some x := by rw [← hx]; unfold bxAt; rw [List.getD_eq_getElem?_getD, List.getElem?_eq_getElem (by have := HXL.out; omega)]; rfl
        have HXO := Lib.hid (HK.out x (List.mem_of_getElem? hxg))
        rw [hx] at hR
        obtain ⟨h, hh⟩ : ∃ h, hbAt hs k = h := ⟨_, rfl⟩
        rw [hh] at hR hc
        obtain ⟨-, -, -, rb, ra⟩ := hR
        have c0 := hc 0 _ rfl
        have c1 := hc 1 _ rfl
        have c2 := hc 2 _ rfl
        have c3 := hc 3 _ rfl
        have c4 := hc 4 _ rfl
        have c5 := hc 5 _ rfl
        have c6 := hc 6 _ rfl
        have c7 := hc 7 _ rfl
        rw [Nat.add_zero] at c0
        obtain ⟨⟨u0, u1, u2, u3⟩, bw, ⟨bA, bn, bc⟩, aw, ⟨aA, an, ac⟩⟩ := h
        simp only at c0 c1 c2 c3 c4 c5 c6 c7 rb ra
        have HLS := Lib.hid (lk4_succ (wh := 2) hxg)
        have HRB := Lib.hid rb.1
        have HRA := Lib.hid ra.1
        have hbn : bn ≤ 99999 := by rw [← show x.b.2.length = bn from rb.1.1]; exact HXO.out.bl
        have han : an ≤ 99999 := by rw [← show x.a.2.length = an from ra.1.1]; exact HXO.out.al
        clear hc hh hx hxg rb ra
        go_upto_region 9 with (fail)
        go_name_world Y hY
        have BU : Below wo.heap.size wo Y := (al2 hY).1
        have q8 := (al2_0 hY).2.1
        have l8 := (al2_0 hY).1
        have q2 := (al2_1 hY).2.1
        have f2 := (al2_1 hY).2.2
        have l2 := (al2_1 hY).1
        have HBG : Hid (Blk Y (wo.heap.size + 1) 103 #[.int .i64 bw, .slice bA bn bc]) := by
          rw [← hY]
          have := Blk.new (wo.alloc (.cells #[.int .i64 u0, .int .i64 u1, .int .i64 u2, .int .i64 u3, .int .i64 bw, .slice bA bn bc, .int .i64 aw, .slice aA an ac] 105)) 103 #[.int .i64 bw, .slice bA bn bc]
          rw [World.size_alloc] at this
          exact Lib.hid this
        clear hY c0 c1 c2 c3 c4 c5 c6 c7
        have hsd : sd4 2 x = x.a.2 := rfl
        go_upto_region 11 with (fail)
        go_name_world U hU
        have BU' : Below wo.heap.size wo U := by rw [← hU]; (repeat first | with_reducible assumption | with_reducible exact Below.refl _ _ | (with_reducible refine Below.alloc ?_ ?side _; case side => (first | omega | (with_reducible exact Below.size (by assumption)) | (simp; done) | (simp; omega))) | (with_reducible refine Below.setCell ?_ ?side _; case side => (first | omega | (with_reducible exact Below.size (by assumption)) | (simp; done) | (simp; omega))) | with_reducible refine Below.drew ?_ | with_reducible refine below_drewN ?_ _ | (with_reducible refine below_step (by assumption) ?side ?_; case side => (first | omega | (with_reducible exact Below.size (by assumption)) | (simp; done) | (simp; omega))))
        have HBU : Hid (Blk U (wo.heap.size + 1) 103 #[.int .i64 aw, .slice aA an ac]) := by
          rw [← hU]
          have := (HBG.out.set_ 0 (.int .i64 aw)).set_ 1 (.slice aA an ac)
          exact Lib.hid (by simpa using this)
        have q9 := HBU.out.cell
        have l9 := HBU.out.lt
        clear hU BU q2 f2 l2 q8 l8
        replace BU := BU'
        clear BU'
        have HI1 := Lib.hid (HRA.out)
        have hU0 := Lib.hid (HOr.out.then_below BU (by omega))
        obtain ⟨D, hD1, hD2⟩ := HDr.out
        have HDU := Lib.hid (ownsMap_of_block (BU.block V.heap.size (by omega)) hD1)
        have HD2 := Lib.hid hD2
        clear hD1 hD2 HDr BU
        have zU0 := hU0.out.size
        go_wp2_with fail
        go_loopw [42] (fun i (wr : World) => ∃ j : Nat, j ≤ an ∧ i = .int .i64 j ∧ Hid (Off (fun b => b = V.heap.size) Y0.heap.size Y0 wr) ∧ Hid (∃ D, wr.ownsMap Tryz.prog 3 (plainElem (H := Unit) Tryz.prog 3) V.heap.size (99999 * k + j) D ∧ KeyD D (fun y => lk4 l 2 k y || ((x.a.2).take j).contains y))) (fun i _ => an - (intOf i).toNat)
        case atStart => exact ⟨0, by omega, by simp, hU0, Lib.hid ⟨D, HDU.out, HD2.out.congr fun y => by simp⟩⟩
        case round =>
          obtain ⟨j, hj, rfl, HOs, HDs⟩ := hrel
          have zs := HOs.out.size
          have hs2 := Lib.hid (HOs.out.below (m := V.heap.size) (fun b e => by omega) (by omega) BY0)
          by_cases hjn : j < an
          · have hjB : decide ((j : Int) < an) = true := by simp; omega
            have vj : IntKind.i64.wrap ((j : Int) + 1) = (j : Int) + 1 := IntWalk.i64_in _ (by omega)
            obtain ⟨bp, o9, e9, hbp, y9⟩ := (HI1.out.later hs2.out).get hjn
            subst e9
            have hvg := iAt_get (l := x.a.2) (k := j) (by rw [HI1.out.1]; exact hjn)
            have hvb := HXO.out.a _ (List.mem_of_getElem? hvg)
            have HVS := Lib.hid (lj_succ hvg)
            obtain ⟨v, hv⟩ : ∃ v, iAt (x.a.2) j = v := ⟨_, rfl⟩
            rw [hv] at y9 hvb HVS
            obtain ⟨D2, hD3, hD4⟩ := HDs.out
            have HD4 := Lib.hid hD4
            have hkey := key3 (x := v) (by omega)
            have hkm : 99999 * k + j < 10000000000 := by omega
            clear hD4 HDs hv hvg HDU
            go_wp2_with (first
              | (at_lookup; refine wpList_lookup_own_int _ rfl _ _ 84 rfl 3 3 .i64 keyed3 Tryz.underlying84 Tryz.underlying3 (zero3i _) V.heap.size (99999 * k + j) _ rfl hD3 _ _ rfl hkey ?_; intro c hat hwc)
              | (at_mapUpdate; refine wpList_mapUpdate_own _ rfl _ _ _ 84 rfl 3 3 keyed3 Tryz.underlying84 _ V.heap.size (99999 * k + j) _ rfl hD3 (by unfold maxLen; omega) _ _ _ rfl rfl hkey _ [] (plainElem_int Tryz.underlying3 (wrap64_wf _)) ?_; intro w1 hown1 hgrow1)
              | fail)
            have HG1 := Lib.hid hgrow1
            have HO1 := Lib.hid hown1
            clear hgrow1 hown1 hat hwc hD3
            go_roundw
            case rel =>
              refine ⟨j + 1, by omega, by go_num, Lib.hid (HOs.out.grown HG1.out (fun g e => by cases e; exact .inl rfl) (Nat.le_refl _)), Lib.hid ⟨_, HO1.out, HD4.out.put fun y => ?_⟩⟩
              rw [HVS.out y, Bool.or_assoc]
            case measure => simp [intOf]; omega
          · obtain rfl : j = an := by omega
            have hjB : decide ((j : Int) < j) = false := by simp
            obtain ⟨D2, hD3, hD4⟩ := HDs.out
            have HDN : Hid (∃ D, wr.ownsMap Tryz.prog 3 (plainElem (H := Unit) Tryz.prog 3) V.heap.size (99999 * (k + 1)) D ∧ KeyD D (lk4 l 2 (k + 1))) := Lib.hid ⟨D2, hD3.mono (by omega), hD4.congr fun y => by rw [HLS.out y, hsd, List.take_of_length_le (by rw [HI1.out.1]; exact Nat.le_refl _)]⟩
            clear hD3 hD4 HDs HDU
            go_wp2_with fail
            go_roundw
            case rel => exact ⟨k + 1, by omega, by go_num, HOs, HDN⟩
            case measure => simp [intOf]; omega
      · obtain rfl : k = m := by omega
        have hkB : decide ((k : Int) < k) = false := by simp
        obtain ⟨D, hD1, hD2⟩ := HDr.out
        have HK2 := Lib.hid (HKK.out _ wo D _ hD1 _ hD2 HLM.out (by omega))
        have B0 := BV.trans (hVo.out.mono BV.size)
        clear hD1 hD2 HKK
        go_wp2_with (go_at_call 46; refine HK2.out.mono ?_; (rintro e w2 ⟨A2, c2, rfl, hI, hb2⟩); (have B3 := B0.trans (hb2.mono B0.size)); have HI2 := Lib.hid hI; clear hb2 hI)
        exact bodyPost_ret (v := .tuple #[.slice A2 r.length c2, .int .i64 0]) (by simp [results, Tryz.results18, go_sem]) rfl ⟨A2, c2, rfl, HI2.out, B3⟩
  · have hwB : (wh == 2) = false := by simpa using hwh
    go_upto_region 5 with (fail)
    go_name_world Y0 hY0
    have BY0 : Below V.heap.size V Y0 := by rw [← hY0]; (repeat first | with_reducible assumption | with_reducible exact Below.refl _ _ | (with_reducible refine Below.alloc ?_ ?side _; case side => (first | omega | (with_reducible exact Below.size (by assumption)) | (simp; done) | (simp; omega))) | (with_reducible refine Below.setCell ?_ ?side _; case side => (first | omega | (with_reducible exact Below.size (by assumption)) | (simp; done) | (simp; omega))) | with_reducible refine Below.drew ?_ | with_reducible refine below_drewN ?_ _ | (with_reducible refine below_step (by assumption) ?side ?_; case side => (first | omega | (with_reducible exact Below.size (by assumption)) | (simp; done) | (simp; omega))))
    have zY0 : Y0.heap.size = V.heap.size + 1 := by rw [← hY0]; simp
    have HOW : Hid (Y0.ownsMap Tryz.prog 3 (plainElem (H := Unit) Tryz.prog 3) V.heap.size 0 (.map [])) := by rw [← hY0]; exact Lib.hid (World.ownsMap_made _ _ _ _)
    clear hY0 hmm
    go_wp2_with fail
    go_loopw [29] (fun i (wr : World) => ∃ k : Nat, k ≤ m ∧ i = .int .i64 k ∧ Hid (Off (fun b => b = V.heap.size) Y0.heap.size Y0 wr) ∧ Hid (∃ D, wr.ownsMap Tryz.prog 3 (plainElem (H := Unit) Tryz.prog 3) V.heap.size (99999 * k) D ∧ KeyD D (lk4 l wh k))) (fun i _ => m - (intOf i).toNat)
    case atStart => exact ⟨0, by omega, by simp, Lib.hid .refl, Lib.hid ⟨_, HOW.out, .made fun x => rfl⟩⟩
    case round =>
      obtain ⟨k, hk, rfl, HOr, HDr⟩ := hrel
      obtain ⟨wo, rfl⟩ : ∃ wo : World, wo = wr := ⟨_, rfl⟩
      have zo := HOr.out.size
      have hVo := Lib.hid (HOr.out.below (m := V.heap.size) (fun b e => by omega) (by omega) BY0)
      by_cases hkn : k < m
      · have hkB : decide ((k : Int) < m) = true := by simp; omega
        have vk : IntKind.i64.wrap ((k : Int) + 1) = (k : Int) + 1 := IntWalk.i64_in _ (by omega)
        obtain ⟨b, off, hA, hb, hc, -⟩ := (HBs.out.later hVo.out).get hkn
        have hR := HBs.out.inn k hkn
        subst hA
        obtain ⟨x, hx⟩ : ∃ x, bxAt l k = x := ⟨_, rfl⟩
        have hxg : l[k]? = some x := by rw [← hx]; unfold bxAt; rw [List.getD_eq_getElem?_getD, List.getElem?_eq_getElem (by have := HXL.out; omega)]; rfl
        have HXO := Lib.hid (HK.out x (List.mem_of_getElem? hxg))
        rw [hx] at hR
        obtain ⟨h, hh⟩ : ∃ h, hbAt hs k = h := ⟨_, rfl⟩
        rw [hh] at hR hc
        obtain ⟨-, -, -, rb, ra⟩ := hR
        have c0 := hc 0 _ rfl
        have c1 := hc 1 _ rfl
        have c2 := hc 2 _ rfl
        have c3 := hc 3 _ rfl
        have c4 := hc 4 _ rfl
        have c5 := hc 5 _ rfl
        have c6 := hc 6 _ rfl
        have c7 := hc 7 _ rfl
        rw [Nat.add_zero] at c0
        obtain ⟨⟨u0, u1, u2, u3⟩, bw, ⟨bA, bn, bc⟩, aw, ⟨aA, an, ac⟩⟩ := h
        simp only at c0 c1 c2 c3 c4 c5 c6 c7 rb ra
        have HLS := Lib.hid (lk4_succ (wh := wh) hxg)
        have HRB := Lib.hid rb.1
        have HRA := Lib.hid ra.1
        have hbn : bn ≤ 99999 := by rw [← show x.b.2.length = bn from rb.1.1]; exact HXO.out.bl
        have han : an ≤ 99999 := by rw [← show x.a.2.length = an from ra.1.1]; exact HXO.out.al
        clear hc hh hx hxg rb ra
        go_upto_region 9 with (fail)
        go_name_world Y hY
        have BU : Below wo.heap.size wo Y := (al2 hY).1
        have q8 := (al2_0 hY).2.1
        have l8 := (al2_0 hY).1
        have q2 := (al2_1 hY).2.1
        have f2 := (al2_1 hY).2.2
        have l2 := (al2_1 hY).1
        have HBG : Hid (Blk Y (wo.heap.size + 1) 103 #[.int .i64 bw, .slice bA bn bc]) := by
          rw [← hY]
          have := Blk.new (wo.alloc (.cells #[.int .i64 u0, .int .i64 u1, .int .i64 u2, .int .i64 u3, .int .i64 bw, .slice bA bn bc, .int .i64 aw, .slice aA an ac] 105)) 103 #[.int .i64 bw, .slice bA bn bc]
          rw [World.size_alloc] at this
          exact Lib.hid this
        clear hY c0 c1 c2 c3 c4 c5 c6 c7
        have hsd : sd4 wh x = x.b.2 := if_neg hwh
        have HI1 := Lib.hid (HRB.out)
        have hU0 := Lib.hid (HOr.out.then_below BU (by omega))
        obtain ⟨D, hD1, hD2⟩ := HDr.out
        have HDU := Lib.hid (ownsMap_of_block (BU.block V.heap.size (by omega)) hD1)
        have HD2 := Lib.hid hD2
        clear hD1 hD2 HDr BU
        have zU0 := hU0.out.size
        go_wp2_with fail
        go_loopw [42] (fun i (wr : World) => ∃ j : Nat, j ≤ bn ∧ i = .int .i64 j ∧ Hid (Off (fun b => b = V.heap.size) Y0.heap.size Y0 wr) ∧ Hid (∃ D, wr.ownsMap Tryz.prog 3 (plainElem (H := Unit) Tryz.prog 3) V.heap.size (99999 * k + j) D ∧ KeyD D (fun y => lk4 l wh k y || ((x.b.2).take j).contains y))) (fun i _ => bn - (intOf i).toNat)
        case atStart => exact ⟨0, by omega, by simp, hU0, Lib.hid ⟨D, HDU.out, HD2.out.congr fun y => by simp⟩⟩
        case round =>
          obtain ⟨j, hj, rfl, HOs, HDs⟩ := hrel
          have zs := HOs.out.size
          have hs2 := Lib.hid (HOs.out.below (m := V.heap.size) (fun b e => by omega) (by omega) BY0)
          by_cases hjn : j < bn
          · have hjB : decide ((j : Int) < bn) = true := by simp; omega
            have vj : IntKind.i64.wrap ((j : Int) + 1) = (j : Int) + 1 := IntWalk.i64_in _ (by omega)
            obtain ⟨bp, o9, e9, hbp, y9⟩ := (HI1.out.later hs2.out).get hjn
            subst e9
            have hvg := iAt_get (l := x.b.2) (k := j) (by rw [HI1.out.1]; exact hjn)
            have hvb := HXO.out.b _ (List.mem_of_getElem? hvg)
            have HVS := Lib.hid (lj_succ hvg)
            obtain ⟨v, hv⟩ : ∃ v, iAt (x.b.2) j = v := ⟨_, rfl⟩
            rw [hv] at y9 hvb HVS
            obtain ⟨D2, hD3, hD4⟩ := HDs.out
            have HD4 := Lib.hid hD4
            have hkey := key3 (x := v) (by omega)
            have hkm : 99999 * k + j < 10000000000 := by omega
            clear hD4 HDs hv hvg HDU
            go_wp2_with (first
              | (at_lookup; refine wpList_lookup_own_int _ rfl _ _ 84 rfl 3 3 .i64 keyed3 Tryz.underlying84 Tryz.underlying3 (zero3i _) V.heap.size (99999 * k + j) _ rfl hD3 _ _ rfl hkey ?_; intro c hat hwc)
              | (at_mapUpdate; refine wpList_mapUpdate_own _ rfl _ _ _ 84 rfl 3 3 keyed3 Tryz.underlying84 _ V.heap.size (99999 * k + j) _ rfl hD3 (by unfold maxLen; omega) _ _ _ rfl rfl hkey _ [] (plainElem_int Tryz.underlying3 (wrap64_wf _)) ?_; intro w1 hown1 hgrow1)
              | fail)
            have HG1 := Lib.hid hgrow1
            have HO1 := Lib.hid hown1
            clear hgrow1 hown1 hat hwc hD3
            go_roundw
            case rel =>
              refine ⟨j + 1, by omega, by go_num, Lib.hid (HOs.out.grown HG1.out (fun g e => by cases e; exact .inl rfl) (Nat.le_refl _)), Lib.hid ⟨_, HO1.out, HD4.out.put fun y => ?_⟩⟩
              rw [HVS.out y, Bool.or_assoc]
            case measure => simp [intOf]; omega
          · obtain rfl : j = bn := by omega
            have hjB : decide ((j : Int) < j) = false := by simp
            obtain ⟨D2, hD3, hD4⟩ := HDs.out
            have HDN : Hid (∃ D, wr.ownsMap Tryz.prog 3 (plainElem (H := Unit) Tryz.prog 3) V.heap.size (99999 * (k + 1)) D ∧ KeyD D (lk4 l wh (k + 1))) := Lib.hid ⟨D2, hD3.mono (by omega), hD4.congr fun y => by rw [HLS.out y, hsd, List.take_of_length_le (by rw [HI1.out.1]; exact Nat.le_refl _)]⟩
            clear hD3 hD4 HDs HDU
            go_wp2_with fail
            go_roundw
            case rel => exact ⟨k + 1, by omega, by go_num, HOs, HDN⟩
            case measure => simp [intOf]; omega
      · obtain rfl : k = m := by omega
        have hkB : decide ((k : Int) < k) = false := by simp
        obtain ⟨D, hD1, hD2⟩ := HDr.out
        have HK2 := Lib.hid (HKK.out _ wo D _ hD1 _ hD2 HLM.out (by omega))
        have B0 := BV.trans (hVo.out.mono BV.size)
        clear hD1 hD2 HKK
        go_wp2_with (go_at_call 46; refine HK2.out.mono ?_; (rintro e w2 ⟨A2, c2, rfl, hI, hb2⟩); (have B3 := B0.trans (hb2.mono B0.size)); have HI2 := Lib.hid hI; clear hb2 hI)
        exact bodyPost_ret (v := .tuple #[.slice A2 r.length c2, .int .i64 0]) (by simp [results, Tryz.results18, go_sem]) rfl ⟨A2, c2, rfl, HI2.out, B3⟩

end Go.Proofs.YtcbeiadimchknaaGreat
