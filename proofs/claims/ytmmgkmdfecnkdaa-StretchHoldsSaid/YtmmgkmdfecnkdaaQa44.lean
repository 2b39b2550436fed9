/- Lengths, Rods and Holds of the specification (layer 4), walked. -/
import Derived.Test.YtmmgkmdfecnkdaaQa43
import Derived.Shelf.Abstract
import Derived.Laws.EntriesVeiled
import Derived.Handy
import Derived.Deep.DrawnRows
import Derived.Deep.DeepCutAuto
namespace Go.Proofs.Ytmmgkmdfecnkdaa
open Go.RowKit
open Go.Sort (grow)
set_option linter.unusedVariables false
set_option linter.unusedSimpArgs false

section
variable (Ar : Option Addr) (nr cr : Nat) (Ad : Option Addr) (nd cd : Nat) (p : P4) (w : World)
set_option maxRecDepth 100000 in
set_option maxHeartbeats 1600000 in
theorem refHolds04_c (pt : Int) (hnr : nr ≤ 40) (hnd : nd ≤ 40) (HM : MemP Ar nr Ad nd p w) (hg8 : ck4 p = true → p.ghi - p.glo ≤ 8) (h12 : ck4 p = true → (ws4 p).length ≤ 12) :
    Calls Try.prog 25 #[.agg #[.int .i64 p.ir, .int .i64 p.glo, .int .i64 p.ghi, .slice Ar nr cr, .slice Ad nd cd, .int .i64 p.wr], .int .i64 pt] w fun e w' => e = .returned (.tuple #[.int .i64 (hds4 p pt), .int .i64 (op4 p (wn pt 0 1000))]) ∧ Below w.heap.size w w' := by
  have HKN := Lib.hid (fun V (hV : Below w.heap.size w V) => known4_c Ar nr cr Ad nd cd p (wn pt 0 1000) V hnr hnd (HM.later hV) hg8 h12)
  have HIS := Lib.hid (fun V => isPart4_c pt V)
  have hr := HM.hr.1
  have hd := HM.hd.1
  have hl := knL4_le (p := p) (is := wn pt 0 1000) (by omega) hg8 h12
  have HHD := Lib.hid (fun (h0 : op4 p (wn pt 0 1000) = 0) A c hs V (HT : ThsAt nr V A (knL4 p (wn pt 0 1000)).length hs (knL4 p (wn pt 0 1000))) => by
    have hp := wn_true.1 (op4_ol h0).1
    have := refholds4_c nr A _ c hs (knL4 p (wn pt 0 1000)) pt V hp HT (by omega) (fun k hk => by
      obtain ⟨h1, ok⟩ := knL4_in hr hd (tuAt_mem hk)
      have := alt4_in ok h1
      exact ⟨this.1, this.2.1⟩)
    rw [show hdR4 (hcK4 (knL4 p (wn pt 0 1000)) pt (knL4 p (wn pt 0 1000)).length) (knL4 p (wn pt 0 1000)).length = hds4 p pt from by
      rw [knL4_yes h0, holds_eq (op4_ol h0).2.2.2 hp.1]
      unfold hds4
      rw [h0]; rfl] at this
    exact this)
  have HR0 := Lib.hid (fun (h : op4 p (wn pt 0 1000) ≠ 0) => show hds4 p pt = 0 from by unfold hds4; rw [show (op4 p (wn pt 0 1000) == 0) = false by simpa using h]; rfl)
  obtain ⟨is, his⟩ : ∃ b, wn pt 0 1000 = b := ⟨_, rfl⟩
  rw [his] at HKN HIS HHD HR0 ⊢
  unfold Kn4 at HKN
  obtain ⟨z, hz⟩ : ∃ z, op4 p is = z := ⟨_, rfl⟩
  obtain ⟨l, hll⟩ : ∃ l, knL4 p is = l := ⟨_, rfl⟩
  rw [hz, hll] at HKN HHD
  rw [hz] at HR0
  rw [hz]
  obtain ⟨m, hm⟩ : ∃ m, l.length = m := ⟨_, rfl⟩
  rw [hm] at HKN HHD
  obtain ⟨r, hrr⟩ : ∃ r, hds4 p pt = r := ⟨_, rfl⟩
  rw [hrr] at HHD HR0 ⊢
  clear HM hr hd hg8 h12 hz hll hm hl hrr his
  obtain ⟨ir, glo, ghi, wrg, rods, res⟩ := p
  simp only at HKN ⊢
  go_enter Try.func25, Try.ntmps25
  go_upto_region 1 with (fail)
  go_name_world X hX
  have BX : Below w.heap.size w X := (al1 hX).1
  have HPX : Hid (Blk X w.heap.size 27 #[Value.int .i64 ir, .int .i64 glo, .int .i64 ghi, .slice Ar nr cr, .slice Ad nd cd, .int .i64 wrg]) := by rw [← hX]; exact Lib.hid (Blk.new w _ _)
  clear hX
  refine wp_region_L (by kernel_rfl) (fun W' => ∀ j, W'.cell? ⟨w.heap.size, j, none⟩ = #[Value.int .i64 ir, .int .i64 glo, .int .i64 ghi, .slice Ar nr cr, .slice Ad nd cd, .int .i64 wrg][j]?) 99 ?_
  obtain ⟨Y, hY⟩ : ∃ Y, X.drew = Y := ⟨_, rfl⟩
  rw [hY]
  have BY : Below w.heap.size w Y := by rw [← hY]; (repeat first | with_reducible assumption | with_reducible exact Below.refl _ _ | (with_reducible refine Below.alloc ?_ ?side _; case side => (first | omega | (with_reducible exact Below.size (by assumption)) | (simp; done) | (simp; omega))) | (with_reducible refine Below.setCell ?_ ?side _; case side => (first | omega | (with_reducible exact Below.size (by assumption)) | (simp; done) | (simp; omega))) | with_reducible refine Below.drew ?_ | with_reducible refine below_drewN ?_ _ | (with_reducible refine below_step (by assumption) ?side ?_; case side => (first | omega | (with_reducible exact Below.size (by assumption)) | (simp; done) | (simp; omega))))
  have HPY : Hid (Blk Y w.heap.size 27 #[Value.int .i64 ir, .int .i64 glo, .int .i64 ghi, .slice Ar nr cr, .slice Ad nd cd, .int .i64 wrg]) := by rw [← hY]; exact Lib.hid (HPX.out.below (Below.drew (Below.refl _ _)) HPX.out.lt)
  clear hY HPX BX
  have hS := HPY.out.cell
  refine wpAnyL_take (i := 0) (v := ?_) rfl (by kernel_rfl) (by kernel_rfl) (by kernel_rfl) (by kernel_rfl) (fun _ _ _ h => h) hS (Or.inl ⟨by rfl, ?_⟩) ?_
  rotate_left 1
  · intro w9 k0
    go_simp
    try with_reducible rfl
  try simp only [List.getElem_toArray, List.getElem_cons_zero, Act.put, List.setIfInBounds_toArray, List.set_cons_zero, List.set_cons_succ]
  refine wpAnyL_take (i := 1) (v := ?_) rfl (by kernel_rfl) (by kernel_rfl) (by kernel_rfl) (by kernel_rfl) (fun _ _ _ h => h) hS (Or.inl ⟨by rfl, ?_⟩) ?_
  rotate_left 1
  · intro w9 k0
    go_simp
    try with_reducible rfl
  try simp only [List.getElem_toArray, List.getElem_cons_zero, List.getElem_cons_succ, Act.put, List.setIfInBounds_toArray, List.set_cons_zero, List.set_cons_succ]
  refine wpAnyL_one (i := 2) (by kernel_rfl) rfl (fun K hK => ?_)
  go_simp
  go_at_call 57
  refine (HIS.out _).mono ?_
  rintro e w' ⟨rfl, rfl⟩
  refine hK.out _ _ (fun _ => hS) (fun _ => ?_)
  clear hK K
  try simp only [List.getElem_toArray, List.getElem_cons_zero, List.getElem_cons_succ, Act.put, List.setIfInBounds_toArray, List.set_cons_zero, List.set_cons_succ]
  refine wpAnyL_one (i := 3) (by kernel_rfl) rfl (fun K hK => ?_)
  go_simp
  go_at_call 45
  refine (HKN.out Y BY).mono ?_
  rintro e w1 ⟨A, c, hs, rfl, hT, hb1⟩
  have HT := Lib.hid hT
  have B1 := BY.trans (hb1.mono BY.size)
  have HPB := Lib.hid (HPY.out.below hb1 HPY.out.lt)
  clear hT hb1
  refine hK.out _ _ (fun _ => HPB.out.cell) (fun _ => ?_)
  clear hK K
  try simp only [List.getElem_toArray, List.getElem_cons_zero, List.getElem_cons_succ, Act.put, List.setIfInBounds_toArray, List.set_cons_zero, List.set_cons_succ]
  clear hS
  have hS := HPB.out.cell
  refine wpAnyL_take (i := 4) (v := ?_) rfl (by kernel_rfl) (by kernel_rfl) (by kernel_rfl) (by kernel_rfl) (fun _ _ _ h => h) hS (Or.inl ⟨by rfl, ?_⟩) ?_
  rotate_left 1
  · intro w9 k0
    go_simp
    try with_reducible rfl
  try simp only [List.getElem_toArray, List.getElem_cons_zero, List.getElem_cons_succ, Act.put, List.setIfInBounds_toArray, List.set_cons_zero, List.set_cons_succ]
  refine wpAnyL_take (i := 5) (v := ?_) rfl (by kernel_rfl) (by kernel_rfl) (by kernel_rfl) (by kernel_rfl) (fun _ _ _ h => h) hS (Or.inl ⟨by rfl, ?_⟩) ?_
  rotate_left 1
  · intro w9 k0
    go_simp
    try with_reducible rfl
  try simp only [List.getElem_toArray, List.getElem_cons_zero, List.getElem_cons_succ, Act.put, List.setIfInBounds_toArray, List.set_cons_zero, List.set_cons_succ]
  refine wpAnyL_take (i := 6) (v := ?_) rfl (by kernel_rfl) (by kernel_rfl) (by kernel_rfl) (by kernel_rfl) (fun _ _ _ h => h) hS (Or.inl ⟨by rfl, ?_⟩) ?_
  rotate_left 1
  · intro w9 k0
    go_simp
    try with_reducible rfl
  try simp only [List.getElem_toArray, List.getElem_cons_zero, List.getElem_cons_succ, Act.put, List.setIfInBounds_toArray, List.set_cons_zero, List.set_cons_succ]
  refine wpAnyL_one (i := 7) (by kernel_rfl) rfl (fun K hK => ?_)
  go_simp
  refine hK.out _ _ (fun _ => hS) (fun _ => ?_)
  clear hK K
  try simp only [List.getElem_toArray, List.getElem_cons_zero, List.getElem_cons_succ, Act.put, List.setIfInBounds_toArray, List.set_cons_zero, List.set_cons_succ]
  refine wpAnyL_one (i := 8) (by kernel_rfl) rfl (fun K hK => ?_)
  go_simp
  refine hK.out _ _ (fun _ => hS) (fun _ => ?_)
  clear hK K
  try simp only [List.getElem_toArray, List.getElem_cons_zero, List.getElem_cons_succ, Act.put, List.setIfInBounds_toArray, List.set_cons_zero, List.set_cons_succ]
  refine wpAnyL_done (by kernel_rfl) ?_ _
  clear hS
  by_cases hz0 : z = 0
  · subst hz0
    have HHH := Lib.hid (HHD.out rfl A c hs w1 HT.out)
    clear HHD HR0
    go_wp2_with (go_at_call 58; refine HHH.out.mono ?_; (rintro e w2 ⟨rfl, hb2⟩); (have B2 := B1.trans (hb2.mono B1.size)); clear hb2)
    exact bodyPost_ret (v := .tuple #[.int .i64 r, .int .i64 0]) (by simp [results, Try.results25, go_sem]) rfl ⟨rfl, B2⟩
  · obtain rfl : r = 0 := HR0.out hz0
    have hzb : (z == 0) = false := by simpa using hz0
    have hzn : (z != 0) = true := by simpa using hz0
    clear HHD HR0
    go_wp2_with fail
    exact bodyPost_ret (v := .tuple #[.int .i64 0, .int .i64 z]) (by simp [results, Try.results25, go_sem]) rfl ⟨rfl, B1⟩
set_option maxRecDepth 100000 in
set_option maxHeartbeats 1600000 in
theorem refRods04_c (rod : Int) (hnr : nr ≤ 40) (hnd : nd ≤ 40) (HM : MemP Ar nr Ad nd p w) (hg8 : ck4 p = true → p.ghi - p.glo ≤ 8) (h12 : ck4 p = true → (ws4 p).length ≤ 12) :
    Calls Try.prog 17 #[.agg #[.int .i64 p.ir, .int .i64 p.glo, .int .i64 p.ghi, .slice Ar nr cr, .slice Ad nd cd, .int .i64 p.wr], .int .i64 rod] w fun e w' =>
      ∃ A c, e = .returned (.tuple #[.slice A (rds4 p rod).length c, .int .i64 (op4 p (wn rod 0 ((p.rods.length : Int) - 1)))]) ∧ IntsAt w' A (rds4 p rod).length (rds4 p rod) ∧ Below w.heap.size w w' := by
  have hr := HM.hr.1
  have hd := HM.hd.1
  rw [show (p.rods.length : Int) = nr by rw [hr]]
  have HKN := Lib.hid (fun V (hV : Below w.heap.size w V) => known4_c Ar nr cr Ad nd cd p (wn rod 0 ((nr : Int) - 1)) V hnr hnd (HM.later hV) hg8 h12)
  have HIS := Lib.hid (fun V => isRod4_c p.ir p.glo p.ghi p.wr Ar nr cr Ad nd cd rod V hnr)
  have hl := knL4_le (p := p) (is := wn rod 0 ((nr : Int) - 1)) (by omega) hg8 h12
  have HHD : Hid (∀ (h0 : op4 p (wn rod 0 ((nr : Int) - 1)) = 0) (A : Option Addr) (c : Nat) (hs : List Th4) (V : World) (hV : Below w.heap.size w V) (HT : ThsAt nr V A (knL4 p (wn rod 0 ((nr : Int) - 1))).length hs (knL4 p (wn rod 0 ((nr : Int) - 1)))),
      Calls Try.prog 49 #[.agg #[.int .i64 p.ir, .int .i64 p.glo, .int .i64 p.ghi, .slice Ar nr cr, .slice Ad nd cd, .int .i64 p.wr], .slice A (knL4 p (wn rod 0 ((nr : Int) - 1))).length c, .int .i64 rod] V fun e w' => ∃ B d, e = .returned (.slice B (rds4 p rod).length d) ∧ IntsAt w' B (rds4 p rod).length (rds4 p rod) ∧ Below V.heap.size V w') := Lib.hid (fun h0 A c hs V hV HT => by
    have hp := wn_true.1 (op4_ol h0).1
    have ok := ok4_of (op4_ol h0).2.1 hr hd
    obtain ⟨q, rfl⟩ := Int.eq_ofNat_of_zero_le hp.1
    have hq : q < nr := by omega
    have := refrods4_c Ar nr cr Ad nd cd p A _ c hs (knL4 p (wn (q : Int) 0 ((nr : Int) - 1))) q V ok (HM.later hV) HT (by omega) hq
    rw [show srt4 (rdK4 (knL4 p (wn (q : Int) 0 ((nr : Int) - 1))) q (knL4 p (wn (q : Int) 0 ((nr : Int) - 1))).length) (knL4 p (wn (q : Int) 0 ((nr : Int) - 1))).length ((roAt p.rods q).lg - (roAt p.rods q).we) (roAt p.rods q).lg = rds4 p (q : Int) from by
      rw [knL4_yes h0, rods_eq ok hq]
      unfold rds4
      rw [show (p.rods.length : Int) = nr by rw [hr], h0]; rfl] at this
    exact this)
  have HR0 := Lib.hid (fun (h : op4 p (wn rod 0 ((nr : Int) - 1)) ≠ 0) => show rds4 p rod = [] from by unfold rds4; rw [show (p.rods.length : Int) = nr by rw [hr], show (op4 p (wn rod 0 ((nr : Int) - 1)) == 0) = false by simpa using h]; rfl)
  obtain ⟨is, his⟩ : ∃ b, wn rod 0 ((nr : Int) - 1) = b := ⟨_, rfl⟩
  rw [his] at HKN HIS HHD HR0 ⊢
  unfold Kn4 at HKN
  obtain ⟨z, hz⟩ : ∃ z, op4 p is = z := ⟨_, rfl⟩
  obtain ⟨l, hll⟩ : ∃ l, knL4 p is = l := ⟨_, rfl⟩
  rw [hz, hll] at HKN HHD
  rw [hz] at HR0
  rw [hz]
  obtain ⟨m, hm⟩ : ∃ m, l.length = m := ⟨_, rfl⟩
  rw [hm] at HKN HHD
  obtain ⟨r, hrr⟩ : ∃ r, rds4 p rod = r := ⟨_, rfl⟩
  rw [hrr] at HHD HR0 ⊢
  obtain ⟨rn, hrn⟩ : ∃ n, r.length = n := ⟨_, rfl⟩
  rw [hrn] at HHD ⊢
  have HRN := Lib.hid hrn
  clear HM hr hd hg8 h12 hz hll hm hl hrr his hrn
  obtain ⟨ir, glo, ghi, wrg, rods, res⟩ := p
  simp only at HKN HIS HHD ⊢
  go_enter Try.func17, Try.ntmps17
  go_upto_region 1 with (fail)
  go_name_world X hX
  have BX : Below w.heap.size w X := (al1 hX).1
  have HPX : Hid (Blk X w.heap.size 27 #[Value.int .i64 ir, .int .i64 glo, .int .i64 ghi, .slice Ar nr cr, .slice Ad nd cd, .int .i64 wrg]) := by rw [← hX]; exact Lib.hid (Blk.new w _ _)
  clear hX
  refine wp_region_L (by kernel_rfl) (fun W' => ∀ j, W'.cell? ⟨w.heap.size, j, none⟩ = #[Value.int .i64 ir, .int .i64 glo, .int .i64 ghi, .slice Ar nr cr, .slice Ad nd cd, .int .i64 wrg][j]?) 99 ?_
  obtain ⟨Y, hY⟩ : ∃ Y, X.drew = Y := ⟨_, rfl⟩
  rw [hY]
  have BY : Below w.heap.size w Y := by rw [← hY]; (repeat first | with_reducible assumption | with_reducible exact Below.refl _ _ | (with_reducible refine Below.alloc ?_ ?side _; case side => (first | omega | (with_reducible exact Below.size (by assumption)) | (simp; done) | (simp; omega))) | (with_reducible refine Below.setCell ?_ ?side _; case side => (first | omega | (with_reducible exact Below.size (by assumption)) | (simp; done) | (simp; omega))) | with_reducible refine Below.drew ?_ | with_reducible refine below_drewN ?_ _ | (with_reducible refine below_step (by assumption) ?side ?_; case side => (first | omega | (with_reducible exact Below.size (by assumption)) | (simp; done) | (simp; omega))))
  have HPY : Hid (Blk Y w.heap.size 27 #[Value.int .i64 ir, .int .i64 glo, .int .i64 ghi, .slice Ar nr cr, .slice Ad nd cd, .int .i64 wrg]) := by rw [← hY]; exact Lib.hid (HPX.out.below (Below.drew (Below.refl _ _)) HPX.out.lt)
  clear hY HPX BX
  have hS := HPY.out.cell
  refine wpAnyL_take (i := 0) (v := ?_) rfl (by kernel_rfl) (by kernel_rfl) (by kernel_rfl) (by kernel_rfl) (fun _ _ _ h => h) hS (Or.inl ⟨by rfl, ?_⟩) ?_
  rotate_left 1
  · intro w9 k0
    go_simp
    try with_reducible rfl
  try simp only [List.getElem_toArray, List.getElem_cons_zero, Act.put, List.setIfInBounds_toArray, List.set_cons_zero, List.set_cons_succ]
  refine wpAnyL_take (i := 1) (v := ?_) rfl (by kernel_rfl) (by kernel_rfl) (by kernel_rfl) (by kernel_rfl) (fun _ _ _ h => h) hS (Or.inl ⟨by rfl, ?_⟩) ?_
  rotate_left 1
  · intro w9 k0
    go_simp
    try with_reducible rfl
  try simp only [List.getElem_toArray, List.getElem_cons_zero, List.getElem_cons_succ, Act.put, List.setIfInBounds_toArray, List.set_cons_zero, List.set_cons_succ]
  refine wpAnyL_take (i := 2) (v := ?_) rfl (by kernel_rfl) (by kernel_rfl) (by kernel_rfl) (by kernel_rfl) (fun _ _ _ h => h) hS (Or.inl ⟨by rfl, ?_⟩) ?_
  rotate_left 1
  · intro w9 k0
    go_simp
    try with_reducible rfl
  try simp only [List.getElem_toArray, List.getElem_cons_zero, List.getElem_cons_succ, Act.put, List.setIfInBounds_toArray, List.set_cons_zero, List.set_cons_succ]
  refine wpAnyL_one (i := 3) (by kernel_rfl) rfl (fun K hK => ?_)
  go_simp
  go_at_call 39
  refine (HIS.out _).mono ?_
  rintro e Y1 ⟨rfl, hby⟩
  have BY1 := BY.trans (hby.mono BY.size)
  have HPY1 := Lib.hid (HPY.out.below hby HPY.out.lt)
  refine hK.out _ _ (fun _ => HPY1.out.cell) (fun _ => ?_)
  clear hK K hS hby BY HPY
  try simp only [List.getElem_toArray, List.getElem_cons_zero, List.getElem_cons_succ, Act.put, List.setIfInBounds_toArray, List.set_cons_zero, List.set_cons_succ]
  have hS := HPY1.out.cell
  refine wpAnyL_one (i := 4) (by kernel_rfl) rfl (fun K hK => ?_)
  go_simp
  go_at_call 45
  refine (HKN.out Y1 BY1).mono ?_
  rintro e w1 ⟨A, c, hs, rfl, hT, hb1⟩
  have HT := Lib.hid hT
  have B1 := BY1.trans (hb1.mono BY1.size)
  have HPB := Lib.hid (HPY1.out.below hb1 HPY1.out.lt)
  clear hT hb1
  refine hK.out _ _ (fun _ => HPB.out.cell) (fun _ => ?_)
  clear hK K hS
  try simp only [List.getElem_toArray, List.getElem_cons_zero, List.getElem_cons_succ, Act.put, List.setIfInBounds_toArray, List.set_cons_zero, List.set_cons_succ]
  have hS := HPB.out.cell
  refine wpAnyL_take (i := 5) (v := ?_) rfl (by kernel_rfl) (by kernel_rfl) (by kernel_rfl) (by kernel_rfl) (fun _ _ _ h => h) hS (Or.inl ⟨by rfl, ?_⟩) ?_
  rotate_left 1
  · intro w9 k0
    go_simp
    try with_reducible rfl
  try simp only [List.getElem_toArray, List.getElem_cons_zero, List.getElem_cons_succ, Act.put, List.setIfInBounds_toArray, List.set_cons_zero, List.set_cons_succ]
  refine wpAnyL_take (i := 6) (v := ?_) rfl (by kernel_rfl) (by kernel_rfl) (by kernel_rfl) (by kernel_rfl) (fun _ _ _ h => h) hS (Or.inl ⟨by rfl, ?_⟩) ?_
  rotate_left 1
  · intro w9 k0
    go_simp
    try with_reducible rfl
  try simp only [List.getElem_toArray, List.getElem_cons_zero, List.getElem_cons_succ, Act.put, List.setIfInBounds_toArray, List.set_cons_zero, List.set_cons_succ]
  refine wpAnyL_take (i := 7) (v := ?_) rfl (by kernel_rfl) (by kernel_rfl) (by kernel_rfl) (by kernel_rfl) (fun _ _ _ h => h) hS (Or.inl ⟨by rfl, ?_⟩) ?_
  rotate_left 1
  · intro w9 k0
    go_simp
    try with_reducible rfl
  try simp only [List.getElem_toArray, List.getElem_cons_zero, List.getElem_cons_succ, Act.put, List.setIfInBounds_toArray, List.set_cons_zero, List.set_cons_succ]
  refine wpAnyL_one (i := 8) (by kernel_rfl) rfl (fun K hK => ?_)
  go_simp
  refine hK.out _ _ (fun _ => hS) (fun _ => ?_)
  clear hK K
  try simp only [List.getElem_toArray, List.getElem_cons_zero, List.getElem_cons_succ, Act.put, List.setIfInBounds_toArray, List.set_cons_zero, List.set_cons_succ]
  refine wpAnyL_one (i := 9) (by kernel_rfl) rfl (fun K hK => ?_)
  go_simp
  refine hK.out _ _ (fun _ => hS) (fun _ => ?_)
  clear hK K
  try simp only [List.getElem_toArray, List.getElem_cons_zero, List.getElem_cons_succ, Act.put, List.setIfInBounds_toArray, List.set_cons_zero, List.set_cons_succ]
  refine wpAnyL_done (by kernel_rfl) ?_ _
  clear hS
  have qB := HPB.out.cell
  have lB := HPB.out.lt
  by_cases hz0 : z = 0
  · subst hz0
    have HHH := Lib.hid (HHD.out rfl A c hs w1 B1 HT.out)
    clear HHD HR0
    go_wp2_with (go_at_call 49; refine HHH.out.mono ?_; (rintro e w2 ⟨D, d, rfl, hI, hb2⟩); (have B2 := B1.trans (hb2.mono B1.size)); (have HI := Lib.hid hI); clear hb2 hI qB lB)
    exact bodyPost_ret (v := .tuple #[.slice D rn d, .int .i64 0]) (by simp [results, Try.results17, go_sem]) rfl ⟨D, d, rfl, HI.out, B2⟩
  · obtain rfl : r = [] := HR0.out hz0
    obtain rfl : 0 = rn := HRN.out
    have hzb : (z == 0) = false := by simpa using hz0
    have hzn : (z != 0) = true := by simpa using hz0
    clear HHD HR0 qB lB
    go_wp2_with fail
    exact bodyPost_ret (v := .tuple #[.slice none 0 0, .int .i64 z]) (by simp [results, Try.results17, go_sem]) rfl ⟨none, 0, rfl, nil_ints _, B1⟩
set_option maxRecDepth 100000 in
set_option maxHeartbeats 3200000 in
theorem refLengths4_c (wh : Int) (hnr : nr ≤ 40) (hnd : nd ≤ 40) (HM : MemP Ar nr Ad nd p w) (hg8 : ck4 p = true → p.ghi - p.glo ≤ 8) (h12 : ck4 p = true → (ws4 p).length ≤ 12) :
    Calls Try.prog 15 #[.agg #[.int .i64 p.ir, .int .i64 p.glo, .int .i64 p.ghi, .slice Ar nr cr, .slice Ad nd cd, .int .i64 p.wr], .int .i64 wh] w fun e w' =>
      ∃ A c, e = .returned (.tuple #[.slice A (lgs4 p wh).length c, .int .i64 (op4 p (when4 wh))]) ∧ IntsAt w' A (lgs4 p wh).length (lgs4 p wh) ∧ Below w.heap.size w w' := by
  have HKN := Lib.hid (fun V (hV : Below w.heap.size w V) => known4_c Ar nr cr Ad nd cd p (when4 wh) V hnr hnd (HM.later hV) hg8 h12)
  have HIS := Lib.hid (fun V => refIsWhen4_c wh V)
  have hr := HM.hr.1
  have hd := HM.hd.1
  have hl := knL4_le (p := p) (is := when4 wh) (by omega) hg8 h12
  have HHD := Lib.hid (fun (h0 : op4 p (when4 wh) = 0) A c V (HT : IntsAt V A (knL4 p (when4 wh)).length (lsK4 (knL4 p (when4 wh)) wh (knL4 p (when4 wh)).length)) => by
    have ok := ok4_of (op4_ol h0).2.1 hr hd
    have hg := ok.g
    have h8 := hg8 (op4_ol h0).2.1
    have := refSorted4_c A _ c (lsK4 (knL4 p (when4 wh)) wh (knL4 p (when4 wh)).length) p.glo p.ghi V (by omega) HT (by omega) (by omega) (by omega)
    rw [show srt4 (lsK4 (knL4 p (when4 wh)) wh (knL4 p (when4 wh)).length) (knL4 p (when4 wh)).length p.glo p.ghi = lgs4 p wh from by
      rw [knL4_yes h0, lens_eq (op4_ol h0).1]
      unfold lgs4
      rw [h0]; rfl] at this
    exact this)
  have HR0 := Lib.hid (fun (h : op4 p (when4 wh) ≠ 0) => show lgs4 p wh = [] from by unfold lgs4; rw [show (op4 p (when4 wh) == 0) = false by simpa using h]; rfl)
  have HW := Lib.hid (fun (h : op4 p (when4 wh) = 0) => (op4_ol h).1)
  have HW2 : Hid (when4 wh = true → wh = 1 ∨ wh = 2) := Lib.hid (fun h => by simpa [when4] using h)
  obtain ⟨is, his⟩ : ∃ b, when4 wh = b := ⟨_, rfl⟩
  rw [his] at HKN HIS HHD HR0 HW HW2 hl ⊢
  unfold Kn4 at HKN
  obtain ⟨z, hz⟩ : ∃ z, op4 p is = z := ⟨_, rfl⟩
  obtain ⟨l, hll⟩ : ∃ l, knL4 p is = l := ⟨_, rfl⟩
  rw [hz, hll] at HKN HHD
  rw [hz] at HR0 HW
  rw [hz]
  rw [hll] at hl
  obtain ⟨m, hm⟩ : ∃ m, l.length = m := ⟨_, rfl⟩
  rw [hm] at HKN HHD hl
  obtain ⟨r, hrr⟩ : ∃ r, lgs4 p wh = r := ⟨_, rfl⟩
  rw [hrr] at HHD HR0 ⊢
  obtain ⟨rn, hrn⟩ : ∃ n, r.length = n := ⟨_, rfl⟩
  rw [hrn] at HHD ⊢
  have HRN := Lib.hid hrn
  clear HM hr hd hg8 h12 hz hll hm hrr his hrn
  obtain ⟨ir, glo, ghi, wrg, rods, res⟩ := p
  simp only at HKN HHD ⊢
  go_enter Try.func15, Try.ntmps15
  go_upto_region 1 with (fail)
  go_name_world X hX
  have BX : Below w.heap.size w X := (al1 hX).1
  have HPX : Hid (Blk X w.heap.size 27 #[Value.int .i64 ir, .int .i64 glo, .int .i64 ghi, .slice Ar nr cr, .slice Ad nd cd, .int .i64 wrg]) := by rw [← hX]; exact Lib.hid (Blk.new w _ _)
  clear hX
  refine wp_region_L (by kernel_rfl) (fun W' => ∀ j, W'.cell? ⟨w.heap.size, j, none⟩ = #[Value.int .i64 ir, .int .i64 glo, .int .i64 ghi, .slice Ar nr cr, .slice Ad nd cd, .int .i64 wrg][j]?) 99 ?_
  obtain ⟨Y, hY⟩ : ∃ Y, X.drew = Y := ⟨_, rfl⟩
  rw [hY]
  have BY : Below w.heap.size w Y := by rw [← hY]; (repeat first | with_reducible assumption | with_reducible exact Below.refl _ _ | (with_reducible refine Below.alloc ?_ ?side _; case side => (first | omega | (with_reducible exact Below.size (by assumption)) | (simp; done) | (simp; omega))) | (with_reducible refine Below.setCell ?_ ?side _; case side => (first | omega | (with_reducible exact Below.size (by assumption)) | (simp; done) | (simp; omega))) | with_reducible refine Below.drew ?_ | with_reducible refine below_drewN ?_ _ | (with_reducible refine below_step (by assumption) ?side ?_; case side => (first | omega | (with_reducible exact Below.size (by assumption)) | (simp; done) | (simp; omega))))
  have HPY : Hid (Blk Y w.heap.size 27 #[Value.int .i64 ir, .int .i64 glo, .int .i64 ghi, .slice Ar nr cr, .slice Ad nd cd, .int .i64 wrg]) := by rw [← hY]; exact Lib.hid (HPX.out.below (Below.drew (Below.refl _ _)) HPX.out.lt)
  clear hY HPX BX
  have hS := HPY.out.cell
  refine wpAnyL_take (i := 0) (v := ?_) rfl (by kernel_rfl) (by kernel_rfl) (by kernel_rfl) (by kernel_rfl) (fun _ _ _ h => h) hS (Or.inl ⟨by rfl, ?_⟩) ?_
  rotate_left 1
  · intro w9 k0
    go_simp
    try with_reducible rfl
  try simp only [List.getElem_toArray, List.getElem_cons_zero, Act.put, List.setIfInBounds_toArray, List.set_cons_zero, List.set_cons_succ]
  refine wpAnyL_take (i := 1) (v := ?_) rfl (by kernel_rfl) (by kernel_rfl) (by kernel_rfl) (by kernel_rfl) (fun _ _ _ h => h) hS (Or.inl ⟨by rfl, ?_⟩) ?_
  rotate_left 1
  · intro w9 k0
    go_simp
    try with_reducible rfl
  try simp only [List.getElem_toArray, List.getElem_cons_zero, List.getElem_cons_succ, Act.put, List.setIfInBounds_toArray, List.set_cons_zero, List.set_cons_succ]
  refine wpAnyL_one (i := 2) (by kernel_rfl) rfl (fun K hK => ?_)
  go_simp
  go_at_call 38
  refine (HIS.out _).mono ?_
  rintro e w' ⟨rfl, rfl⟩
  refine hK.out _ _ (fun _ => hS) (fun _ => ?_)
  clear hK K
  try simp only [List.getElem_toArray, List.getElem_cons_zero, List.getElem_cons_succ, Act.put, List.setIfInBounds_toArray, List.set_cons_zero, List.set_cons_succ]
  refine wpAnyL_one (i := 3) (by kernel_rfl) rfl (fun K hK => ?_)
  go_simp
  go_at_call 45
  refine (HKN.out Y BY).mono ?_
  rintro e w1 ⟨A, c, hs, rfl, hT, hb1⟩
  have HT := Lib.hid hT
  have B1 := BY.trans (hb1.mono BY.size)
  have HPB := Lib.hid (HPY.out.below hb1 HPY.out.lt)
  clear hT hb1
  refine hK.out _ _ (fun _ => HPB.out.cell) (fun _ => ?_)
  clear hK K
  try simp only [List.getElem_toArray, List.getElem_cons_zero, List.getElem_cons_succ, Act.put, List.setIfInBounds_toArray, List.set_cons_zero, List.set_cons_succ]
  clear hS
  have hS := HPB.out.cell
  refine wpAnyL_take (i := 4) (v := ?_) rfl (by kernel_rfl) (by kernel_rfl) (by kernel_rfl) (by kernel_rfl) (fun _ _ _ h => h) hS (Or.inl ⟨by rfl, ?_⟩) ?_
  rotate_left 1
  · intro w9 k0
    go_simp
    try with_reducible rfl
  try simp only [List.getElem_toArray, List.getElem_cons_zero, List.getElem_cons_succ, Act.put, List.setIfInBounds_toArray, List.set_cons_zero, List.set_cons_succ]
  refine wpAnyL_take (i := 5) (v := ?_) rfl (by kernel_rfl) (by kernel_rfl) (by kernel_rfl) (by kernel_rfl) (fun _ _ _ h => h) hS (Or.inl ⟨by rfl, ?_⟩) ?_
  rotate_left 1
  · intro w9 k0
    go_simp
    try with_reducible rfl
  try simp only [List.getElem_toArray, List.getElem_cons_zero, List.getElem_cons_succ, Act.put, List.setIfInBounds_toArray, List.set_cons_zero, List.set_cons_succ]
  refine wpAnyL_take (i := 6) (v := ?_) rfl (by kernel_rfl) (by kernel_rfl) (by kernel_rfl) (by kernel_rfl) (fun _ _ _ h => h) hS (Or.inl ⟨by rfl, ?_⟩) ?_
  rotate_left 1
  · intro w9 k0
    go_simp
    try with_reducible rfl
  try simp only [List.getElem_toArray, List.getElem_cons_zero, List.getElem_cons_succ, Act.put, List.setIfInBounds_toArray, List.set_cons_zero, List.set_cons_succ]
  refine wpAnyL_one (i := 7) (by kernel_rfl) rfl (fun K hK => ?_)
  go_simp
  refine hK.out _ _ (fun _ => hS) (fun _ => ?_)
  clear hK K
  try simp only [List.getElem_toArray, List.getElem_cons_zero, List.getElem_cons_succ, Act.put, List.setIfInBounds_toArray, List.set_cons_zero, List.set_cons_succ]
  refine wpAnyL_one (i := 8) (by kernel_rfl) rfl (fun K hK => ?_)
  go_simp
  refine hK.out _ _ (fun _ => hS) (fun _ => ?_)
  clear hK K
  try simp only [List.getElem_toArray, List.getElem_cons_zero, List.getElem_cons_succ, Act.put, List.setIfInBounds_toArray, List.set_cons_zero, List.set_cons_succ]
  refine wpAnyL_done (by kernel_rfl) ?_ _
  clear hS
  by_cases hz0 : z = 0
  · subst hz0
    have hwh := HW2.out (HW.out rfl)
    have HHH := Lib.hid (HHD.out rfl)
    clear HHD HR0 HW HW2 HKN HIS
    go_wp2_with fail
    go_loopw [8, 9] (fun v i (wr : World) => ∃ k : Nat, k ≤ m ∧ i = .int .i64 k ∧ Hid (wr.ownsRow w1.heap.size 3 1 v k ((lsK4 l wh k).flatMap encI)) ∧ Below w1.heap.size w1 wr) (fun _ i _ => m - (intOf i).toNat)
    case atStart => exact ⟨0, by omega, by simp, Lib.hid (World.ownsRow_nil w1 w1.heap.size _ 1), Below.refl _ _⟩
    case round =>
      obtain ⟨k, hk, rfl, HO, hb⟩ := hrel
      have zb := hb.size
      by_cases hlt : k < m
      · have hqB : decide ((k : Int) < m) = true := decide_eq_true (by omega)
        have vk : IntKind.i64.wrap ((k : Int) + 1) = (k : Int) + 1 := IntWalk.i64_in _ (by omega)
        obtain ⟨b, off, B, c, eA, hbl, d0, d1, -, -⟩ := (HT.out.later hb).get hlt
        cases eA
        have HSN := Lib.hid (lsK4_succ l wh k)
        obtain ⟨x, hx⟩ : ∃ x, (tuAt l k).1 = x := ⟨_, rfl⟩
        obtain ⟨y, hy⟩ : ∃ x, (tuAt l k).2.1 = x := ⟨_, rfl⟩
        rw [hx] at d0 HSN
        rw [hy] at d1 HSN
        clear hx hy
        rcases hwh with rfl | rfl
        · have HS1 : Hid (lsK4 l 1 (k + 1) = lsK4 l 1 k ++ [x]) := HSN
          clear HSN d1
          go_wp2_with (at_builtin; go_must (refine wpList_append_T _ (d := (0 : Int)) rfl (.tmp 28) (.tmp 34) _ rfl w1.heap.size _ 1 8 int4E encI_len encI_one u8 u8.ownBlock k (lsK4 l 1 k) rfl rfl ?ow _ 1 _ [x] rfl ?sl (by omega) ?sz ?_; (case ow => exact own_below HO.out (by (repeat first | with_reducible assumption | with_reducible exact Below.refl _ _ | (with_reducible refine Below.alloc ?_ ?side _; case side => (first | omega | (with_reducible exact Below.size (by assumption)) | (simp; done) | (simp; omega))) | (with_reducible refine Below.setCell ?_ ?side _; case side => (first | omega | (with_reducible exact Below.size (by assumption)) | (simp; done) | (simp; omega))) | with_reducible refine Below.drew ?_ | with_reducible refine below_drewN ?_ _ | (with_reducible refine below_step (by assumption) ?side ?_; case side => (first | omega | (with_reducible exact Below.size (by assumption)) | (simp; done) | (simp; omega)))))); (case sl => exact sl_new encI_len (by first | rfl | simp) rfl rfl); (case sz => go_size); (rintro v8 w8 ho8 hg8 ha8); (have hb8 : Below w1.heap.size wr w8 := Below.grown (by (repeat first | with_reducible assumption | with_reducible exact Below.refl _ _ | (with_reducible refine Below.alloc ?_ ?side _; case side => (first | omega | (with_reducible exact Below.size (by assumption)) | (simp; done) | (simp; omega))) | (with_reducible refine Below.setCell ?_ ?side _; case side => (first | omega | (with_reducible exact Below.size (by assumption)) | (simp; done) | (simp; omega))) | with_reducible refine Below.drew ?_ | with_reducible refine below_drewN ?_ _ | (with_reducible refine below_step (by assumption) ?side ?_; case side => (first | omega | (with_reducible exact Below.size (by assumption)) | (simp; done) | (simp; omega))))) hg8 (by go_size) (own_ge HO.out)); (have HO8 := Lib.hid ho8); (clear ho8 hg8 ha8)))
          go_roundw
          case rel => exact ⟨k + 1, by omega, by go_num, by rw [HS1.out]; exact HO8, hb.trans hb8⟩
          case measure => simp [intOf]; omega
        · have HS1 : Hid (lsK4 l 2 (k + 1) = lsK4 l 2 k ++ [y]) := HSN
          clear HSN d0
          go_wp2_with (at_builtin; go_must (refine wpList_append_T _ (d := (0 : Int)) rfl (.tmp 36) (.tmp 42) _ rfl w1.heap.size _ 1 8 int4E encI_len encI_one u8 u8.ownBlock k (lsK4 l 2 k) rfl rfl ?ow _ 1 _ [y] rfl ?sl (by omega) ?sz ?_; (case ow => exact own_below HO.out (by (repeat first | with_reducible assumption | with_reducible exact Below.refl _ _ | (with_reducible refine Below.alloc ?_ ?side _; case side => (first | omega | (with_reducible exact Below.size (by assumption)) | (simp; done) | (simp; omega))) | (with_reducible refine Below.setCell ?_ ?side _; case side => (first | omega | (with_reducible exact Below.size (by assumption)) | (simp; done) | (simp; omega))) | with_reducible refine Below.drew ?_ | with_reducible refine below_drewN ?_ _ | (with_reducible refine below_step (by assumption) ?side ?_; case side => (first | omega | (with_reducible exact Below.size (by assumption)) | (simp; done) | (simp; omega)))))); (case sl => exact sl_new encI_len (by first | rfl | simp) rfl rfl); (case sz => go_size); (rintro v8 w8 ho8 hg8 ha8); (have hb8 : Below w1.heap.size wr w8 := Below.grown (by (repeat first | with_reducible assumption | with_reducible exact Below.refl _ _ | (with_reducible refine Below.alloc ?_ ?side _; case side => (first | omega | (with_reducible exact Below.size (by assumption)) | (simp; done) | (simp; omega))) | (with_reducible refine Below.setCell ?_ ?side _; case side => (first | omega | (with_reducible exact Below.size (by assumption)) | (simp; done) | (simp; omega))) | with_reducible refine Below.drew ?_ | with_reducible refine below_drewN ?_ _ | (with_reducible refine below_step (by assumption) ?side ?_; case side => (first | omega | (with_reducible exact Below.size (by assumption)) | (simp; done) | (simp; omega))))) hg8 (by go_size) (own_ge HO.out)); (have HO8 := Lib.hid ho8); (clear ho8 hg8 ha8)))
          go_roundw
          case rel => exact ⟨k + 1, by omega, by go_num, by rw [HS1.out]; exact HO8, hb.trans hb8⟩
          case measure => simp [intOf]; omega
      · obtain rfl : m = k := by omega
        have hqB : decide (((m : Nat) : Int) < m) = false := decide_eq_false (by omega)
        obtain ⟨A5, c5, e5, -, hs5⟩ := SlAt.of_own (d := (0 : Int)) encI_len HO.out (lsK4_len _ _ _)
        subst e5
        have HS5 := Lib.hid (HHH.out A5 c5 wr (ints_iff.2 hs5))
        have HPW := Lib.hid (HPB.out.below hb HPB.out.lt)
        have qW := HPW.out.cell
        have lW := HPW.out.lt
        have BW := B1.trans (hb.mono B1.size)
        clear hs5 HO hwh HHH
        go_wp2_with (go_at_call 47; refine HS5.out.mono ?_; (rintro e w2 ⟨D, d, rfl, hI, hb2⟩); (have B2 := BW.trans (hb2.mono BW.size)); (have HI := Lib.hid hI); clear hb2 hI qW lW)
        exact bodyPost_ret (v := .tuple #[.slice D rn d, .int .i64 0]) (by simp [results, Try.results15, go_sem]) rfl ⟨D, d, rfl, HI.out, B2⟩
  · obtain rfl : r = [] := HR0.out hz0
    obtain rfl : 0 = rn := HRN.out
    have hzb : (z == 0) = false := by simpa using hz0
    have hzn : (z != 0) = true := by simpa using hz0
    clear HHD HR0
    go_wp2_with fail
    exact bodyPost_ret (v := .tuple #[.slice none 0 0, .int .i64 z]) (by simp [results, Try.results15, go_sem]) rfl ⟨none, 0, rfl, nil_ints _, B1⟩
end

end Go.Proofs.Ytmmgkmdfecnkdaa
