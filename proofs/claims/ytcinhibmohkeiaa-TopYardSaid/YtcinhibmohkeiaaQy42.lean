/- Own of checks (layer 5) where a machine is valid and there is a load. -/
import Derived.Test.YtcinhibmohkeiaaQy40
import Derived.Test.YtcinhibmohkeiaaQy14
import Derived.Test.YtcinhibmohkeiaaQy37
import Derived.Test.YtcinhibmohkeiaaQy41
import Derived.Shelf.Abstract
import Derived.Laws.EntriesVeiled
import Derived.Handy
import Derived.Deep.DrawnRows
import Derived.Deep.DeepCutAuto
import Derived.BigRegionIn
import Derived.Shelf.RegionOpen
import Derived.Deep.RegionHeld3
namespace Go.Proofs.Ytcinhibmohkeiaa
open Go.RowKit
open Go.Sort (grow)
set_option linter.unusedVariables false
set_option linter.unusedSimpArgs false

attribute [local go_sem] Oper.semAt_some
set_option maxRecDepth 100000 in
set_option maxHeartbeats 3200000 in
theorem Own_c (Al : Option Addr) (nl cl : Nat) (wa l0 l1 : Int) (Ab : Option Addr) (nb cb : Nat) (wrg : Int) (lv : List Lv) (bl : List Bal) (wt mi nom s0 s1 : Int) (w : World) (hn : nl ≤ 40) (hnb : nb ≤ 40) (HL : LvsAt w Al nl lv) (HB : BasAt w Ab nb bl) (hck : ckM nl nb wa l0 l1 wrg lv bl = true)
    (hno : 1 ≤ nom ∧ nom ≤ 100000) (e0 : (ldP nl nb wa l0 l1 wrg lv bl wt mi).1.lo = s0) (e1 : (ldP nl nb wa l0 l1 wrg lv bl wt mi).1.hi = s1) (e2 : (ldP nl nb wa l0 l1 wrg lv bl wt mi).2 = 0) (h0 : 0 ≤ s0 ∧ s0 ≤ 100000000000000) (h1 : 0 ≤ s1 ∧ s1 ≤ 100000000000000) :
    Calls Try.prog 9 #[.agg #[.slice Al nl cl, .int .i64 wa, .int .i64 l0, .int .i64 l1, .slice Ab nb cb, .int .i64 wrg], .int .i64 wt, .int .i64 mi, .int .i64 nom] w fun e w' => e = .returned (.tuple #[.agg #[.int .i64 ((s0 - nom) * 1000 / nom), .int .i64 (-((nom - s1) * 1000 / nom))], .int .i64 0]) ∧ Below w.heap.size w w' := by
  have HCK := Lib.hid (fun V (hV : Below w.heap.size w V) => (by have := check3_c Al nl cl wa l0 l1 Ab nb cb wrg lv bl V hn hnb (HL.later hV) (HB.later hV); rw [hck] at this; exact this : Calls Try.prog 22 #[.agg #[.slice Al nl cl, .int .i64 wa, .int .i64 l0, .int .i64 l1, .slice Ab nb cb, .int .i64 wrg]] V fun e w' => e = .returned (.int .i64 0) ∧ Below V.heap.size V w'))
  have HLD := Lib.hid (fun V (hV : Below w.heap.size w V) => (by have := Load_c Al nl cl wa l0 l1 Ab nb cb wrg lv bl wt mi V hn hnb (HL.later hV) (HB.later hV); rw [e0, e1, e2] at this; exact this : Calls Try.prog 24 #[.agg #[.slice Al nl cl, .int .i64 wa, .int .i64 l0, .int .i64 l1, .slice Ab nb cb, .int .i64 wrg], .int .i64 wt, .int .i64 mi] V fun e w' => e = .returned (.tuple #[.agg #[.int .i64 s0, .int .i64 s1], .int .i64 0]) ∧ Below V.heap.size V w'))
  have hwn : wn nom 1 999999999 = true := wn_true.2 (by omega)
  have HWI := Lib.hid (fun V => (by have := within5_c nom 1 999999999 V; rw [hwn] at this; exact this : Calls Try.prog 23 #[.int .i64 nom, .int .i64 1, .int .i64 999999999] V fun e w' => e = .returned (.bool true) ∧ V = w'))
  clear HL HB hck e0 e1 e2 hwn
  have HFA0 := fun n (hn : -1000000000000000000 ≤ n ∧ n ≤ 1000000000000000000) V (hV : V.cell? ⟨w.heap.size + 1, 0, none⟩ = some (.int .i64 nom)) => floor_c n nom (w.heap.size + 1) V hn (by omega) hV
  have HFA := HFA0 ((s0 - nom) * 1000) (by omega)
  have HFB := HFA0 ((nom - s1) * 1000) (by omega)
  have qb0 : -1000000000000000000 ≤ (nom - s1) * 1000 / nom ∧ (nom - s1) * 1000 / nom ≤ 1000000000000000000 := by
    refine ⟨Int.le_ediv_of_mul_le (by omega) ?_, Int.le_of_lt_add_one (Int.ediv_lt_of_lt_mul (by omega) ?_)⟩ <;> omega
  obtain ⟨qa, hqa⟩ : ∃ x, (s0 - nom) * 1000 / nom = x := ⟨_, rfl⟩
  obtain ⟨qb, hqb⟩ : ∃ x, (nom - s1) * 1000 / nom = x := ⟨_, rfl⟩
  rw [hqa] at HFA ⊢
  rw [hqb] at HFB qb0 ⊢
  replace HFA := Lib.hid HFA
  replace HFB := Lib.hid HFB
  have vq : IntKind.i64.wrap (-qb) = -qb := IntWalk.i64_in _ (by omega)
  clear HFA0 hqa hqb
  go_enter Try.func9, Try.ntmps9
  go_upto_region 1 with (fail)
  go_name_world X hX
  have B0 : Hid (Below w.heap.size w X) := Lib.hid (al3 hX).1
  have HP0 : Hid (Blk X w.heap.size 27 #[Value.slice Al nl cl, .int .i64 wa, .int .i64 l0, .int .i64 l1, .slice Ab nb cb, .int .i64 wrg]) := by rw [← hX]; exact Lib.hid (((Blk.new w _ _).alloc _).alloc _)
  have HQ0 : Hid (Blk X (w.heap.size + 1) 3 #[.int .i64 nom]) := by
    rw [← hX]
    have := (Blk.new (w.alloc (.cells #[Value.slice Al nl cl, .int .i64 wa, .int .i64 l0, .int .i64 l1, .slice Ab nb cb, .int .i64 wrg] 27)) 3 #[.int .i64 nom]).alloc (.cells #[.int .i64 0, .int .i64 0] 24)
    rw [World.size_alloc] at this
    exact Lib.hid this
  have HR0 : Hid (Blk X (w.heap.size + 1 + 1) 24 #[.int .i64 0, .int .i64 0]) := by
    rw [← hX]
    have := Blk.new ((w.alloc (.cells #[Value.slice Al nl cl, .int .i64 wa, .int .i64 l0, .int .i64 l1, .slice Ab nb cb, .int .i64 wrg] 27)).alloc (.cells #[.int .i64 nom] 3)) 24 #[.int .i64 0, .int .i64 0]
    rw [World.size_alloc, World.size_alloc] at this
    exact Lib.hid this
  have cP0 := HP0.out.cell
  have mP0 := HP0.out.lt
  have cQ0 := HQ0.out.cell
  have mQ0 := HQ0.out.lt
  have cR0 := HR0.out.cell
  have mR0 := HR0.out.lt
  clear hX
  go_upto_region 10 with (first | (go_at_call 22; refine (HCK.out X B0.out).mono ?_; (rintro e v1 ⟨rfl, hb⟩); (have HP1 := Lib.hid (HP0.out.below hb HP0.out.lt)); (have cP1 := HP1.out.cell); (have mP1 := HP1.out.lt); (have HQ1 := Lib.hid (HQ0.out.below hb HQ0.out.lt)); (have cQ1 := HQ1.out.cell); (have mQ1 := HQ1.out.lt); (have HR1 := Lib.hid (HR0.out.below hb HR0.out.lt)); (have cR1 := HR1.out.cell); (have mR1 := HR1.out.lt); (have B1 := Lib.hid (B0.out.trans (hb.mono B0.out.size))); clear hb cP0 mP0 cQ0 mQ0 cR0 mR0) | (go_at_call 23; refine (HWI.out _).mono ?_; (rintro e v9 ⟨rfl, rfl⟩)) | (go_at_call 24; refine (HLD.out v1 B1.out).mono ?_; (rintro e v2 ⟨rfl, hb⟩); (have HP2 := Lib.hid (HP1.out.below hb HP1.out.lt)); (have cP2 := HP2.out.cell); (have mP2 := HP2.out.lt); (have HQ2 := Lib.hid (HQ1.out.below hb HQ1.out.lt)); (have cQ2 := HQ2.out.cell); (have mQ2 := HQ2.out.lt); (have HR2 := Lib.hid (HR1.out.below hb HR1.out.lt)); (have cR2 := HR2.out.cell); (have mR2 := HR2.out.lt); (have B2 := Lib.hid (B1.out.trans (hb.mono B1.out.size))); clear hb cP1 mP1 cQ1 mQ1 cR1 mR1))
  go_name_world Z hZ
  have BZ := (al1 hZ).1
  have HS3 : Hid (Blk Z v2.heap.size 24 #[.int .i64 s0, .int .i64 s1]) := by rw [← hZ]; exact Lib.hid (Blk.new v2 _ _)
  have HQ3 := Lib.hid (HQ2.out.below BZ HQ2.out.lt)
  have HR3 := Lib.hid (HR2.out.below BZ HR2.out.lt)
  have B3 := Lib.hid (B2.out.trans (BZ.mono B2.out.size))
  obtain ⟨gs, hgs⟩ : ∃ g, v2.heap.size = g := ⟨_, rfl⟩
  have hgr : w.heap.size + 1 + 1 ≠ gs := by have := HR2.out.lt; omega
  rw [hgs] at HS3 ⊢
  have v0 : IntKind.i64.wrap (s0 - nom) = s0 - nom := IntWalk.i64_in _ (by omega)
  have v1' : IntKind.i64.wrap ((s0 - nom) * 1000) = (s0 - nom) * 1000 := IntWalk.i64_in _ (by omega)
  have v2' : IntKind.i64.wrap (nom - s1) = nom - s1 := IntWalk.i64_in _ (by omega)
  have v3 : IntKind.i64.wrap ((nom - s1) * 1000) = (nom - s1) * 1000 := IntWalk.i64_in _ (by omega)
  clear hZ BZ hgs cP2 mP2 cQ2 mQ2 cR2 mR2
  have hS : Z.drew.cell? ⟨gs, 0, none⟩ = some (.int .i64 s0) ∧ Z.drew.cell? ⟨gs, 1, none⟩ = some (.int .i64 s1) ∧ Z.drew.cell? ⟨w.heap.size + 1, 0, none⟩ = some (.int .i64 nom) := ⟨HS3.out.cell 0, HS3.out.cell 1, HQ3.out.cell 0⟩
  refine wp_region_L (by kernel_rfl) (fun W' => W'.cell? ⟨gs, 0, none⟩ = some (.int .i64 s0) ∧ W'.cell? ⟨gs, 1, none⟩ = some (.int .i64 s1) ∧ W'.cell? ⟨w.heap.size + 1, 0, none⟩ = some (.int .i64 nom)) 99 ?_
  refine wpAnyL_take (i := 0) (v := ?_) rfl (by kernel_rfl) (by kernel_rfl) (by kernel_rfl) (by kernel_rfl) (fun _ _ _ h => h) hS (Or.inl ⟨by rfl, ?_⟩) ?_
  rotate_left 1
  · intro w9 hw9
    obtain ⟨k0, k1, k2⟩ := hw9
    go_simp
    try with_reducible rfl
  try simp only [List.getElem_toArray, List.getElem_cons_zero, Act.put, List.setIfInBounds_toArray, List.set_cons_zero, List.set_cons_succ]
  refine wpAnyL_take (i := 1) (v := ?_) rfl (by kernel_rfl) (by kernel_rfl) (by kernel_rfl) (by kernel_rfl) (fun _ _ _ h => h) hS (Or.inl ⟨by rfl, ?_⟩) ?_
  rotate_left 1
  · intro w9 hw9
    obtain ⟨k0, k1, k2⟩ := hw9
    go_simp
    try with_reducible rfl
  try simp only [List.getElem_toArray, List.getElem_cons_zero, List.getElem_cons_succ, Act.put, List.setIfInBounds_toArray, List.set_cons_zero, List.set_cons_succ]
  refine wpAnyL_take (i := 2) (v := ?_) rfl (by kernel_rfl) (by kernel_rfl) (by kernel_rfl) (by kernel_rfl) (fun _ _ _ h => h) hS (Or.inl ⟨by rfl, ?_⟩) ?_
  rotate_left 1
  · intro w9 hw9
    obtain ⟨k0, k1, k2⟩ := hw9
    go_simp
    try with_reducible rfl
  try simp only [List.getElem_toArray, List.getElem_cons_zero, List.getElem_cons_succ, Act.put, List.setIfInBounds_toArray, List.set_cons_zero, List.set_cons_succ]
  refine wpAnyL_take (i := 3) (v := ?_) rfl (by kernel_rfl) (by kernel_rfl) (by kernel_rfl) (by kernel_rfl) (fun _ _ _ h => h) hS (Or.inl ⟨by rfl, ?_⟩) ?_
  rotate_left 1
  · intro w9 hw9
    obtain ⟨k0, k1, k2⟩ := hw9
    go_simp
    try with_reducible rfl
  try simp only [List.getElem_toArray, List.getElem_cons_zero, List.getElem_cons_succ, Act.put, List.setIfInBounds_toArray, List.set_cons_zero, List.set_cons_succ]
  refine wpAnyL_take (i := 4) (v := ?_) rfl (by kernel_rfl) (by kernel_rfl) (by kernel_rfl) (by kernel_rfl) (fun _ _ _ h => h) hS (Or.inl ⟨by rfl, ?_⟩) ?_
  rotate_left 1
  · intro w9 hw9
    obtain ⟨k0, k1, k2⟩ := hw9
    go_simp
    try with_reducible rfl
  try simp only [List.getElem_toArray, List.getElem_cons_zero, List.getElem_cons_succ, Act.put, List.setIfInBounds_toArray, List.set_cons_zero, List.set_cons_succ]
  refine wpAnyL_take (i := 5) (v := ?_) rfl (by kernel_rfl) (by kernel_rfl) (by kernel_rfl) (by kernel_rfl) (fun _ _ _ h => h) hS (Or.inl ⟨by rfl, ?_⟩) ?_
  rotate_left 1
  · intro w9 hw9
    obtain ⟨k0, k1, k2⟩ := hw9
    go_simp
    try with_reducible rfl
  try simp only [List.getElem_toArray, List.getElem_cons_zero, List.getElem_cons_succ, Act.put, List.setIfInBounds_toArray, List.set_cons_zero, List.set_cons_succ]
  refine wpAnyL_take (i := 7) (v := ?_) rfl (by kernel_rfl) (by kernel_rfl) (by kernel_rfl) (by kernel_rfl) (fun _ _ _ h => h) hS (Or.inl ⟨by rfl, ?_⟩) ?_
  rotate_left 1
  · intro w9 hw9
    obtain ⟨k0, k1, k2⟩ := hw9
    go_simp
    try with_reducible rfl
  try simp only [List.getElem_toArray, List.getElem_cons_zero, List.getElem_cons_succ, Act.put, List.setIfInBounds_toArray, List.set_cons_zero, List.set_cons_succ]
  refine wpAnyL_take (i := 8) (v := ?_) rfl (by kernel_rfl) (by kernel_rfl) (by kernel_rfl) (by kernel_rfl) (fun _ _ _ h => h) hS (Or.inl ⟨by rfl, ?_⟩) ?_
  rotate_left 1
  · intro w9 hw9
    obtain ⟨k0, k1, k2⟩ := hw9
    go_simp
    try with_reducible rfl
  try simp only [List.getElem_toArray, List.getElem_cons_zero, List.getElem_cons_succ, Act.put, List.setIfInBounds_toArray, List.set_cons_zero, List.set_cons_succ]
  refine wpAnyL_take (i := 9) (v := ?_) rfl (by kernel_rfl) (by kernel_rfl) (by kernel_rfl) (by kernel_rfl) (fun _ _ _ h => h) hS (Or.inl ⟨by rfl, ?_⟩) ?_
  rotate_left 1
  · intro w9 hw9
    obtain ⟨k0, k1, k2⟩ := hw9
    go_simp
    try with_reducible rfl
  try simp only [List.getElem_toArray, List.getElem_cons_zero, List.getElem_cons_succ, Act.put, List.setIfInBounds_toArray, List.set_cons_zero, List.set_cons_succ]
  refine wpAnyL_take (i := 10) (v := ?_) rfl (by kernel_rfl) (by kernel_rfl) (by kernel_rfl) (by kernel_rfl) (fun _ _ _ h => h) hS (Or.inl ⟨by rfl, ?_⟩) ?_
  rotate_left 1
  · intro w9 hw9
    obtain ⟨k0, k1, k2⟩ := hw9
    go_simp
    try with_reducible rfl
  try simp only [List.getElem_toArray, List.getElem_cons_zero, List.getElem_cons_succ, Act.put, List.setIfInBounds_toArray, List.set_cons_zero, List.set_cons_succ]
  refine wpAnyL_take (i := 11) (v := ?_) rfl (by kernel_rfl) (by kernel_rfl) (by kernel_rfl) (by kernel_rfl) (fun _ _ _ h => h) hS (Or.inl ⟨by rfl, ?_⟩) ?_
  rotate_left 1
  · intro w9 hw9
    obtain ⟨k0, k1, k2⟩ := hw9
    go_simp
    try with_reducible rfl
  try simp only [List.getElem_toArray, List.getElem_cons_zero, List.getElem_cons_succ, Act.put, List.setIfInBounds_toArray, List.set_cons_zero, List.set_cons_succ]
  refine wpAnyL_take (i := 12) (v := ?_) rfl (by kernel_rfl) (by kernel_rfl) (by kernel_rfl) (by kernel_rfl) (fun _ _ _ h => h) hS (Or.inl ⟨by rfl, ?_⟩) ?_
  rotate_left 1
  · intro w9 hw9
    obtain ⟨k0, k1, k2⟩ := hw9
    go_simp
    try with_reducible rfl
  try simp only [List.getElem_toArray, List.getElem_cons_zero, List.getElem_cons_succ, Act.put, List.setIfInBounds_toArray, List.set_cons_zero, List.set_cons_succ]
  refine wpAnyL_one (i := 6) (by kernel_rfl) rfl (fun K hK => ?_)
  go_simp
  go_at_call 25
  refine (HFA.out _ hS.2.2).mono ?_
  rintro e v4 ⟨rfl, rfl⟩
  refine hK.out _ _ (fun _ => hS) (fun _ => ?_)
  clear hK K
  try simp only [List.getElem_toArray, List.getElem_cons_zero, List.getElem_cons_succ, Act.put, List.setIfInBounds_toArray, List.set_cons_zero, List.set_cons_succ]
  refine wpAnyL_one (i := 13) (by kernel_rfl) rfl (fun K hK => ?_)
  go_simp
  go_at_call 25
  refine (HFB.out _ hS.2.2).mono ?_
  rintro e v5 ⟨rfl, rfl⟩
  refine hK.out _ _ (fun _ => hS) (fun _ => ?_)
  clear hK K
  try simp only [List.getElem_toArray, List.getElem_cons_zero, List.getElem_cons_succ, Act.put, List.setIfInBounds_toArray, List.set_cons_zero, List.set_cons_succ]
  refine wpAnyL_take (i := 14) (v := ?_) rfl (by kernel_rfl) (by kernel_rfl) (by kernel_rfl) (by kernel_rfl) (fun _ _ _ h => h) hS (Or.inl ⟨by rfl, ?_⟩) ?_
  rotate_left 1
  · intro w9 hw9
    obtain ⟨k0, k1, k2⟩ := hw9
    go_simp
    try with_reducible rfl
  try simp only [List.getElem_toArray, List.getElem_cons_zero, List.getElem_cons_succ, Act.put, List.setIfInBounds_toArray, List.set_cons_zero, List.set_cons_succ]
  refine wpAnyL_take (i := 15) (v := ?_) rfl (by kernel_rfl) (by kernel_rfl) (by kernel_rfl) (by kernel_rfl) (fun _ _ _ h => h) hS (Or.inl ⟨by rfl, ?_⟩) ?_
  rotate_left 1
  · intro w9 hw9
    obtain ⟨k0, k1, k2⟩ := hw9
    go_simp
    try with_reducible rfl
  try simp only [List.getElem_toArray, List.getElem_cons_zero, List.getElem_cons_succ, Act.put, List.setIfInBounds_toArray, List.set_cons_zero, List.set_cons_succ]
  have kr := HR3.out.cell
  have fr := HR3.out.frozen
  refine wpAnyL_one (i := 16) (by kernel_rfl) rfl (fun K hK => ?_)
  go_simp
  refine hK.out _ _ (fun _ => ⟨((World.cell?_setCell_other _ _ _ _ (by intro e; first | (cases e; done) | (cases e; exact absurd rfl hgr))).trans ((World.cell?_setCell_other _ _ _ _ (by intro e; first | (cases e; done) | (cases e; exact absurd rfl hgr))).trans hS.1)), ((World.cell?_setCell_other _ _ _ _ (by intro e; first | (cases e; done) | (cases e; exact absurd rfl hgr))).trans ((World.cell?_setCell_other _ _ _ _ (by intro e; first | (cases e; done) | (cases e; exact absurd rfl hgr))).trans hS.2.1)), ((World.cell?_setCell_other _ _ _ _ (by simp)).trans ((World.cell?_setCell_other _ _ _ _ (by simp)).trans hS.2.2))⟩) (fun hS' => ?_)
  clear hK K
  try simp only [List.getElem_toArray, List.getElem_cons_zero, List.getElem_cons_succ, Act.put, List.setIfInBounds_toArray, List.set_cons_zero, List.set_cons_succ]
  refine wpAnyL_one (i := 17) (by kernel_rfl) rfl (fun K hK => ?_)
  go_simp
  refine hK.out _ _ (fun _ => hS' (by decide)) (fun _ => ?_)
  clear hK K
  refine wpAnyL_done (by kernel_rfl) ?_ _
  have hd0 : ((Z.setCell ⟨w.heap.size + 1 + 1, 0, none⟩ (.int .i64 qa)).setCell ⟨w.heap.size + 1 + 1, 1, none⟩ (.int .i64 (-qb))).drew.cell? ⟨w.heap.size + 1 + 1, 0, none⟩ = some (.int .i64 qa) := (World.cell?_setCell_other _ _ _ _ (by simp)).trans (World.cell?_setCell_same' _ _ _ (by rw [kr 0]; rfl))
  have hd1 : ((Z.setCell ⟨w.heap.size + 1 + 1, 0, none⟩ (.int .i64 qa)).setCell ⟨w.heap.size + 1 + 1, 1, none⟩ (.int .i64 (-qb))).drew.cell? ⟨w.heap.size + 1 + 1, 1, none⟩ = some (.int .i64 (-qb)) := World.cell?_setCell_same' _ _ _ (by rw [World.cell?_setCell_other _ _ _ _ (by simp), kr 1]; rfl)
  have hbe : Below w.heap.size w ((Z.setCell ⟨w.heap.size + 1 + 1, 0, none⟩ (.int .i64 qa)).setCell ⟨w.heap.size + 1 + 1, 1, none⟩ (.int .i64 (-qb))).drew := Below.drew (Below.setCell (p := ⟨w.heap.size + 1 + 1, 1, none⟩) (Below.setCell (p := ⟨w.heap.size + 1 + 1, 0, none⟩) B3.out (by show w.heap.size ≤ w.heap.size + 1 + 1; omega) _) (by show w.heap.size ≤ w.heap.size + 1 + 1; omega) _)
  obtain ⟨V, hV⟩ : ∃ V, ((Z.setCell ⟨w.heap.size + 1 + 1, 0, none⟩ (.int .i64 qa)).setCell ⟨w.heap.size + 1 + 1, 1, none⟩ (.int .i64 (-qb))).drew = V := ⟨_, rfl⟩
  rw [hV] at hd0 hd1 hbe ⊢
  clear hV hS hS' kr fr
  go_wp2_with fail
  exact bodyPost_ret (v := .tuple #[.agg #[.int .i64 qa, .int .i64 (-qb)], .int .i64 0]) (by simp [results, Try.results9, go_sem, hd0, hd1]) rfl ⟨rfl, hbe⟩

end Go.Proofs.Ytcinhibmohkeiaa
