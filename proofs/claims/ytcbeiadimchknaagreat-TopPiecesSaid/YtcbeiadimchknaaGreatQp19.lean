/- alone of the statements (layer 8): an order of one ship; The plain law of TopMeasured: an order of one ship and one length; The plain law of TopPieces: an order of one ship whose every length is needed. -/
import Derived.Test.YtcbeiadimchknaaGreatQp18
import Derived.Shelf.Abstract
import Derived.Laws.EntriesVeiled
import Derived.Handy
import Derived.Deep.DrawnRows
import Derived.Deep.DeepCutAuto
import Derived.BigRegionIn
import Derived.Shelf.RegionOpen
namespace Go.Proofs.YtcbeiadimchknaaGreat
open Go.RowKit
open Go.Sort (grow)
set_option linter.unusedVariables false
set_option linter.unusedSimpArgs false

/-- lengths in stock, all of the size 1 -/
def skS (l : List Sp) : List Sk8 := l.map fun s => ⟨1, s.lo, s.hi⟩
theorem skS_take {l : List Sp} {k : Nat} (h : k < l.length) : skS (l.take (k + 1)) = skS (l.take k) ++ [⟨1, (spAt l k).lo, (spAt l k).hi⟩] := by
  unfold skS spAt
  rw [List.take_add_one, List.map_append, List.getD_eq_getElem?_getD, List.getElem?_eq_getElem h]
  rfl
/-- the memory of alone behind k lengths; g: the order -/
structure AlM (w : World) (g : Nat) (long shk : Int) (l : List Sp) (v : Value) (k : Nat) (W : World) : Prop where
  below : Below w.heap.size w W
  hr : RtsAt W (some ⟨w.heap.size + 1, 0, none⟩) 1 [⟨0, 1, long⟩]
  hp : SpsAt W (some ⟨w.heap.size + 1 + 1, 0, none⟩) 1 [⟨5, 5⟩]
  ho : Blk W g 40 #[.slice (some ⟨w.heap.size + 1, 0, none⟩) 1 1, .slice (some ⟨w.heap.size + 1 + 1, 0, none⟩) 1 1, v, .int .i64 shk]
  hz : Blk W w.heap.size 40 #[.slice none 0 0, .slice none 0 0, .slice none 0 0, .int .i64 0]
  own : W.ownsRow (g + 1) 77 3 v k ((skS (l.take k)).flatMap encK8)
theorem sl_block8 {α : Type} {enc : α → List Value} {size : Nat} {d : α} {w w' : World} {A : Option Addr} {n : Nat} {es : List α} (h : SlAt enc size d w A n es) (hz : w.heap.size ≤ w'.heap.size) (he : ∀ a, A = some a → w'.heap[a.block]? = w.heap[a.block]?) : SlAt enc size d w' A n es := by
  refine ⟨h.1, fun hn => ?_⟩
  obtain ⟨b, off, rfl, hb, hc⟩ := h.2 hn
  exact ⟨b, off, rfl, Nat.lt_of_lt_of_le hb hz, fun k hk j u hu => (World.cell?_of_block (a := ⟨b, off + k * size + j, none⟩) (he ⟨b, off, none⟩ rfl)).trans (hc k hk j u hu)⟩
theorem sl_lt8 {α : Type} {enc : α → List Value} {size : Nat} {d : α} {w : World} {A : Option Addr} {n : Nat} {es : List α} (h : SlAt enc size d w A n es) (hn : 0 < n) (a : Addr) (e : A = some a) : a.block < w.heap.size := by
  obtain ⟨b, off, rfl, hb, -⟩ := h.2 hn
  cases e
  exact hb
set_option maxRecDepth 100000 in
set_option maxHeartbeats 3200000 in
theorem alone_c (A : Option Addr) (n c : Nat) (l : List Sp) (long shk : Int) (w : World) (hn : n ≤ 7) (HA : SpsAt w A n l) :
    Calls Tryz.prog 11 #[.int .i64 long, .int .i64 shk, .slice A n c] w fun e w' => ∃ A B C c', e = .returned (.agg #[.slice A 1 1, .slice B 1 1, .slice C n c', .int .i64 shk]) ∧ RtsAt w' A 1 [⟨0, 1, long⟩] ∧ SpsAt w' B 1 [⟨5, 5⟩] ∧ SksAt w' C n (skS l) ∧ (∀ a, A = some a → w.heap.size ≤ a.block) ∧ (∀ a, B = some a → w.heap.size ≤ a.block) ∧ (∀ a, C = some a → w.heap.size ≤ a.block) ∧ Below w.heap.size w w' := by
  have HAI := Lib.hid HA
  have hl := HA.1
  have HL := Lib.hid hl
  clear HA hl
  go_enter Tryz.func11, Tryz.ntmps11
  go_upto_region 2 with (fail)
  obtain ⟨g, hg⟩ : ∃ x, w.heap.size + 1 + 1 + 1 = x := ⟨_, rfl⟩
  have hgw : w.heap.size + 3 = g := by omega
  rw [hg]
  go_name_world X hX
  have HM0 : Hid (AlM w g long shk l (.slice none 0 0) 0 X) := Lib.hid (by
    rw [← hX]
    refine ⟨by (repeat first | with_reducible assumption | with_reducible exact Below.refl _ _ | (with_reducible refine Below.alloc ?_ ?side _; case side => (first | omega | (with_reducible exact Below.size (by assumption)) | (simp; done) | (simp; omega))) | (with_reducible refine Below.setCell ?_ ?side _; case side => (first | omega | (with_reducible exact Below.size (by assumption)) | (simp; done) | (simp; omega))) | with_reducible refine Below.drew ?_ | with_reducible refine below_drewN ?_ _ | (with_reducible refine below_step (by assumption) ?side ?_; case side => (first | omega | (with_reducible exact Below.size (by assumption)) | (simp; done) | (simp; omega)))), ?_, ?_, ?_, ?_, World.ownsRow_nil _ _ _ _⟩
    · exact (RtsAt.later (show SlAt _ _ _ _ _ _ _ from sl_new encR8_len (by simp) rfl rfl) (Below.alloc (Below.refl _ _) (Nat.le_refl _) _)).later (Below.alloc (Below.refl _ _) (Nat.le_refl _) _)
    · exact SpsAt.later (sps_iff.2 (sl_new encS_len (by simp) rfl rfl)) (Below.alloc (Below.refl _ _) (Nat.le_refl _) _)
    · exact blk_new8 (by simp [← hgw]) _ _
    · exact (((Blk.new w _ _).alloc _).alloc _).alloc _)
  have HGW := Lib.hid hgw
  clear hX hg hgw
  go_wp2_with fail
  go_loopw [8] (fun i (wv : World) => ∃ k : Nat, k ≤ n ∧ i = .int .i64 k ∧ Hid (∃ v, AlM w g long shk l v k wv)) (fun i _ => n - (intOf i).toNat)
  case atStart => exact ⟨0, by omega, by simp, Lib.hid ⟨_, HM0.out⟩⟩
  case round =>
    obtain ⟨k, hk, rfl, HI⟩ := hrel
    obtain ⟨v, hM⟩ := HI.out
    have hkl : (skS (l.take k)).length = k := by unfold skS; rw [List.length_map, List.length_take, HL.out]; omega
    obtain ⟨A3, c3, rfl, -, hsl⟩ := SlAt.of_own (d := (⟨0, 0, 0⟩ : Sk8)) encK8_len hM.own hkl
    have HM := Lib.hid hM
    by_cases hlt : k < n
    · have hqB : decide ((k : Int) < n) = true := decide_eq_true (by omega)
      have vk : IntKind.i64.wrap ((k : Int) + 1) = (k : Int) + 1 := IntWalk.i64_in _ (by omega)
      obtain ⟨b0, o0, hA, hb0, x0, x1⟩ := HAI.out.get hlt
      have HTK := Lib.hid (skS_take (l := l) (k := k) (by rw [HL.out]; exact hlt))
      obtain ⟨⟨t0, t1⟩, hsp⟩ : ∃ x, spAt l k = x := ⟨_, rfl⟩
      rw [hsp] at x0 x1 HTK
      simp only at x0 x1 HTK
      have HSS : Hid (∀ W', Below w.heap.size w W' → Blk W' g 40 #[Value.slice (some ⟨w.heap.size + 1, 0, none⟩) 1 1, .slice (some ⟨w.heap.size + 1 + 1, 0, none⟩) 1 1, .slice A3 k c3, .int .i64 shk] → (∀ j, W'.cell? ⟨g, j, none⟩ = #[Value.slice (some ⟨w.heap.size + 1, 0, none⟩) 1 1, .slice (some ⟨w.heap.size + 1 + 1, 0, none⟩) 1 1, .slice A3 k c3, .int .i64 shk][j]?) ∧ W'.cell? ⟨b0, o0 + k * 2, none⟩ = some (.int .i64 t0) ∧ W'.cell? ⟨b0, o0 + k * 2 + 1, none⟩ = some (.int .i64 t1)) := Lib.hid (fun W' h h2 => ⟨h2.cell, (h.cell (p := ⟨b0, o0 + k * 2, none⟩) hb0).trans x0, (h.cell (p := ⟨b0, o0 + k * 2 + 1, none⟩) hb0).trans x1⟩)
      have HKL := Lib.hid hkl
      subst hA
      clear hsp x0 x1 hsl hM HI hkl
      go_upto_region 5 with (fail)
      refine wp_region_L (by kernel_rfl) (fun W' => (∀ j, W'.cell? ⟨g, j, none⟩ = #[Value.slice (some ⟨w.heap.size + 1, 0, none⟩) 1 1, .slice (some ⟨w.heap.size + 1 + 1, 0, none⟩) 1 1, .slice A3 k c3, .int .i64 shk][j]?) ∧ W'.cell? ⟨b0, o0 + k * 2, none⟩ = some (.int .i64 t0) ∧ W'.cell? ⟨b0, o0 + k * 2 + 1, none⟩ = some (.int .i64 t1)) 10 ?_
      obtain ⟨Y, hY⟩ : ∃ Y, wr.drew = Y := ⟨_, rfl⟩
      have BY : Below wr.heap.size wr Y := by rw [← hY]; (repeat first | with_reducible assumption | with_reducible exact Below.refl _ _ | (with_reducible refine Below.alloc ?_ ?side _; case side => (first | omega | (with_reducible exact Below.size (by assumption)) | (simp; done) | (simp; omega))) | (with_reducible refine Below.setCell ?_ ?side _; case side => (first | omega | (with_reducible exact Below.size (by assumption)) | (simp; done) | (simp; omega))) | with_reducible refine Below.drew ?_ | with_reducible refine below_drewN ?_ _ | (with_reducible refine below_step (by assumption) ?side ?_; case side => (first | omega | (with_reducible exact Below.size (by assumption)) | (simp; done) | (simp; omega))))
      rw [hY]
      clear hY
      have zw := HM.out.below.size
      have hS := HSS.out Y (HM.out.below.trans (BY.mono zw)) (HM.out.ho.below BY HM.out.ho.lt)
      refine wpAnyL_take (i := 0) (v := ?_) rfl (by kernel_rfl) (by kernel_rfl) (by kernel_rfl) (by kernel_rfl) (fun _ _ _ h => h) hS (Or.inl ⟨by rfl, ?_⟩) ?_
      rotate_left 1
      · intro w9 hw9
        obtain ⟨s0, s1, s2⟩ := hw9
        go_simp
        try with_reducible rfl
      try simp only [List.getElem_toArray, List.getElem_cons_zero, List.getElem_cons_succ, Act.put, List.setIfInBounds_toArray, List.set_cons_zero, List.set_cons_succ]
      refine wpAnyL_take (i := 1) (v := ?_) rfl (by kernel_rfl) (by kernel_rfl) (by kernel_rfl) (by kernel_rfl) (fun _ _ _ h => h) hS (Or.inl ⟨by rfl, ?_⟩) ?_
      rotate_left 1
      · intro w9 hw9
        obtain ⟨s0, s1, s2⟩ := hw9
        go_simp
        try with_reducible rfl
      try simp only [List.getElem_toArray, List.getElem_cons_zero, List.getElem_cons_succ, Act.put, List.setIfInBounds_toArray, List.set_cons_zero, List.set_cons_succ]
      refine wpAnyL_take (i := 2) (v := ?_) rfl (by kernel_rfl) (by kernel_rfl) (by kernel_rfl) (by kernel_rfl) (fun _ _ _ h => h) hS (Or.inl ⟨by rfl, ?_⟩) ?_
      rotate_left 1
      · intro w9 hw9
        obtain ⟨s0, s1, s2⟩ := hw9
        go_simp
        try with_reducible rfl
      try simp only [List.getElem_toArray, List.getElem_cons_zero, List.getElem_cons_succ, Act.put, List.setIfInBounds_toArray, List.set_cons_zero, List.set_cons_succ]
      refine wpAnyL_take (i := 3) (v := ?_) rfl (by kernel_rfl) (by kernel_rfl) (by kernel_rfl) (by kernel_rfl) (fun _ _ _ h => h) hS (Or.inl ⟨by rfl, ?_⟩) ?_
      rotate_left 1
      · intro w9 hw9
        obtain ⟨s0, s1, s2⟩ := hw9
        go_simp
        try with_reducible rfl
      try simp only [List.getElem_toArray, List.getElem_cons_zero, List.getElem_cons_succ, Act.put, List.setIfInBounds_toArray, List.set_cons_zero, List.set_cons_succ]
      refine wpAnyL_take (i := 4) (v := ?_) rfl (by kernel_rfl) (by kernel_rfl) (by kernel_rfl) (by kernel_rfl) (fun _ _ _ h => h) hS (Or.inl ⟨by rfl, ?_⟩) ?_
      rotate_left 1
      · intro w9 hw9
        obtain ⟨s0, s1, s2⟩ := hw9
        go_simp
        try with_reducible rfl
      try simp only [List.getElem_toArray, List.getElem_cons_zero, List.getElem_cons_succ, Act.put, List.setIfInBounds_toArray, List.set_cons_zero, List.set_cons_succ]
      refine wpAnyL_take (i := 5) (v := ?_) rfl (by kernel_rfl) (by kernel_rfl) (by kernel_rfl) (by kernel_rfl) (fun _ _ _ h => h) hS (Or.inl ⟨by rfl, ?_⟩) ?_
      rotate_left 1
      · intro w9 hw9
        obtain ⟨s0, s1, s2⟩ := hw9
        go_simp
        try with_reducible rfl
      try simp only [List.getElem_toArray, List.getElem_cons_zero, List.getElem_cons_succ, Act.put, List.setIfInBounds_toArray, List.set_cons_zero, List.set_cons_succ]
      refine wpAnyL_take (i := 6) (v := ?_) rfl (by kernel_rfl) (by kernel_rfl) (by kernel_rfl) (by kernel_rfl) (fun _ _ _ h => h) hS (Or.inl ⟨by rfl, ?_⟩) ?_
      rotate_left 1
      · intro w9 hw9
        obtain ⟨s0, s1, s2⟩ := hw9
        go_simp
        try with_reducible rfl
      try simp only [List.getElem_toArray, List.getElem_cons_zero, List.getElem_cons_succ, Act.put, List.setIfInBounds_toArray, List.set_cons_zero, List.set_cons_succ]
      clear hS
      have HOY := Lib.hid (HM.out.ho.below BY HM.out.ho.lt)
      have lgr := HM.out.ho.lt
      have hobv : ∀ b, (Value.slice A3 k c3).ownBlock = some b → g + 1 ≤ b := fun b hb => (HM.out.own.lt b hb).1
      have HOB := Lib.hid hobv
      clear hobv
      refine wpAnyL_one (i := 7) (by kernel_rfl) rfl (fun K hK => ?_)
      go_simp
      obtain ⟨w7, hw7⟩ : ∃ x, Y.alloc (.cells #[.int .i64 1, .int .i64 t0, .int .i64 t1] 77) = x := ⟨_, rfl⟩
      have HS7 : Hid (SksAt w7 (some ⟨Y.heap.size, 0, none⟩) 1 [⟨1, t0, t1⟩]) := by rw [← hw7]; exact Lib.hid (show SksAt _ _ _ _ from sl_new encK8_len rfl rfl rfl)
      have B7 : Below wr.heap.size wr w7 := by rw [← hw7]; exact BY.alloc BY.size _
      rw [hw7]
      clear hw7
      refine hK.out _ _ (fun _ => HSS.out _ (HM.out.below.trans (B7.mono zw)) (HM.out.ho.below B7 HM.out.ho.lt)) (fun _ => ?_)
      clear hK K
      try simp only [List.getElem_toArray, List.getElem_cons_zero, List.getElem_cons_succ, Act.put, List.setIfInBounds_toArray, List.set_cons_zero, List.set_cons_succ]
      have z7 := B7.size
      refine wpAnyL_one (i := 8) (by kernel_rfl) rfl (fun K hK => ?_)
      refine step_append_T _ (d := (⟨0, 0, 0⟩ : Sk8)) rfl (.tmp 23) (.tmp 29) _ rfl (g + 1) _ 3 24 skE8 encK8_len encK8_one (.slice A3 k c3) (Value.slice A3 k c3).ownBlock k (skS (l.take k)) rfl rfl (own_below HM.out.own B7) _ 1 _ [⟨1, t0, t1⟩] rfl HS7.out (by omega) (by omega) (fun v9 w9 ho9 hg9 ha9 => ?_)
      rw [← HTK.out] at ho9
      have hk1 : (skS (l.take (k + 1))).length = k + 1 := by rw [HTK.out, List.length_append, HKL.out]; rfl
      obtain ⟨A9, c9, rfl, -, -⟩ := SlAt.of_own (d := (⟨0, 0, 0⟩ : Sk8)) encK8_len ho9 hk1
      have HO9 := Lib.hid ho9
      have hog : Blk w9 g 40 #[Value.slice (some ⟨w.heap.size + 1, 0, none⟩) 1 1, .slice (some ⟨w.heap.size + 1 + 1, 0, none⟩) 1 1, .slice A3 k c3, .int .i64 shk] := (HM.out.ho.below B7 HM.out.ho.lt).grown hg9 (fun e => by have := HOB.out _ e.symm; omega)
      have B9 : Below w.heap.size w w9 := Below.grown (HM.out.below.trans (B7.mono zw)) hg9 (by omega) (fun b hb => by have := HOB.out b hb; have := HGW.out; omega)
      have E9 : Hid (∀ b, b < g → w9.heap[b]? = wr.heap[b]?) := Lib.hid (fun b hb => (hg9.block b (by omega) (fun e => by have := HOB.out b e.symm; omega)).trans (B7.block b (by omega)))
      have z9 := hg9.size
      clear ho9 hg9 ha9 hk1
      refine hK.out _ _ (fun _ => HSS.out _ B9 hog) (fun _ => ?_)
      clear hK K
      try simp only [List.getElem_toArray, List.getElem_cons_zero, List.getElem_cons_succ, Act.put, List.setIfInBounds_toArray, List.set_cons_zero, List.set_cons_succ]
      have hS := HSS.out _ B9 hog
      refine wpAnyL_take (i := 9) (v := ?_) rfl (by kernel_rfl) (by kernel_rfl) (by kernel_rfl) (by kernel_rfl) (fun _ _ _ h => h) hS (Or.inl ⟨by rfl, ?_⟩) ?_
      rotate_left 1
      · intro w9 hw9
        obtain ⟨s0, s1, s2⟩ := hw9
        go_simp
        try with_reducible rfl
      try simp only [List.getElem_toArray, List.getElem_cons_zero, List.getElem_cons_succ, Act.put, List.setIfInBounds_toArray, List.set_cons_zero, List.set_cons_succ]
      clear hS
      have cg := hog.cell
      have fg := hog.frozen
      have lg := hog.lt
      have HOG := Lib.hid hog
      clear hog
      refine wpAnyL_one (i := 10) (by kernel_rfl) rfl (fun K hK => ?_)
      go_simp
      refine hK.out _ _ (fun h => absurd rfl h) (fun _ => ?_)
      clear hK K
      refine wpAnyL_done (by kernel_rfl) ?_ _
      obtain ⟨Wx, hWx⟩ : ∃ y, w9.setCell ⟨g, 2, none⟩ (.slice A9 (k + 1) c9) = y := ⟨_, rfl⟩
      rw [hWx]
      have hE : ∀ b, b < g → Wx.heap[b]? = wr.heap[b]? := fun b hb => by rw [← hWx]; exact (Below.heap_setCell w9 ⟨g, 2, none⟩ _ b (by show b ≠ g; omega)).trans (E9.out b hb)
      have hzx : wr.heap.size ≤ Wx.heap.size := by rw [← hWx, World.size_setCell]; omega
      have hgw := HGW.out
      have HMX : Hid (AlM w g long shk l (.slice A9 (k + 1) c9) (k + 1) Wx) := Lib.hid ⟨by rw [← hWx]; exact Below.setCell (p := ⟨g, 2, none⟩) B9 (by show w.heap.size ≤ g; omega) _, sl_block8 HM.out.hr hzx (fun a e => by cases e; exact hE _ (by show w.heap.size + 1 < g; omega)), sps_iff.2 (sl_block8 (sps_iff.1 HM.out.hp) hzx (fun a e => by cases e; exact hE _ (by show w.heap.size + 1 + 1 < g; omega))), by rw [← hWx]; exact HOG.out.set_ 2 _, (hE w.heap.size (by omega)).trans HM.out.hz, by rw [← hWx]; exact own_same HO9.out (fun b hb => Below.heap_setCell w9 ⟨g, 2, none⟩ _ b (by have := (HO9.out.lt b hb).1; show b ≠ g; omega))⟩
      clear hWx hE hzx hgw cg fg lg
      go_wp2_with fail
      go_roundw
      case rel => exact ⟨k + 1, by omega, by go_num, Lib.hid ⟨_, HMX.out⟩⟩
      case measure => simp [intOf]; omega
    · obtain rfl : k = n := by omega
      have hqB : decide (((k : Nat) : Int) < k) = false := by simp
      have kg := HM.out.ho.cell
      have lg := HM.out.ho.lt
      have kz := HM.out.hz.cell
      have lz := HM.out.hz.lt
      have fz := HM.out.hz.frozen
      have HSL := Lib.hid hsl
      clear hsl hM HI hkl
      go_wp2_with fail
      obtain ⟨V, hV⟩ : ∃ V, (((wr.setCell ⟨w.heap.size, 0, none⟩ (.slice (some ⟨w.heap.size + 1, 0, none⟩) 1 1)).setCell ⟨w.heap.size, 1, none⟩ (.slice (some ⟨w.heap.size + 1 + 1, 0, none⟩) 1 1)).setCell ⟨w.heap.size, 2, none⟩ (.slice A3 k c3)).setCell ⟨w.heap.size, 3, none⟩ (.int .i64 shk) = V := ⟨_, rfl⟩
      rw [hV]
      have hRV : Blk V w.heap.size 40 #[.slice (some ⟨w.heap.size + 1, 0, none⟩) 1 1, .slice (some ⟨w.heap.size + 1 + 1, 0, none⟩) 1 1, .slice A3 k c3, .int .i64 shk] := by rw [← hV]; exact (((HM.out.hz.set_ 0 _).set_ 1 _).set_ 2 _).set_ 3 _
      have hB : Below w.heap.size w V := by rw [← hV]; exact Below.setCell (p := ⟨w.heap.size, 3, none⟩) (Below.setCell (p := ⟨w.heap.size, 2, none⟩) (Below.setCell (p := ⟨w.heap.size, 1, none⟩) (Below.setCell (p := ⟨w.heap.size, 0, none⟩) HM.out.below (Nat.le_refl _) _) (Nat.le_refl _) _) (Nat.le_refl _) _) (Nat.le_refl _) _
      have hz : wr.heap.size ≤ V.heap.size := by rw [← hV]; simp
      have hE : ∀ b, b ≠ w.heap.size → V.heap[b]? = wr.heap[b]? := fun b hb => by rw [← hV, Below.heap_setCell _ _ _ _ hb, Below.heap_setCell _ _ _ _ hb, Below.heap_setCell _ _ _ _ hb, Below.heap_setCell _ _ _ _ hb]
      have q := hRV.cell
      have ht : l.take k = l := List.take_of_length_le (by rw [HL.out]; exact Nat.le_refl _)
      have hgw := HGW.out
      refine bodyPost_ret (v := .agg #[.slice (some ⟨w.heap.size + 1, 0, none⟩) 1 1, .slice (some ⟨w.heap.size + 1 + 1, 0, none⟩) 1 1, .slice A3 k c3, .int .i64 shk]) (by simp [results, Tryz.results11, go_sem, q]) rfl ⟨_, _, A3, c3, rfl, sl_block8 HM.out.hr hz (fun a e => by cases e; exact hE _ (by show w.heap.size + 1 ≠ w.heap.size; omega)), sps_iff.2 (sl_block8 (sps_iff.1 HM.out.hp) hz (fun a e => by cases e; exact hE _ (by show w.heap.size + 1 + 1 ≠ w.heap.size; omega))), ?_, fun a e => (by cases e; show w.heap.size ≤ w.heap.size + 1; omega), fun a e => (by cases e; show w.heap.size ≤ w.heap.size + 1 + 1; omega), fun a e => (by have := own_addr HM.out.own a e; omega), hB⟩
      have h9 := sl_block8 HSL.out hz (fun a e => hE _ (by have := own_addr HM.out.own a e; omega))
      rw [ht] at h9
      exact h9
theorem ord_store8 {V : World} {g : Nat} {A B C : Option Addr} {n c' : Nat} {shk : Int} {rs : List Rt8} {ss : List Sp} {ks : List Sk8} (hg : Blk V g 40 #[.slice none 0 0, .slice none 0 0, .slice none 0 0, .int .i64 0]) (ha : RtsAt V A 1 rs) (hb : SpsAt V B 1 ss) (hc : SksAt V C n ks) (na : ∀ a, A = some a → a.block ≠ g) (nb : ∀ a, B = some a → a.block ≠ g) (nc : ∀ a, C = some a → a.block ≠ g) {V' : World}
    (hV : (((V.setCell ⟨g, 0, none⟩ (.slice A 1 1)).setCell ⟨g, 1, none⟩ (.slice B 1 1)).setCell ⟨g, 2, none⟩ (.slice C n c')).setCell ⟨g, 3, none⟩ (.int .i64 shk) = V') :
    Blk V' g 40 #[.slice A 1 1, .slice B 1 1, .slice C n c', .int .i64 shk] ∧ RtsAt V' A 1 rs ∧ SpsAt V' B 1 ss ∧ SksAt V' C n ks := by
  have hz : V.heap.size ≤ V'.heap.size := by rw [← hV]; simp
  have hE : ∀ b, b ≠ g → V'.heap[b]? = V.heap[b]? := fun b hb => by rw [← hV, Below.heap_setCell _ _ _ _ hb, Below.heap_setCell _ _ _ _ hb, Below.heap_setCell _ _ _ _ hb, Below.heap_setCell _ _ _ _ hb]
  refine ⟨?_, sl_block8 ha hz (fun a e => hE _ (na a e)), sps_iff.2 (sl_block8 (sps_iff.1 hb) hz (fun a e => hE _ (nb a e))), sl_block8 hc hz (fun a e => hE _ (nc a e))⟩
  rw [← hV]
  exact (((hg.set_ 0 _).set_ 1 _).set_ 2 _).set_ 3 _

end Go.Proofs.YtcbeiadimchknaaGreat

namespace Go.Proofs.YtcbeiadimchknaaGreat
open Go.RowKit
open Go.Sort (grow)
set_option linter.unusedVariables false
set_option linter.unusedSimpArgs false

theorem one_hu (long : Int) : huL [⟨0, 1, long⟩] 1 [⟨5, 5⟩] 1 = [[⟨1, long⟩]] := by rfl
theorem one_mk (long : Int) (c : Int × Int × Int) : mk8 [⟨1, long⟩] c = if 1 ≤ c.1 ∧ long ≤ c.2.1 then 1 else if c.1 < 1 ∨ c.2.2 < long then 2 else 3 := by
  unfold mk8
  simp [allN, ndAt]
theorem one_kn (long : Int) (ks : List Sk8) (shk : Int) (p : List Int) (nk : Nat) : knK [[⟨1, long⟩]] ks shk p nk 1 = mk8 [⟨1, long⟩] (cbR ks shk p 0 nk) := by
  have h := mk8_123 [⟨1, long⟩] (cbR ks shk p 0 nk)
  show (if knK [[⟨1, long⟩]] ks shk p nk 0 = 2 then 2 else if mk8 [⟨1, long⟩] (cbR ks shk p 0 nk) = 2 then 2 else if mk8 [⟨1, long⟩] (cbR ks shk p 0 nk) = 3 then 3 else knK [[⟨1, long⟩]] ks shk p nk 0) = _
  rw [if_neg (by show ¬ (1 : Int) = 2; decide)]
  show (if mk8 [⟨1, long⟩] (cbR ks shk p 0 nk) = 2 then 2 else if mk8 [⟨1, long⟩] (cbR ks shk p 0 nk) = 3 then 3 else (1 : Int)) = _
  rcases h with h | h | h <;> rw [h] <;> rfl
theorem cb_1 (lo hi : Int) : cbR [⟨1, lo, hi⟩] 0 [0] 0 1 = (1, lo, hi) := by simp [cbR, cbK, iAt, skAt]
theorem cb_1n (lo hi : Int) : cbR [⟨1, lo, hi⟩] 0 [-1] 0 1 = (99, 0, 0) := by simp [cbR, cbK, iAt, skAt]
theorem cb_2nn (lo hi x : Int) : cbR [⟨1, lo, hi⟩, ⟨1, x, x⟩] 0 [-1, -1] 0 2 = (99, 0, 0) := by simp [cbR, cbK, iAt, skAt]
theorem cb_20n (lo hi x : Int) : cbR [⟨1, lo, hi⟩, ⟨1, x, x⟩] 0 [0, -1] 0 2 = (1, lo, hi) := by simp [cbR, cbK, iAt, skAt]
theorem cb_2n0 (lo hi x : Int) : cbR [⟨1, lo, hi⟩, ⟨1, x, x⟩] 0 [-1, 0] 0 2 = (1, x, x) := by simp [cbR, cbK, iAt, skAt]
theorem cb_200 (lo hi x : Int) : cbR [⟨1, lo, hi⟩, ⟨1, x, x⟩] 0 [0, 0] 0 2 = (1, lo + x, hi + x) := by simp [cbR, cbK, iAt, skAt]
theorem pl_1 : plL 1 1 [] = [[-1], [0]] := by decide
theorem pl_2 : plL 1 2 [] = [[-1, -1], [-1, 0], [0, -1], [0, 0]] := by decide
theorem one_can {long lo hi : Int} (h1 : 1 ≤ long) : canP [⟨0, 1, long⟩] 1 [⟨5, 5⟩] 1 [⟨1, lo, hi⟩] 1 0 = decide (max 0 (long - lo) ≤ 0) := by
  unfold canP
  rw [pl_1, one_hu]
  simp only [List.any_cons, List.any_nil, Bool.or_false, one_kn, cb_1, cb_1n, one_mk]
  by_cases h : long ≤ lo
  · rw [decide_eq_true (show max 0 (long - lo) ≤ 0 by omega)]
    simp [h]
  · rw [decide_eq_false (show ¬ max 0 (long - lo) ≤ 0 by omega)]
    have h0 : ¬ long ≤ 0 := by omega
    simp [h, h0]
    split <;> simp <;> (split <;> decide)
theorem one_canx {long lo hi x : Int} (h1 : 1 ≤ long) (hl : 1 ≤ lo) (hx : 1 ≤ x) : canP [⟨0, 1, long⟩] 1 [⟨5, 5⟩] 1 ([⟨1, lo, hi⟩] ++ [⟨1, x, x⟩]) 2 0 = decide (max 0 (long - lo) ≤ x) := by
  unfold canP
  rw [pl_2, one_hu, List.singleton_append]
  simp only [List.any_cons, List.any_nil, Bool.or_false, one_kn, cb_2nn, cb_20n, cb_2n0, cb_200, one_mk]
  by_cases h : long ≤ lo + x
  · rw [decide_eq_true (show max 0 (long - lo) ≤ x by omega)]
    simp [h]
  · rw [decide_eq_false (show ¬ max 0 (long - lo) ≤ x by omega)]
    have h0 : ¬ long ≤ 0 := by omega
    have h2 : ¬ long ≤ lo := by omega
    have h3 : ¬ long ≤ x := by omega
    simp [h, h0, h2, h3]
    exact ⟨by split <;> decide, by split <;> decide, by split <;> decide, by split <;> decide⟩
theorem one_ok {long lo hi : Int} (h1 : 1 ≤ long ∧ long ≤ 999) (h2 : 1 ≤ lo ∧ lo ≤ hi ∧ hi ≤ 999) : Ok8 1 1 1 [⟨0, 1, long⟩] [⟨5, 5⟩] [⟨1, lo, hi⟩] 0 := by
  refine ⟨by omega, by omega, by omega, by omega, ?_, ?_, ?_, ?_⟩
  · intro k hk
    obtain rfl : k = 0 := by omega
    show (0 ≤ (0 : Int) ∧ (0 : Int) ≤ 9999) ∧ (1 ≤ (1 : Int) ∧ (1 : Int) ≤ 99) ∧ 0 ≤ long ∧ long ≤ 999
    omega
  · intro k hk
    omega
  · intro k hk
    obtain rfl : k = 0 := by omega
    decide
  · intro k hk
    obtain rfl : k = 0 := by omega
    show (1 ≤ (1 : Int) ∧ (1 : Int) ≤ 99) ∧ 1 ≤ lo ∧ lo ≤ hi ∧ hi ≤ 999
    omega
theorem one_okx {long lo hi x : Int} (h1 : 1 ≤ long ∧ long ≤ 999) (h2 : 1 ≤ lo ∧ lo ≤ hi ∧ hi ≤ 999) (hx : 1 ≤ x) (hx2 : x ≤ 999) : Ok8 1 1 2 [⟨0, 1, long⟩] [⟨5, 5⟩] ([⟨1, lo, hi⟩] ++ [⟨1, x, x⟩]) 0 := by
  have h := one_ok h1 h2
  refine ⟨h.rl, h.sl, by omega, h.shk, h.rt, h.inc, h.sp, ?_⟩
  intro k hk
  have : k = 0 ∨ k = 1 := by omega
  rcases this with rfl | rfl
  · exact h.sk 0 (by omega)
  · show (1 ≤ (1 : Int) ∧ (1 : Int) ≤ 99) ∧ 1 ≤ x ∧ x ≤ x ∧ x ≤ 999
    omega

end Go.Proofs.YtcbeiadimchknaaGreat

namespace Go.Proofs.YtcbeiadimchknaaGreat
open Go.RowKit
open Go.Sort (grow)
set_option linter.unusedVariables false
set_option linter.unusedSimpArgs false

/-- the sum of the first k pieces that p uses -/
def suK (ns : List Int) (p : List Int) : Nat → Int
  | 0 => 0
  | k + 1 => if iAt p k = 0 then suK ns p k + iAt ns k else suK ns p k
def pcK (ns : List Int) : List Sk8 := ns.map fun n => ⟨1, n, n⟩
theorem pcK_at {ns : List Int} {k : Nat} (h : k < ns.length) : skAt (pcK ns) k = ⟨1, iAt ns k, iAt ns k⟩ := by
  unfold skAt pcK iAt
  rw [List.getD_eq_getElem?_getD, List.getD_eq_getElem?_getD, List.getElem?_map, List.getElem?_eq_getElem h]
  rfl
/-- how many of the first k pieces p uses -/
def mnK (p : List Int) : Nat → Nat
  | 0 => 0
  | k + 1 => if iAt p k = 0 then mnK p k + 1 else mnK p k
theorem mnK_succ (p : List Int) (k : Nat) : mnK p (k + 1) = if iAt p k = 0 then mnK p k + 1 else mnK p k := rfl
theorem suK_succ (ns p : List Int) (k : Nat) : suK ns p (k + 1) = if iAt p k = 0 then suK ns p k + iAt ns k else suK ns p k := rfl
theorem cb_pc {ns : List Int} {shk : Int} {p : List Int} : ∀ k, k ≤ ns.length → cbK (pcK ns) shk p 0 k = some ⟨mnK p k, if mnK p k = 0 then 99 else 1, suK ns p k + shk * ((mnK p k - 1 : Nat) : Int), suK ns p k + shk * ((mnK p k - 1 : Nat) : Int)⟩
  | 0, _ => by simp [cbK, mnK, suK]
  | k + 1, h => by
    unfold cbK
    rw [cb_pc k (by omega), pcK_at (by omega)]
    rw [mnK_succ, suK_succ]
    by_cases e : iAt p k = 0
    · simp only [e, if_true]
      by_cases e2 : mnK p k = 0
      · simp [e2]
      · obtain ⟨j, hj⟩ : ∃ j, mnK p k = j + 1 := ⟨mnK p k - 1, by omega⟩
        have hm : shk * ((j + 1 : Nat) : Int) = shk * (j : Int) + shk := by rw [Int.natCast_add, Int.mul_add]; simp
        simp [hj]
        rw [Int.mul_add]
        omega
    · simp [e]
def smK (ns : List Int) : Nat → Int
  | 0 => 0
  | k + 1 => smK ns k + iAt ns k
theorem mnK_le {p : List Int} : ∀ k, mnK p k ≤ k
  | 0 => Nat.le_refl _
  | k + 1 => by
    have := mnK_le (p := p) k
    rw [mnK_succ]
    split <;> omega
theorem su_le {ns : List Int} {p : List Int} (h1 : ∀ i, i < ns.length → 1 ≤ iAt ns i) : ∀ k, k ≤ ns.length → suK ns p k + ((k - mnK p k : Nat) : Int) ≤ smK ns k
  | 0, _ => by simp [suK, smK, mnK]
  | k + 1, h => by
    have ih := su_le (p := p) h1 k (by omega)
    have hm := mnK_le (p := p) k
    have hk := h1 k (by omega)
    rw [suK_succ, mnK_succ, show smK ns (k + 1) = smK ns k + iAt ns k from rfl]
    split
    · omega
    · omega
theorem su_all {ns : List Int} {p : List Int} : ∀ k, mnK p k = k → suK ns p k = smK ns k
  | 0, _ => rfl
  | k + 1, h => by
    have hm := mnK_le (p := p) k
    rw [mnK_succ] at h
    split at h
    · rename_i e
      rw [suK_succ, if_pos e, su_all k (by omega)]; rfl
    · omega
/-- what is known of a plan -/
theorem pc_kn {ns : List Int} {shk long : Int} {p : List Int} {k x : Nat} (hl : ns.length = k) (hk : 0 < k) (hs : 0 ≤ shk) (h1 : ∀ i, i < ns.length → 1 ≤ iAt ns i) (hx : long = smK ns k + shk * ((k - 1 : Nat) : Int) + x) :
    knK [[⟨1, long⟩]] (pcK ns) shk p k 1 = if mnK p k = k ∧ x = 0 then 1 else 2 := by
  rw [one_kn, one_mk]
  unfold cbR
  have hle := su_le (p := p) h1 k (by omega)
  have hm := mnK_le (p := p) k
  have hp : shk * ((mnK p k - 1 : Nat) : Int) ≤ shk * ((k - 1 : Nat) : Int) := Int.mul_le_mul_of_nonneg_left (by omega) hs
  have hz : ((0 : Nat) : Int) = 0 := rfl
  rw [cb_pc k (by omega)]
  simp only
  by_cases e : mnK p k = k
  · rw [su_all k e, e, if_neg (show ¬ k = 0 by omega)]
    by_cases e2 : x = 0
    · rw [if_pos ⟨by omega, by omega⟩, if_pos ⟨rfl, e2⟩]
    · rw [if_neg (by rintro ⟨-, h⟩; omega), if_pos (.inr (by omega)), if_neg (by rintro ⟨-, h⟩; exact e2 h)]
  · rw [if_neg (by rintro ⟨-, h⟩; omega), if_pos (.inr (by omega)), if_neg (by rintro ⟨h, -⟩; exact e h)]
/-- the only plan that serves was met -/
def In1 (nk : Nat) (p0 : List Int) (s : Fw8) : Prop := s.fo = true ∧ s.pl = p0 ∧ ∀ y, s.nd y = fwA nk y
theorem fwD_zero {nk : Nat} {p0 : List Int} {n0 : Int → Bool} (hz : ∀ i, i < nk → iAt p0 i = 0) (hn : ∀ y, n0 y = fwA nk y) (y : Int) : fwD p0 n0 nk y = fwA nk y := by
  unfold fwD
  rw [hn]
  by_cases h : 0 ≤ y ∧ y < nk
  · have := hz y.toNat (by omega)
    simp [h, this]
  · simp [fwA, h]
theorem fwS_no {kn : List Int → Bool} {nk : Nat} {s : Fw8} {p : List Int} (h : kn p = false) : fwS kn nk s p = s := by unfold fwS; rw [h]; simp
theorem fwS_in {kn : List Int → Bool} {nk : Nat} {s : Fw8} {p0 : List Int} (hl : p0.length = nk) (hz : ∀ i, i < nk → iAt p0 i = 0) (h : kn p0 = true) (hs : s.fo = false ∨ In1 nk p0 s) : In1 nk p0 (fwS kn nk s p0) := by
  unfold fwS
  rw [h]
  rcases hs with h1 | ⟨h1, h2, h3⟩
  · rw [h1]
    simp only [Bool.false_and, Bool.not_true, Bool.or_self, Bool.false_eq_true, if_false, Bool.not_false, Bool.true_or, if_true]
    exact ⟨rfl, rfl, fwD_zero hz fun y => rfl⟩
  · rw [h1, h2, hl]
    simp only [Nat.lt_irrefl, decide_false, Bool.and_false, Bool.not_true, Bool.or_self, Bool.false_eq_true, if_false]
    exact ⟨rfl, rfl, fwD_zero hz h3⟩
theorem fold_in {kn : List Int → Bool} {nk : Nat} {p0 : List Int} (hl : p0.length = nk) (hz : ∀ i, i < nk → iAt p0 i = 0) (h : kn p0 = true) : ∀ (l : List (List Int)) (s : Fw8), (∀ p ∈ l, kn p = true → p = p0) → (In1 nk p0 s ∨ (s.fo = false ∧ p0 ∈ l)) → In1 nk p0 (l.foldl (fwS kn nk) s)
  | [], s, _, hs => hs.elim id fun h => by cases h.2
  | p :: l, s, hp, hs => by
    rw [List.foldl_cons]
    refine fold_in hl hz h l _ (fun q hq => hp q (List.mem_cons_of_mem _ hq)) ?_
    cases hk : kn p
    · rw [fwS_no hk]
      refine hs.imp id fun ⟨h1, h2⟩ => ⟨h1, ?_⟩
      rcases List.mem_cons.1 h2 with h3 | h3
      · rw [h3, hk] at h; cases h
      · exact h3
    · obtain rfl := hp p (List.mem_cons_self ..) hk
      exact .inl (fwS_in hl hz h (hs.elim .inr fun h => .inl h.1))
theorem fold_no {kn : List Int → Bool} {nk : Nat} : ∀ (l : List (List Int)) (s : Fw8), (∀ p ∈ l, kn p = false) → l.foldl (fwS kn nk) s = s
  | [], _, _ => rfl
  | p :: l, s, hp => by rw [List.foldl_cons, fwS_no (hp p (List.mem_cons_self ..))]; exact fold_no l s fun q hq => hp q (List.mem_cons_of_mem _ hq)
theorem mnK_all {p : List Int} : ∀ k, mnK p k = k ↔ ∀ i, i < k → iAt p i = 0
  | 0 => by simp [mnK]
  | k + 1 => by
    have ih := mnK_all (p := p) k
    have hm := mnK_le (p := p) k
    rw [mnK_succ]
    constructor
    · intro h i hi
      split at h
      · rename_i e
        rcases Nat.lt_succ_iff_lt_or_eq.1 hi with h2 | rfl
        · exact ih.1 (by omega) i h2
        · exact e
      · omega
    · intro h
      rw [if_pos (h k (by omega)), ih.2 fun i hi => h i (by omega)]
theorem rep_at {k i : Nat} : iAt (List.replicate k (0 : Int)) i = 0 := by
  unfold iAt
  rw [List.getD_eq_getElem?_getD, List.getElem?_replicate]
  split <;> rfl
theorem eq_rep {p : List Int} {k : Nat} (hl : p.length = k) (h : ∀ i, i < k → iAt p i = 0) : p = List.replicate k 0 := by
  refine List.ext_getElem (by simp [hl]) fun i h1 h2 => ?_
  have := h i (by omega)
  unfold iAt at this
  rw [List.getD_eq_getElem?_getD, List.getElem?_eq_getElem h1] at this
  simpa using this
theorem plL_rep {m : Nat} (hm : 1 ≤ m) : ∀ (r : Nat) (q : List Int), q ++ List.replicate r 0 ∈ plL m r q
  | 0, q => by simp [plL]
  | r + 1, q => by
    unfold plL
    refine List.mem_flatMap.2 ⟨1, List.mem_range.2 (by omega), ?_⟩
    have := plL_rep hm r (q ++ [0])
    rw [List.append_assoc] at this
    exact this
/-- what fewest finds where each length is needed -/
theorem pc_few {ns : List Int} {shk long : Int} {k : Nat} (hl : ns.length = k) (hk : 0 < k) (hs : 0 ≤ shk) (h1 : ∀ i, i < ns.length → 1 ≤ iAt ns i) (hx : long = smK ns k + shk * ((k - 1 : Nat) : Int)) : In1 k (List.replicate k 0) (fwF [[⟨1, long⟩]] (pcK ns) shk k 1) := by
  have hkn : ∀ p, knK [[⟨1, long⟩]] (pcK ns) shk p k 1 = if mnK p k = k ∧ (0 : Nat) = 0 then 1 else 2 := fun p => pc_kn hl hk hs h1 (by simpa using hx)
  unfold fwF
  refine fold_in (by simp) (fun i _ => rep_at) ?_ _ _ (fun p hp h => ?_) (.inr ⟨rfl, ?_⟩)
  · rw [hkn, if_pos ⟨mnK_all _ |>.2 fun i _ => rep_at, rfl⟩]; rfl
  · rw [hkn] at h
    have hm : mnK p k = k := by
      by_cases e : mnK p k = k
      · exact e
      · rw [if_neg (fun h => e h.1)] at h; exact absurd h (by decide)
    have := (plL_mem hp (fun x hx => by cases hx)).1
    exact eq_rep (by simpa using this) ((mnK_all k).1 hm)
  · have := plL_rep (m := 1) (Nat.le_refl _) k []
    simpa using this
theorem pc_none {ns : List Int} {shk long : Int} {k : Nat} (hl : ns.length = k) (hk : 0 < k) (hs : 0 ≤ shk) (h1 : ∀ i, i < ns.length → 1 ≤ iAt ns i) (hx : long = smK ns k + shk * ((k - 1 : Nat) : Int) + 1) : fwF [[⟨1, long⟩]] (pcK ns) shk k 1 = fw0 := by
  unfold fwF
  refine fold_no _ _ fun p _ => ?_
  rw [pc_kn (x := 1) hl hk hs h1 (by simpa using hx), if_neg (by rintro ⟨-, h⟩; cases h)]
  rfl

end Go.Proofs.YtcbeiadimchknaaGreat
