/- can of checks (layer 5), asked for a comparison that is wrong in no truth. -/
import Derived.Test.YtcinhibmohkeiaaQy26
import Derived.Shelf.Abstract
import Derived.Laws.EntriesVeiled
import Derived.Handy
import Derived.Deep.DrawnRows
import Derived.Deep.DeepCutAuto
import Derived.BigRegionIn
import Derived.Shelf.RegionOpen
import Derived.Deep.RegionHeld3
import Derived.Laws.CopyRow
namespace Go.Proofs.Ytcinhibmohkeiaa
open Go.RowKit
open Go.Sort (grow)
set_option linter.unusedVariables false
set_option linter.unusedSimpArgs false

attribute [local go_sem] Oper.semAt_some
theorem al5y {w X : World} {c0 c1 c2 c3 c4 : Array Value} {t0 t1 t2 t3 t4 : TypeId} (hX : (((((w.alloc (.cells c0 t0)).alloc (.cells c1 t1)).alloc (.cells c2 t2)).alloc (.cells c3 t3)).alloc (.cells c4 t4)) = X) :
    Below w.heap.size w X ∧ X.heap.size = w.heap.size + 5 ∧ Blk X w.heap.size t0 c0 ∧ Blk X (w.heap.size + 1) t1 c1 ∧ Blk X (w.heap.size + 1 + 1) t2 c2 ∧ Blk X (w.heap.size + 1 + 1 + 1) t3 c3 ∧ Blk X (w.heap.size + 1 + 1 + 1 + 1) t4 c4 := by
  subst hX
  refine ⟨by (repeat first | with_reducible assumption | with_reducible exact Below.refl _ _ | (with_reducible refine Below.alloc ?_ ?side _; case side => (first | omega | (with_reducible exact Below.size (by assumption)) | (simp; done) | (simp; omega))) | (with_reducible refine Below.setCell ?_ ?side _; case side => (first | omega | (with_reducible exact Below.size (by assumption)) | (simp; done) | (simp; omega))) | with_reducible refine Below.drew ?_ | with_reducible refine below_drewN ?_ _ | (with_reducible refine below_step (by assumption) ?side ?_; case side => (first | omega | (with_reducible exact Below.size (by assumption)) | (simp; done) | (simp; omega)))), by simp, ?_, ?_, ?_, ?_, ?_⟩
  · exact ((((Blk.new w _ _).alloc _).alloc _).alloc _).alloc _
  · exact (((Blk.new' (by simp) _ _).alloc _).alloc _).alloc _
  · exact ((Blk.new' (by simp) _ _).alloc _).alloc _
  · exact (Blk.new' (by simp) _ _).alloc _
  · exact Blk.new' (by simp) _ _
/-- the memory of can -/
structure CnM (w : World) (i : Nat) (a b lo hi : Int) (W : World) : Prop where
  below : Below w.heap.size w W
  ki : Blk W (w.heap.size + 1) 3 #[.int .i64 i]
  kr : Blk W (w.heap.size + 1 + 1) 4 #[.bool false]
  ko : Blk W (w.heap.size + 1 + 1 + 1) 4 #[.bool false]
  kc : Blk W (w.heap.size + 1 + 1 + 1 + 1) 48 #[.int .i64 a, .int .i64 b, .int .i64 lo, .int .i64 hi]
theorem CnM.tame {w : World} {i : Nat} {a b lo hi : Int} {W W' : World} {B : Nat} (h : CnM w i a b lo hi W) (ht : Tame B W W') (hB : w.heap.size ≤ B) : CnM w i a b lo hi W' := ⟨ht.below hB h.below.size h.below, ht.blk h.ki, ht.blk h.kr, ht.blk h.ko, ht.blk h.kc⟩
theorem CnM.later {w : World} {i : Nat} {a b lo hi : Int} {W W' : World} (h : CnM w i a b lo hi W) (hb : Below W.heap.size W W') : CnM w i a b lo hi W' := h.tame (B := w.heap.size) (.of_below hb) (Nat.le_refl _)
set_option maxRecDepth 100000 in
set_option maxHeartbeats 3200000 in
theorem can5_c (A : Option Addr) (n c : Nat) (B : Option Addr) (m d : Nat) (wr : Int) (ms : List Sp) (cs : List Cm5) (i : Nat) (hi : i < m) (w : World) (HM : SpsAt w A n ms) (HC : CmsAt w B m cs) (hck : ckY n m ms cs wr = true) (hno : ∀ s ∈ trsY n m ms cs wr, s.testBit i = false) :
    Calls Try.prog 55 #[.agg #[.slice A n c, .slice B m d, .int .i64 wr], .int .i64 i, .bool false] w fun e w' => e = .returned (.bool false) ∧ Below w.heap.size w w' := by
  have HTR := Lib.hid (fun V (hV : Below w.heap.size w V) => truths5_c A n c B m d wr ms cs V (HM.later hV) (HC.later hV))
  have HIT := Lib.hid (fun yb => truths1_c yb A n c B m d wr ms cs hck)
  obtain ⟨hn5, hm8, -, -⟩ := ckY_n hck
  have hkc := ckY_c hck hi
  obtain ⟨x, hx⟩ : ∃ x, cmAt cs i = x := ⟨_, rfl⟩
  obtain ⟨xa, xb, xlo, xhi⟩ := x
  rw [hx] at hkc
  simp only at hkc
  obtain ⟨a, ha⟩ := Int.eq_ofNat_of_zero_le hkc.1.1
  obtain ⟨b, hb⟩ := Int.eq_ofNat_of_zero_le hkc.2.1.1
  subst ha hb
  have ha6 : a < 6 := by omega
  have hb6 : b < 6 := by omega
  have haI : (a : Int) < 6 := by omega
  have hbI : (b : Int) < 6 := by omega
  obtain ⟨bc, oc, hB, hbc, x0, x1, x2, x3⟩ := HC.get hi
  rw [hx] at x0 x1 x2 x3
  simp only at x0 x1 x2 x3
  have HMI := Lib.hid HM
  have HCI := Lib.hid HC
  have HS8 := Lib.hid (fun s (h : s ∈ trsY n m ms cs wr) => setsL_lt (List.mem_filter.1 h).1 hm8)
  have HNO := Lib.hid hno
  obtain ⟨xs, hxs⟩ : ∃ xs, trsY n m ms cs wr = xs := ⟨_, rfl⟩
  rw [hxs] at HIT HNO HS8
  subst hB
  clear HM HC hck hno hxs hkc hx
  refine (callsIn_wide (n := 6)).1 (callsIn_of_wp_marks Try.func55 rfl trivial ?_ rfl)
  simp only [Try.ntmps55, List.size_toArray, List.length_cons, List.length_nil, Nat.reduceAdd, Nat.reduceSub, Array.replicate_succ, Array.replicate_zero, List.push_toArray, List.append_toArray, List.nil_append, List.cons_append]
  have hb4 : Below w.heap.size w ((((w.alloc (.cells #[.slice A n c, .slice (some ⟨bc, oc, none⟩) m d, .int .i64 wr] 51)).alloc (.cells #[.int .i64 i] 3)).alloc (.cells #[.bool false] 4)).alloc (.cells #[.bool false] 4)) := by (repeat first | with_reducible assumption | with_reducible exact Below.refl _ _ | (with_reducible refine Below.alloc ?_ ?side _; case side => (first | omega | (with_reducible exact Below.size (by assumption)) | (simp; done) | (simp; omega))) | (with_reducible refine Below.setCell ?_ ?side _; case side => (first | omega | (with_reducible exact Below.size (by assumption)) | (simp; done) | (simp; omega))) | with_reducible refine Below.drew ?_ | with_reducible refine below_drewN ?_ _ | (with_reducible refine below_step (by assumption) ?side ?_; case side => (first | omega | (with_reducible exact Below.size (by assumption)) | (simp; done) | (simp; omega))))
  have y0 := (hb4.cell (p := ⟨bc, oc + i * 4, none⟩) hbc).trans x0
  have y1 := (hb4.cell (p := ⟨bc, oc + i * 4 + 1, none⟩) hbc).trans x1
  have y2 := (hb4.cell (p := ⟨bc, oc + i * 4 + 2, none⟩) hbc).trans x2
  have y3 := (hb4.cell (p := ⟨bc, oc + i * 4 + 3, none⟩) hbc).trans x3
  clear hb4 x0 x1 x2 x3
  gi_wp2
  clear y0 y1 y2 y3
  obtain ⟨X, hX⟩ : ∃ X, (((((w.alloc (.cells #[.slice A n c, .slice (some ⟨bc, oc, none⟩) m d, .int .i64 wr] 51)).alloc (.cells #[.int .i64 i] 3)).alloc (.cells #[.bool false] 4)).alloc (.cells #[.bool false] 4)).alloc (.cells #[.int .i64 a, .int .i64 b, .int .i64 xlo, .int .i64 xhi] 48)) = X := ⟨_, rfl⟩
  rw [hX]
  obtain ⟨BX, zX, -, ki, kr, ko, kc⟩ := al5y hX
  have HD0 : Hid (CnM w i a b xlo xhi X) := Lib.hid ⟨BX, ki, kr, ko, kc⟩
  clear hX ki kr ko kc
  refine ⟨trivial, callsIn_wide.2 ((HTR.out X BX).mono ?_)⟩
  rintro e w2 ⟨yb, rfl, hyb, hm2, hb2⟩
  have HM2 := Lib.hid hm2.blk
  have HD2 := Lib.hid (HD0.out.later hb2)
  have z2 : w.heap.size + 5 ≤ w2.heap.size := by have := hb2.size; omega
  clear hm2 hb2
  gi_wp2
  have en := enters_of Try.func64 (by kernel_rfl) rfl
  refine wpIn_rangeT (gf := 64) (fst := #[]) (lb := #[.pointer (some ⟨yb, 0, none⟩)]) rfl en (HIT.out yb) (fun s args h => by rw [show args = _ from h]; rfl)
    (fun k W => CnM w i a b xlo xhi W ∧ Blk W yb 51 #[.slice A n c, .slice (some ⟨bc, oc, none⟩) m d, .int .i64 wr])
    (fun c W => False) ?hI ?hIx ?hmem ?h0 ?hround ?hdone ?hstop
  case hI => exact fun k W1 W2 ⟨h1, h2⟩ ht => ⟨h1.tame ht (by omega), ht.blk h2⟩
  case hIx => exact fun c W1 W2 h ht => h
  case hmem => exact fun k W1 h => ⟨h.2, HMI.out.later h.1.below, HCI.out.later h.1.below⟩
  case h0 => exact ⟨HD2.out, HM2.out⟩
  case hstop => exact fun D c W hD h => h.elim
  case hround =>
    rintro l k s args W1 hl hz1 hx ⟨hD, hy⟩ rfl
    have hsb := HNO.out s (List.mem_of_getElem? hx)
    have hs8 := HS8.out s (List.mem_of_getElem? hx)
    have HHA := Lib.hid (fun V => by have := has5_c s i V (by omega) (by omega); rw [hsb] at this; exact this)
    have htz : Hid ((tbV (trT n ms cs s)).size = 36) := Lib.hid trT_sz
    have hTl : (trT n ms cs s).length = 36 := clT_len
    obtain ⟨T, hT⟩ : ∃ T, trT n ms cs s = T := ⟨_, rfl⟩
    rw [hT] at htz hTl
    have hsz : Hid ((Try.prog.info? 104).map (·.size) = some (tbV T).size) := Lib.hid (by rw [htz.out]; kernel_rfl)
    have hone : Hid ((tbV T).all (·.oneCell') = true) := Lib.hid (by unfold tbV; simp [Value.oneCell'])
    have HD := Lib.hid hD
    have HY := Lib.hid hy
    have HTL := Lib.hid hTl
    clear hx hD hy hTl hsb
    rw [hT]
    clear hT
    gi_wp2_with (refine wpListIn_store_rowG (by rfl) (fun _ => trivial) 104 _ _ rfl W1.heap.size (tbV T) rfl rfl 104 _ (Blk.new W1 _ _) hsz.out (by rw [htz.out]; rfl) hone.out ?_)
    obtain ⟨Z, hZ⟩ : ∃ Z, (W1.alloc (.cells #[.int .i64 0, .int .i64 0, .int .i64 0, .int .i64 0, .int .i64 0, .int .i64 0, .int .i64 0, .int .i64 0, .int .i64 0, .int .i64 0, .int .i64 0, .int .i64 0, .int .i64 0, .int .i64 0, .int .i64 0, .int .i64 0, .int .i64 0, .int .i64 0, .int .i64 0, .int .i64 0, .int .i64 0, .int .i64 0, .int .i64 0, .int .i64 0, .int .i64 0, .int .i64 0, .int .i64 0, .int .i64 0, .int .i64 0, .int .i64 0, .int .i64 0, .int .i64 0, .int .i64 0, .int .i64 0, .int .i64 0, .int .i64 0] 104)).setRow W1.heap.size (tbV T) = Z := ⟨_, rfl⟩
    rw [hZ]
    have BZ : Below W1.heap.size W1 Z := by rw [← hZ]; exact below_setRow ((Below.refl _ _).alloc (Nat.le_refl _) _) (Nat.le_refl _)
    have HTZ : Hid (Blk Z W1.heap.size 104 (tbV T)) := by rw [← hZ]; exact Lib.hid (blk_setRow (Blk.new W1 _ _))
    clear hZ
    refine ⟨KeepC.of_below BZ, fun W2 ht => ?_⟩
    have HDW := Lib.hid ((HD.out.later BZ).tame ht (by omega))
    have HYW := Lib.hid (ht.blk (HY.out.below BZ HY.out.lt))
    have HTW := Lib.hid (ht.blk HTZ.out)
    have HSS : Hid (∀ W', Below W2.heap.size W2 W' → (∀ j, W'.cell? ⟨w.heap.size + 1 + 1 + 1 + 1, j, none⟩ = #[Value.int .i64 a, .int .i64 b, .int .i64 xlo, .int .i64 xhi][j]?) ∧ W'.cell? ⟨W1.heap.size, a * 6 + b, none⟩ = some (.int .i64 (iAt T (a * 6 + b))) ∧ W'.cell? ⟨W1.heap.size, b * 6 + a, none⟩ = some (.int .i64 (iAt T (b * 6 + a)))) := Lib.hid (fun W' h => ⟨((HDW.out.later h).kc).cell, ((HTW.out.below h HTW.out.lt).cell _).trans (tbV_get (by rw [HTL.out]; omega)), ((HTW.out.below h HTW.out.lt).cell _).trans (tbV_get (by rw [HTL.out]; omega))⟩)
    have zW := ht.size
    have zZ := BZ.size
    clear ht
    gi_wp2
    try simp only [Act.put]
    obtain ⟨Y, hY⟩ : ∃ Y, W2.drew = Y := ⟨_, rfl⟩
    have BY : Below W2.heap.size W2 Y := by rw [← hY]; (repeat first | with_reducible assumption | with_reducible exact Below.refl _ _ | (with_reducible refine Below.alloc ?_ ?side _; case side => (first | omega | (with_reducible exact Below.size (by assumption)) | (simp; done) | (simp; omega))) | (with_reducible refine Below.setCell ?_ ?side _; case side => (first | omega | (with_reducible exact Below.size (by assumption)) | (simp; done) | (simp; omega))) | with_reducible refine Below.drew ?_ | with_reducible refine below_drewN ?_ _ | (with_reducible refine below_step (by assumption) ?side ?_; case side => (first | omega | (with_reducible exact Below.size (by assumption)) | (simp; done) | (simp; omega))))
    refine wpIn_mono (Q := fun e a' V => e = .normal ∧ ∃ (x10 x11 : Int) (u21 u22 u23 u24 u25 u26 u27 u28 u29 u30 u31 u32 u33 u34 u35 u36 u37 u38 u39 u40 u41 u42 u43 u44 u45 u46 u47 u48 u49 u50 u51 u52 u53 u54 u55 u56 u57 u58 u59 u60 u61 u62 u63 u64 u65 u66 u67 u68 : Value), a' = { tmps := #[.agg #[.slice A n c, .slice (some ⟨bc, oc, none⟩) m d, .int .i64 wr], .int .i64 i, .bool false, .pointer (some ⟨w.heap.size, 0, none⟩), .pointer (some ⟨w.heap.size + 1, 0, none⟩), .pointer (some ⟨w.heap.size + 1 + 1, 0, none⟩), .pointer (some ⟨w.heap.size + 1 + 1 + 1, 0, none⟩), .pointer (some ⟨w.heap.size + 1 + 1 + 1 + 1, 0, none⟩), .int .u64 s, .pointer (some ⟨W1.heap.size, 0, none⟩), .int .i64 x10, .int .i64 x11, .pointer (some ⟨w.heap.size, 1, none⟩), .slice (some ⟨bc, oc, none⟩) m d, .int .i64 i, .pointer (some ⟨bc, oc + i * 4, none⟩), .agg #[.int .i64 a, .int .i64 b, .int .i64 xlo, .int .i64 xhi], .agg #[.slice A n c, .slice (some ⟨bc, oc, none⟩) m d, .int .i64 wr], .func (.func 64) #[] #[.pointer (some ⟨yb, 0, none⟩)], .int .u64 s, .agg (tbV T), u21, u22, u23, u24, u25, u26, u27, u28, u29, u30, u31, u32, u33, u34, u35, u36, u37, u38, u39, u40, u41, u42, u43, u44, u45, u46, u47, u48, u49, u50, u51, u52, u53, u54, u55, u56, u57, u58, u59, u60, u61, u62, u63, u64, u65, u66, u67, u68], defers := [] } ∧ Below W2.heap.size W2 V) ?first ?rest
    case first =>
      as_aux_lemma =>
        refine wpIn_region_K (by kernel_rfl) (fun W' => (∀ j, W'.cell? ⟨w.heap.size + 1 + 1 + 1 + 1, j, none⟩ = #[Value.int .i64 a, .int .i64 b, .int .i64 xlo, .int .i64 xhi][j]?) ∧ W'.cell? ⟨W1.heap.size, a * 6 + b, none⟩ = some (.int .i64 (iAt T (a * 6 + b))) ∧ W'.cell? ⟨W1.heap.size, b * 6 + a, none⟩ = some (.int .i64 (iAt T (b * 6 + a)))) ?_
        rw [show ({ W2 with drawn := W2.drawn + 1 } : World) = Y from hY]
        clear hY
        have hS := HSS.out Y BY
        refine wpAnyK_take (fun _ => trivial) (by rfl) (i := 0) (v := ?_) rfl (by kernel_rfl) (by kernel_rfl) (by kernel_rfl) (fun _ _ _ h => by cases h.1) hS (Or.inl ⟨by rfl, ?_⟩) ?_
        rotate_left 1
        · intro w9 hw9
          obtain ⟨s0, s1, s2⟩ := hw9
          go_simp
          try with_reducible rfl
        try simp only [List.getElem_toArray, List.getElem_cons_zero, List.getElem_cons_succ, Act.put, List.setIfInBounds_toArray, List.set_cons_zero, List.set_cons_succ]
        refine wpAnyK_take (fun _ => trivial) (by rfl) (i := 1) (v := ?_) rfl (by kernel_rfl) (by kernel_rfl) (by kernel_rfl) (fun _ _ _ h => by cases h.1) hS (Or.inl ⟨by rfl, ?_⟩) ?_
        rotate_left 1
        · intro w9 hw9
          obtain ⟨s0, s1, s2⟩ := hw9
          go_simp
          try with_reducible rfl
        try simp only [List.getElem_toArray, List.getElem_cons_zero, List.getElem_cons_succ, Act.put, List.setIfInBounds_toArray, List.set_cons_zero, List.set_cons_succ]
        refine wpAnyK_take (fun _ => trivial) (by rfl) (i := 2) (v := ?_) rfl (by kernel_rfl) (by kernel_rfl) (by kernel_rfl) (fun _ _ _ h => by cases h.1) hS (Or.inl ⟨by rfl, ?_⟩) ?_
        rotate_left 1
        · intro w9 hw9
          obtain ⟨s0, s1, s2⟩ := hw9
          go_simp
          try with_reducible rfl
        try simp only [List.getElem_toArray, List.getElem_cons_zero, List.getElem_cons_succ, Act.put, List.setIfInBounds_toArray, List.set_cons_zero, List.set_cons_succ]
        refine wpAnyK_take (fun _ => trivial) (by rfl) (i := 3) (v := ?_) rfl (by kernel_rfl) (by kernel_rfl) (by kernel_rfl) (fun _ _ _ h => by cases h.1) hS (Or.inl ⟨by rfl, ?_⟩) ?_
        rotate_left 1
        · intro w9 hw9
          obtain ⟨s0, s1, s2⟩ := hw9
          go_simp
          try with_reducible rfl
        try simp only [List.getElem_toArray, List.getElem_cons_zero, List.getElem_cons_succ, Act.put, List.setIfInBounds_toArray, List.set_cons_zero, List.set_cons_succ]
        refine wpAnyK_take (fun _ => trivial) (by rfl) (i := 4) (v := ?_) rfl (by kernel_rfl) (by kernel_rfl) (by kernel_rfl) (fun _ _ _ h => by cases h.1) hS (Or.inl ⟨by rfl, ?_⟩) ?_
        rotate_left 1
        · intro w9 hw9
          obtain ⟨s0, s1, s2⟩ := hw9
          go_simp
          try with_reducible rfl
        try simp only [List.getElem_toArray, List.getElem_cons_zero, List.getElem_cons_succ, Act.put, List.setIfInBounds_toArray, List.set_cons_zero, List.set_cons_succ]
        refine wpAnyK_take (fun _ => trivial) (by rfl) (i := 5) (v := ?_) rfl (by kernel_rfl) (by kernel_rfl) (by kernel_rfl) (fun _ _ _ h => by cases h.1) hS (Or.inl ⟨by rfl, ?_⟩) ?_
        rotate_left 1
        · intro w9 hw9
          obtain ⟨s0, s1, s2⟩ := hw9
          go_simp
          try with_reducible rfl
        try simp only [List.getElem_toArray, List.getElem_cons_zero, List.getElem_cons_succ, Act.put, List.setIfInBounds_toArray, List.set_cons_zero, List.set_cons_succ]
        refine wpAnyK_take (fun _ => trivial) (by rfl) (i := 6) (v := ?_) rfl (by kernel_rfl) (by kernel_rfl) (by kernel_rfl) (fun _ _ _ h => by cases h.1) hS (Or.inl ⟨by rfl, ?_⟩) ?_
        rotate_left 1
        · intro w9 hw9
          obtain ⟨s0, s1, s2⟩ := hw9
          go_simp
          try with_reducible rfl
        try simp only [List.getElem_toArray, List.getElem_cons_zero, List.getElem_cons_succ, Act.put, List.setIfInBounds_toArray, List.set_cons_zero, List.set_cons_succ]
        refine wpAnyK_take (fun _ => trivial) (by rfl) (i := 7) (v := ?_) rfl (by kernel_rfl) (by kernel_rfl) (by kernel_rfl) (fun _ _ _ h => by cases h.1) hS (Or.inl ⟨by rfl, ?_⟩) ?_
        rotate_left 1
        · intro w9 hw9
          obtain ⟨s0, s1, s2⟩ := hw9
          go_simp
          try with_reducible rfl
        try simp only [List.getElem_toArray, List.getElem_cons_zero, List.getElem_cons_succ, Act.put, List.setIfInBounds_toArray, List.set_cons_zero, List.set_cons_succ]
        refine wpAnyK_take (fun _ => trivial) (by rfl) (i := 8) (v := ?_) rfl (by kernel_rfl) (by kernel_rfl) (by kernel_rfl) (fun _ _ _ h => by cases h.1) hS (Or.inl ⟨by rfl, ?_⟩) ?_
        rotate_left 1
        · intro w9 hw9
          obtain ⟨s0, s1, s2⟩ := hw9
          go_simp
          try with_reducible rfl
        try simp only [List.getElem_toArray, List.getElem_cons_zero, List.getElem_cons_succ, Act.put, List.setIfInBounds_toArray, List.set_cons_zero, List.set_cons_succ]
        refine wpAnyK_take (fun _ => trivial) (by rfl) (i := 9) (v := ?_) rfl (by kernel_rfl) (by kernel_rfl) (by kernel_rfl) (fun _ _ _ h => by cases h.1) hS (Or.inl ⟨by rfl, ?_⟩) ?_
        rotate_left 1
        · intro w9 hw9
          obtain ⟨s0, s1, s2⟩ := hw9
          go_simp
          try with_reducible rfl
        try simp only [List.getElem_toArray, List.getElem_cons_zero, List.getElem_cons_succ, Act.put, List.setIfInBounds_toArray, List.set_cons_zero, List.set_cons_succ]
        refine wpAnyK_take (fun _ => trivial) (by rfl) (i := 10) (v := ?_) rfl (by kernel_rfl) (by kernel_rfl) (by kernel_rfl) (fun _ _ _ h => by cases h.1) hS (Or.inl ⟨by rfl, ?_⟩) ?_
        rotate_left 1
        · intro w9 hw9
          obtain ⟨s0, s1, s2⟩ := hw9
          go_simp
          try with_reducible rfl
        try simp only [List.getElem_toArray, List.getElem_cons_zero, List.getElem_cons_succ, Act.put, List.setIfInBounds_toArray, List.set_cons_zero, List.set_cons_succ]
        refine wpAnyK_take (fun _ => trivial) (by rfl) (i := 11) (v := ?_) rfl (by kernel_rfl) (by kernel_rfl) (by kernel_rfl) (fun _ _ _ h => by cases h.1) hS (Or.inl ⟨by rfl, ?_⟩) ?_
        rotate_left 1
        · intro w9 hw9
          obtain ⟨s0, s1, s2⟩ := hw9
          go_simp
          try with_reducible rfl
        try simp only [List.getElem_toArray, List.getElem_cons_zero, List.getElem_cons_succ, Act.put, List.setIfInBounds_toArray, List.set_cons_zero, List.set_cons_succ]
        refine wpAnyK_take (fun _ => trivial) (by rfl) (i := 12) (v := ?_) rfl (by kernel_rfl) (by kernel_rfl) (by kernel_rfl) (fun _ _ _ h => by cases h.1) hS (Or.inl ⟨by rfl, ?_⟩) ?_
        rotate_left 1
        · intro w9 hw9
          obtain ⟨s0, s1, s2⟩ := hw9
          go_simp
          try with_reducible rfl
        try simp only [List.getElem_toArray, List.getElem_cons_zero, List.getElem_cons_succ, Act.put, List.setIfInBounds_toArray, List.set_cons_zero, List.set_cons_succ]
        refine wpAnyK_take (fun _ => trivial) (by rfl) (i := 13) (v := ?_) rfl (by kernel_rfl) (by kernel_rfl) (by kernel_rfl) (fun _ _ _ h => by cases h.1) hS (Or.inl ⟨by rfl, ?_⟩) ?_
        rotate_left 1
        · intro w9 hw9
          obtain ⟨s0, s1, s2⟩ := hw9
          go_simp
          try with_reducible rfl
        try simp only [List.getElem_toArray, List.getElem_cons_zero, List.getElem_cons_succ, Act.put, List.setIfInBounds_toArray, List.set_cons_zero, List.set_cons_succ]
        refine wpAnyK_take (fun _ => trivial) (by rfl) (i := 14) (v := ?_) rfl (by kernel_rfl) (by kernel_rfl) (by kernel_rfl) (fun _ _ _ h => by cases h.1) hS (Or.inl ⟨by rfl, ?_⟩) ?_
        rotate_left 1
        · intro w9 hw9
          obtain ⟨s0, s1, s2⟩ := hw9
          go_simp
          try with_reducible rfl
        try simp only [List.getElem_toArray, List.getElem_cons_zero, List.getElem_cons_succ, Act.put, List.setIfInBounds_toArray, List.set_cons_zero, List.set_cons_succ]
        refine wpAnyK_take (fun _ => trivial) (by rfl) (i := 15) (v := ?_) rfl (by kernel_rfl) (by kernel_rfl) (by kernel_rfl) (fun _ _ _ h => by cases h.1) hS (Or.inl ⟨by rfl, ?_⟩) ?_
        rotate_left 1
        · intro w9 hw9
          obtain ⟨s0, s1, s2⟩ := hw9
          go_simp
          try with_reducible rfl
        try simp only [List.getElem_toArray, List.getElem_cons_zero, List.getElem_cons_succ, Act.put, List.setIfInBounds_toArray, List.set_cons_zero, List.set_cons_succ]
        refine wpAnyK_take (fun _ => trivial) (by rfl) (i := 16) (v := ?_) rfl (by kernel_rfl) (by kernel_rfl) (by kernel_rfl) (fun _ _ _ h => by cases h.1) hS (Or.inl ⟨by rfl, ?_⟩) ?_
        rotate_left 1
        · intro w9 hw9
          obtain ⟨s0, s1, s2⟩ := hw9
          go_simp
          try with_reducible rfl
        try simp only [List.getElem_toArray, List.getElem_cons_zero, List.getElem_cons_succ, Act.put, List.setIfInBounds_toArray, List.set_cons_zero, List.set_cons_succ]
        clear hS
        refine wpAnyK_done (by kernel_rfl) ?_ _
        exact ⟨rfl, _, _, _, _, _, _, _, _, _, _, _, _, _, _, _, _, _, _, _, _, _, _, _, _, _, _, _, _, _, _, _, _, _, _, _, _, _, _, _, _, _, _, _, _, _, _, _, _, _, _, rfl, BY⟩
    case rest =>
      rintro e a' V ⟨rfl, x10, x11, u21, u22, u23, u24, u25, u26, u27, u28, u29, u30, u31, u32, u33, u34, u35, u36, u37, u38, u39, u40, u41, u42, u43, u44, u45, u46, u47, u48, u49, u50, u51, u52, u53, u54, u55, u56, u57, u58, u59, u60, u61, u62, u63, u64, u65, u66, u67, u68, ha, hV⟩
      dsimp only at ha
      subst ha
      have HDV := Lib.hid (HDW.out.later hV)
      have HYV := Lib.hid (HYW.out.below hV HYW.out.lt)
      have HV := Lib.hid hV
      have ci := HDV.out.ki.cell 0
      have cr := HDV.out.kr.cell 0
      have cc := HDV.out.kc.cell
      have li := HDV.out.ki.lt
      have lr := HDV.out.kr.lt
      have lc := HDV.out.kc.lt
      clear hV hY BY
      gi_wp2_with (refine ⟨trivial, ?_⟩; gi_at_call 29; refine CallsIn.inRound _ (callsIn_wide.2 ((HHA.out _).mono ?_)); rintro e wq ⟨rfl, rfl⟩)
      exact ⟨KeepC.of_below HV.out, HDV.out, HYV.out⟩
  case hdone =>
    rintro D W hD ⟨hD2, -⟩ hK
    have HDD := Lib.hid hD2
    have lr := hD2.ko.lt
    have cr0 := hD2.ko.cell 0
    have fr0 := hD2.ko.frozen 0
    clear hD2
    gi_wp2
    have BB := Below.setCell (p := ⟨w.heap.size + 1 + 1 + 1, 0, none⟩) HDD.out.below (by show _ ≤ w.heap.size + 1 + 1 + 1; omega) (.bool false)
    refine leave_mark (v := .bool false) ?_ (fun W' ht => ?_) (fun W' ht => ⟨rfl, ht.below (by omega) BB.size BB⟩)
    · exact (Below.heap_setCell W _ _ D (by show D ≠ w.heap.size + 1 + 1 + 1; omega)).trans hK
    · have kk := ht.blk (HDD.out.ko.set_ 0 (.bool false))
      have c3 := kk.cell 0
      simp [results, Try.results55, go_sem, c3]

end Go.Proofs.Ytcinhibmohkeiaa
