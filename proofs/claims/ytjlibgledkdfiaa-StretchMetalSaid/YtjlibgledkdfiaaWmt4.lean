/- StretchMetal of the statements (layer 4), walked. -/
import Derived.Test.YtjlibgledkdfiaaAk4
import Derived.Test.YtjlibgledkdfiaaWd4
import Derived.Shelf.Abstract
import Derived.Laws.EntriesVeiled
import Derived.Handy
import Derived.Deep.DrawnRows
import Derived.Deep.DeepCutAuto
namespace Go.Proofs.Ytjlibgledkdfiaa
open Go.RowKit
open Go.Sort (grow)
set_option linter.unusedVariables false

section
variable {α : Type}
/-- the first k turned -/
def mtK (f : α → α) (l : List α) (k : Nat) : List α := (l.take k).map f ++ l.drop k
theorem mtK_zero (f : α → α) (l : List α) : mtK f l 0 = l := by simp [mtK]
theorem mtK_full (f : α → α) (l : List α) : mtK f l l.length = l.map f := by simp [mtK]
theorem mtK_len (f : α → α) (l : List α) (k : Nat) : (mtK f l k).length = l.length := by
  simp only [mtK, List.length_append, List.length_map, List.length_take, List.length_drop]
  omega
theorem mtK_at (f : α → α) (l : List α) {k : Nat} (d : α) : (mtK f l k).getD k d = l.getD k d := by
  unfold mtK
  rw [List.getD_eq_getElem?_getD, List.getD_eq_getElem?_getD]
  by_cases h : k ≤ l.length
  · rw [List.getElem?_append_right (by simp; omega)]
    simp only [List.length_map, List.length_take, Nat.min_eq_left h, Nat.sub_self]
    rw [List.getElem?_drop, Nat.add_zero]
  · rw [List.getElem?_eq_none (by simp; omega), List.getElem?_eq_none (by omega)]
theorem mtK_set (f : α → α) (l : List α) {k : Nat} (h : k < l.length) (d : α) : (mtK f l k).set k (f (l.getD k d)) = mtK f l (k + 1) := by
  unfold mtK
  rw [List.set_append_right _ _ (by simp; omega)]
  simp only [List.length_map, List.length_take, Nat.min_eq_left (Nat.le_of_lt h), Nat.sub_self]
  rw [List.drop_eq_getElem_cons h, List.set_cons_zero, List.take_add_one, List.getElem?_eq_getElem h, List.map_append, List.append_assoc, List.getD_eq_getElem?_getD, List.getElem?_eq_getElem h]
  rfl
end
def mtR (ir : Int) (x : Ro4) : Ro4 := ⟨x.lg, x.we, ir⟩
def mtE (x : Re4) : Re4 := ⟨x.wh, x.rd, x.ct, x.rs, 0, x.lo, x.hi⟩
def mtW (t : Int) (x : Re4) : Re4 := ⟨x.wh, x.rd, x.ct, x.rs, x.of, t, t⟩
/-- all rods of the cable's metal, no Off -/
def mtO (p : P4) : P4 := ⟨p.ir, p.glo, p.ghi, p.wr, p.rods.map (mtR p.ir), p.res.map mtE⟩
def mtQ (p : P4) (t : Int) : P4 := ⟨p.ir, p.glo, p.ghi, p.wr, p.rods, p.res.map (mtW t)⟩
theorem rt4_metal {ir : Int} {x : Re4} {len rod : Int} (h0 : x.of = 0) (hir : 0 ≤ ir ∧ ir ≤ 50) (hw : -50 ≤ x.lo ∧ x.lo ≤ x.hi ∧ x.hi ≤ 50) : rt4 ir ir x len rod = decide (len = sy4 x rod) := by
  have hk : ∀ t, -50 ≤ t ∧ t ≤ 50 → (ok4t ir ir len (sy4 x rod) x.of t = true ↔ len = sy4 x rod) := fun t ht => by
    have b := mul_bd2 hir ht (by omega)
    unfold ok4t dt4
    rw [h0, ← Int.sub_mul]
    generalize sy4 x rod = s
    generalize ir * t = e at b
    simp only [Bool.and_eq_true, decide_eq_true_eq]
    constructor
    · rintro ⟨h1, h2⟩
      have h3 : (len - s) * (1000000 + e) = 0 := by omega
      rcases Int.mul_eq_zero.1 h3 with h | h <;> omega
    · intro h
      subst h
      simp
  rw [Bool.eq_iff_iff, decide_eq_true_eq]
  unfold rt4
  rw [List.any_eq_true]
  constructor
  · rintro ⟨t, ht, h⟩
    have := ups_mem.1 ht
    exact (hk t (by omega)).1 h
  · intro h
    exact ⟨x.lo, ups_mem.2 (by omega), (hk x.lo (by omega)).2 h⟩
theorem roAt_map {f : Ro4 → Ro4} {l : List Ro4} {k : Nat} (h : k < l.length) : roAt (l.map f) k = f (roAt l k) := by
  unfold roAt
  rw [List.getD_eq_getElem?_getD, List.getD_eq_getElem?_getD, List.getElem?_map, List.getElem?_eq_getElem h]; rfl
theorem reAt_map {f : Re4 → Re4} {l : List Re4} {k : Nat} (h : k < l.length) : reAt (l.map f) k = f (reAt l k) := by
  unfold reAt
  rw [List.getD_eq_getElem?_getD, List.getD_eq_getElem?_getD, List.getElem?_map, List.getElem?_eq_getElem h]; rfl
theorem wk4_eq_of {p q : P4} {wh : Int} {u : W4} {l : Int} : ∀ {k : Nat}, (∀ j, j < k → (reAt q.res j).wh = (reAt p.res j).wh ∧ rg4 q u l j = rg4 p u l j) → wk4 q wh u l k = wk4 p wh u l k
  | 0, _ => rfl
  | k + 1, h => by
    have ih := wk4_eq_of (p := p) (q := q) (wh := wh) (u := u) (l := l) (k := k) (fun j hj => h j (by omega))
    obtain ⟨h1, h2⟩ := h k (by omega)
    rw [wk4_succ, wk4_succ, h1, h2, ih]
/-- temperatures do not matter -/
theorem metal_same {p : P4} {t : Int} (ho : ck4 (mtO p) = true) (hq : ck4 (mtQ (mtO p) t) = true) : Same4 (mtO p) (mtQ (mtO p) t) := by
  have ok := ok4_of ho rfl rfl
  have ok2 := ok4_of hq rfl rfl
  refine ⟨rfl, rfl, rfl, by simp [mtQ], fun wh u l => ?_⟩
  unfold wr4
  rw [show (mtQ (mtO p) t).res.length = (mtO p).res.length by simp [mtQ]]
  symm
  refine wk4_eq_of fun j hj => ?_
  have hjp : j < p.res.length := by simpa [mtO] using hj
  have r1 : reAt (mtO p).res j = mtE (reAt p.res j) := reAt_map hjp
  have r2 : reAt (mtQ (mtO p) t).res j = mtW t (mtE (reAt p.res j)) := by
    rw [show (mtQ (mtO p) t).res = (mtO p).res.map (mtW t) from rfl, reAt_map hj, r1]
  have k1 := ok.re j hj
  have k2 := ok2.re j (by simpa [mtQ] using hj)
  rw [r1] at k1
  rw [r2] at k2
  refine ⟨by rw [r1, r2]; rfl, ?_⟩
  unfold rg4
  rw [r1, r2, show (mtQ (mtO p) t).rods = (mtO p).rods from rfl, show (mtQ (mtO p) t).ir = (mtO p).ir from rfl]
  have hrd : (mtE (reAt p.res j)).rd.toNat < p.rods.length := by have := k1.2.1; simp only [mtO, List.length_map] at this; omega
  have hgr : (roAt (mtO p).rods (mtE (reAt p.res j)).rd.toNat).gr = (mtO p).ir := by
    rw [show (mtO p).rods = p.rods.map (mtR p.ir) from rfl, roAt_map hrd]; rfl
  rw [show (mtW t (mtE (reAt p.res j))).rd = (mtE (reAt p.res j)).rd from rfl, hgr]
  rw [rt4_metal rfl ok.ir k1.2.2.2.2.2, rt4_metal rfl ok.ir k2.2.2.2.2.2]
  rfl
set_option maxRecDepth 100000 in
set_option maxHeartbeats 6400000 in
theorem strmetal4_c (Ar : Option Addr) (nr cr : Nat) (Ad : Option Addr) (nd cd : Nat) (p : P4) (t : Int) (w : World) (HM : MemP Ar nr Ad nd p w) (h1 : nr * 24 ≤ 140737488351232) (h2 : nd * 56 ≤ 140737488351232) :
    Calls Try.prog 5 #[.agg #[.int .i64 p.ir, .int .i64 p.glo, .int .i64 p.ghi, .slice Ar nr cr, .slice Ad nd cd, .int .i64 p.wr], .int .i64 t] w fun e w' => e = .returned (.bool true) ∧ Below w.heap.size w w' := by
  have HCP := Lib.hid (fun V (hV : Below w.heap.size w V) => Copy4_c Ar nr cr Ad nd cd p V (by omega) (by omega) (HM.later hV))
  have hr := HM.hr.1
  have hd := HM.hd.1
  have HCO := Lib.hid (fun A1 c1 A2 c2 V (H : MemP A1 nr A2 nd (mtO p) V) => Copy4_c A1 nr c1 A2 nd c2 (mtO p) V (by omega) (by omega) H)
  have HRO := Lib.hid (fun A1 c1 A2 c2 V (H : MemP A1 nr A2 nd (mtO p) V) => ready4_c A1 nr c1 A2 nd c2 (mtO p) V H)
  have HRQ := Lib.hid (fun A1 c1 A2 c2 V (H : MemP A1 nr A2 nd (mtQ (mtO p) t) V) => ready4_c A1 nr c1 A2 nd c2 (mtQ (mtO p) t) V H)
  have HAL := Lib.hid (fun (h : ready4 (mtO p) = true) (h' : ready4 (mtQ (mtO p) t) = true) A1 c1 A2 c2 B1 d1 B2 d2 V (H : MemP A1 nr A2 nd (mtO p) V) (H' : MemP B1 nr B2 nd (mtQ (mtO p) t) V) => alike4_c A1 nr c1 A2 nd c2 (mtO p) B1 nr d1 B2 nd d2 (mtQ (mtO p) t) V H H' h h' (metal_same (ready4_iff h).ck (ready4_iff h').ck))
  have HMO := Lib.hid (fun base A1 c1 A2 c2 V (h : PuOwn base A1 nr c1 A2 nd c2 (p.rods.map (mtR p.ir)) (p.res.map mtE) V) => (PuOwn.mem (p := mtO p) h (by simp [mtO, hr]) (by simp [mtO, hd])))
  have HMQ := Lib.hid (fun base A1 c1 A2 c2 V (h : PuOwn base A1 nr c1 A2 nd c2 (p.rods.map (mtR p.ir)) ((p.res.map mtE).map (mtW t)) V) => (PuOwn.mem (p := mtQ (mtO p) t) h (by simp [mtO, mtQ, hr]) (by simp [mtO, mtQ, hd])))
  obtain ⟨ro, hro⟩ : ∃ b, ready4 (mtO p) = b := ⟨_, rfl⟩
  obtain ⟨rq, hrq⟩ : ∃ b, ready4 (mtQ (mtO p) t) = b := ⟨_, rfl⟩
  rw [hro] at HRO HAL
  rw [hrq] at HRQ HAL
  have HRL := Lib.hid hr
  have HDL := Lib.hid hd
  clear HM hr hd hro hrq
  obtain ⟨ir, glo, ghi, wrg, rods, res⟩ := p
  simp only [mtO, mtQ] at HCP HCO HRO HRQ HAL HMO HMQ HRL HDL ⊢
  go_enter Try.func5, Try.ntmps5
  go_upto_region 1 with (fail)
  go_name_world X hX
  have BX : Below w.heap.size w X := (al1 hX).1
  have zX := (al1 hX).2
  have qX := (al1_0 hX).2.1
  have lX := (al1_0 hX).1
  clear hX
  go_upto_region 2 with (go_at_call 11; refine (HCP.out X BX).mono ?_; (rintro e w1 ⟨A1, k1, A2, k2, rfl, hO, hb1⟩); (have z1 := hb1.size); (have B1 := BX.trans (hb1.mono BX.size)); (have HO1 := Lib.hid hO); clear hb1 hO qX lX)
  go_name_world Y hY
  have bY : Below w1.heap.size w1 Y := (al1 hY).1
  have HOY := Lib.hid (HO1.out.later bY)
  have BY := B1.trans (bY.mono B1.size)
  have HBY : Hid (Blk Y w1.heap.size 27 #[.int .i64 ir, .int .i64 glo, .int .i64 ghi, .slice A1 nr k1, .slice A2 nd k2, .int .i64 wrg]) := by rw [← hY]; exact Lib.hid (Blk.new _ _ _)
  have HOL : Hid (∀ k, ((Value.slice A1 nr k1).ownBlock = some k ∨ (Value.slice A2 nd k2).ownBlock = some k) → X.heap.size ≤ k ∧ k < w1.heap.size) := Lib.hid (fun k h => HO1.out.blocks k h)
  have hX1 : w.heap.size < X.heap.size := by omega
  have zY := bY.size
  clear hY bY zX
  go_wp2_with fail
  go_loopw [6] (fun i (wr : World) => ∃ k : Nat, k ≤ nr ∧ i = .int .i64 k ∧ Hid (PuOwn X.heap.size A1 nr k1 A2 nd k2 (mtK (mtR ir) rods k) res wr) ∧ Hid (Blk wr w1.heap.size 27 #[.int .i64 ir, .int .i64 glo, .int .i64 ghi, .slice A1 nr k1, .slice A2 nd k2, .int .i64 wrg]) ∧ Below w.heap.size w wr) (fun i _ => nr - (intOf i).toNat)
  case atStart => exact ⟨0, by omega, by simp, by show PuOwn _ _ _ _ _ _ _ _ _ _; rw [mtK_zero]; exact HOY.out, HBY, BY⟩
  case round =>
    obtain ⟨k, hk, rfl, HO, HB, hb⟩ := hrel
    have kO := HB.out.cell
    have lO := HB.out.lt
    by_cases hlt : k < nr
    · have hqB : decide ((k : Int) < nr) = true := by simp; omega
      have vk : IntKind.i64.wrap ((k : Int) + 1) = (k : Int) + 1 := IntWalk.i64_in _ (by omega)
      obtain ⟨g, k1', e1, hg0, hg1⟩ := HO.out.hp.form (by omega)
      cases e1
      obtain ⟨c0, c1, c2, fz, lg⟩ := HO.out.rodC ((mtK_len _ _ _).trans HRL.out) hlt
      have HGB := (HOL.out g (.inl rfl))
      have hE : roAt (mtK (mtR ir) rods k) k = roAt rods k := mtK_at _ _ _
      rw [hE] at c0 c1 c2
      have HN := Lib.hid (HO.out.setRod ((mtK_len _ _ _).trans HRL.out) hlt (j := 2) (by omega) (mtR ir (roAt rods k)) (.int .i64 ir) (by rw [hE]; rfl))
      have hS : (mtK (mtR ir) rods k).set k (mtR ir (roAt rods k)) = mtK (mtR ir) rods (k + 1) := mtK_set _ _ (by rw [HRL.out]; exact hlt) _
      rw [hS] at HN
      have HBN := Lib.hid (HB.out.far (p := ⟨g, k * 3 + 2, none⟩) (by show w1.heap.size ≠ g; omega) (.int .i64 ir))
      have hbn := hb.setCell (p := ⟨g, k * 3 + 2, none⟩) (by show w.heap.size ≤ g; omega) (.int .i64 ir)
      obtain ⟨⟨a0, a1, a2⟩, hro⟩ : ∃ y, roAt rods k = y := ⟨_, rfl⟩
      rw [hro] at c0 c1 c2
      simp only at c0 c1 c2
      clear hE hS hro
      go_wp2_with fail
      go_roundw
      case rel => exact ⟨k + 1, by omega, by go_num, HN, HBN, hbn⟩
      case measure => simp [intOf]; omega
    · obtain rfl : nr = k := by omega
      have hqB : decide (((nr : Nat) : Int) < nr) = false := by simp
      have hfull : mtK (mtR ir) rods nr = rods.map (mtR ir) := by rw [← HRL.out]; exact mtK_full _ _
      rw [hfull] at HO
      clear hfull
      go_wp2_with fail
      obtain ⟨wo, hwo⟩ : ∃ wo : World, wo = wr := ⟨_, rfl⟩
      rw [← hwo] at HO HB hb ⊢
      clear kO lO hwo wr
      go_loopw [7] (fun i (wr : World) => ∃ k : Nat, k ≤ nd ∧ i = .int .i64 k ∧ Hid (PuOwn X.heap.size A1 nr k1 A2 nd k2 (rods.map (mtR ir)) (mtK mtE res k) wr) ∧ Hid (Blk wr w1.heap.size 27 #[.int .i64 ir, .int .i64 glo, .int .i64 ghi, .slice A1 nr k1, .slice A2 nd k2, .int .i64 wrg]) ∧ Below w.heap.size w wr) (fun i _ => nd - (intOf i).toNat)
      case atStart => exact ⟨0, by omega, by simp, by show PuOwn _ _ _ _ _ _ _ _ _ _; rw [mtK_zero]; exact HO.out, HB, hb⟩
      case round =>
        obtain ⟨k, hk2, rfl, HO2, HB2, hb2⟩ := hrel
        have kO := HB2.out.cell
        have lO := HB2.out.lt
        by_cases hlt2 : k < nd
        · have hqB2 : decide ((k : Int) < nd) = true := by simp; omega
          have vk : IntKind.i64.wrap ((k : Int) + 1) = (k : Int) + 1 := IntWalk.i64_in _ (by omega)
          obtain ⟨g, k2', e1, hg0, hg1⟩ := HO2.out.hl.form (by omega)
          cases e1
          obtain ⟨c0, c1, c2, c3, c4, c5, c6, fz, lg⟩ := HO2.out.reC ((mtK_len _ _ _).trans HDL.out) hlt2
          have HGB := (HOL.out g (.inr rfl))
          have hE : reAt (mtK mtE res k) k = reAt res k := mtK_at _ _ _
          rw [hE] at c0 c1 c2 c3 c4 c5 c6
          have HN := Lib.hid (HO2.out.setRe ((mtK_len _ _ _).trans HDL.out) hlt2 (j := 4) (by omega) (mtE (reAt res k)) (.int .i64 0) (by rw [hE]; rfl))
          have hS : (mtK mtE res k).set k (mtE (reAt res k)) = mtK mtE res (k + 1) := mtK_set _ _ (by rw [HDL.out]; exact hlt2) _
          rw [hS] at HN
          have HBN := Lib.hid (HB2.out.far (p := ⟨g, k * 7 + 4, none⟩) (by show w1.heap.size ≠ g; omega) (.int .i64 0))
          have hbn := hb2.setCell (p := ⟨g, k * 7 + 4, none⟩) (by show w.heap.size ≤ g; omega) (.int .i64 0)
          obtain ⟨⟨a0, a1, a2, a3, a4, a5, a6⟩, hre⟩ : ∃ y, reAt res k = y := ⟨_, rfl⟩
          rw [hre] at c0 c1 c2 c3 c4 c5 c6
          simp only at c0 c1 c2 c3 c4 c5 c6
          clear hE hS hre
          go_wp2_with fail
          go_roundw
          case rel => exact ⟨k + 1, by omega, by go_num, HN, HBN, hbn⟩
          case measure => simp [intOf]; omega
        · obtain rfl : nd = k := by omega
          have hqB2 : decide (((nd : Nat) : Int) < nd) = false := by simp
          have hfull2 : mtK mtE res nd = res.map mtE := by rw [← HDL.out]; exact mtK_full _ _
          rw [hfull2] at HO2
          clear hfull2
          obtain ⟨wv, hwv⟩ : ∃ wv : World, wv = wr := ⟨_, rfl⟩
          rw [← hwv] at HO2 HB2 hb2 kO lO ⊢
          clear hwv wr
          have HMO2 := Lib.hid (HMO.out _ A1 k1 A2 k2 wv HO2.out)
          go_upto_region 11 with (go_at_call 11; refine (HCO.out A1 k1 A2 k2 wv HMO2.out).mono ?_; (rintro e w5 ⟨B1', d1, B2', d2, rfl, hO, hb5⟩); (have z5 := hb5.size); (have B5 := hb2.trans (hb5.mono hb2.size)); (have HO5 := Lib.hid (HO2.out.later hb5)); (have HB5 := Lib.hid (HB2.out.below hb5 HB2.out.lt)); (have HQ5 := Lib.hid hO); clear hb5 hO kO lO)
          go_name_world Y2 hY
          have bY : Below w5.heap.size w5 Y2 := (al1 hY).1
          have HQY := Lib.hid (HQ5.out.later bY)
          have HOY2 := Lib.hid (HO5.out.later bY)
          have HBY2 := Lib.hid (HB5.out.below bY HB5.out.lt)
          have BY2 := B5.trans (bY.mono B5.size)
          have HCY : Hid (Blk Y2 w5.heap.size 27 #[.int .i64 ir, .int .i64 glo, .int .i64 ghi, .slice B1' nr d1, .slice B2' nd d2, .int .i64 wrg]) := by rw [← hY]; exact Lib.hid (Blk.new _ _ _)
          have HQL : Hid (∀ k, ((Value.slice B1' nr d1).ownBlock = some k ∨ (Value.slice B2' nd d2).ownBlock = some k) → wv.heap.size ≤ k ∧ k < w5.heap.size) := Lib.hid (fun k h => HQ5.out.blocks k h)
          have hw1v : w1.heap.size < wv.heap.size := HB2.out.lt
          clear hY bY
          go_wp2_with fail
          go_loopw [9] (fun i (wr : World) => ∃ k : Nat, k ≤ nd ∧ i = .int .i64 k ∧ Hid (PuOwn wv.heap.size B1' nr d1 B2' nd d2 (rods.map (mtR ir)) (mtK (mtW t) (res.map mtE) k) wr) ∧ Hid (PuOwn X.heap.size A1 nr k1 A2 nd k2 (rods.map (mtR ir)) (res.map mtE) wr) ∧ Hid (Blk wr w1.heap.size 27 #[.int .i64 ir, .int .i64 glo, .int .i64 ghi, .slice A1 nr k1, .slice A2 nd k2, .int .i64 wrg]) ∧ Hid (Blk wr w5.heap.size 27 #[.int .i64 ir, .int .i64 glo, .int .i64 ghi, .slice B1' nr d1, .slice B2' nd d2, .int .i64 wrg]) ∧ Below w.heap.size w wr) (fun i _ => nd - (intOf i).toNat)
          case atStart => exact ⟨0, by omega, by simp, by show PuOwn _ _ _ _ _ _ _ _ _ _; rw [mtK_zero]; exact HQY.out, HOY2, HBY2, HCY, BY2⟩
          case round =>
            obtain ⟨k, hk3, rfl, HQ3, HO3, HB3, HC3, hb3⟩ := hrel
            have kO := HC3.out.cell
            have lO := HC3.out.lt
            have hml : (res.map mtE).length = nd := by rw [List.length_map]; exact HDL.out
            by_cases hlt3 : k < nd
            · have hqB3 : decide ((k : Int) < nd) = true := by simp; omega
              have vk : IntKind.i64.wrap ((k : Int) + 1) = (k : Int) + 1 := IntWalk.i64_in _ (by omega)
              obtain ⟨g, d2', e1, hg0, hg1⟩ := HQ3.out.hl.form (by omega)
              cases e1
              obtain ⟨c0, c1, c2, c3, c4, c5, c6, fz, lg⟩ := HQ3.out.reC ((mtK_len _ _ _).trans hml) hlt3
              have HGB := (HQL.out g (.inr rfl))
              have hE : reAt (mtK (mtW t) (res.map mtE) k) k = reAt (res.map mtE) k := mtK_at _ _ _
              rw [hE] at c0 c1 c2 c3 c4 c5 c6
              obtain ⟨⟨a0, a1, a2, a3, a4, a5, a6⟩, hre⟩ : ∃ y, reAt (res.map mtE) k = y := ⟨_, rfl⟩
              rw [hre] at c0 c1 c2 c3 c4 c5 c6 hE
              simp only at c0 c1 c2 c3 c4 c5 c6
              have hN1 := HQ3.out.setRe ((mtK_len _ _ _).trans hml) hlt3 (j := 5) (by omega) ⟨a0, a1, a2, a3, a4, t, a6⟩ (.int .i64 t) (by rw [hE]; rfl)
              have hl1 : ((mtK (mtW t) (res.map mtE) k).set k ⟨a0, a1, a2, a3, a4, t, a6⟩).length = nd := by rw [List.length_set]; exact (mtK_len _ _ _).trans hml
              have hE2 : reAt ((mtK (mtW t) (res.map mtE) k).set k ⟨a0, a1, a2, a3, a4, t, a6⟩) k = ⟨a0, a1, a2, a3, a4, t, a6⟩ := by rw [reAt_set (by rw [mtK_len, hml]; exact hlt3), if_pos rfl]
              have hN2 := hN1.setRe hl1 hlt3 (j := 6) (by omega) ⟨a0, a1, a2, a3, a4, t, t⟩ (.int .i64 t) (by rw [hE2]; rfl)
              have hS : (mtK (mtW t) (res.map mtE) k).set k ⟨a0, a1, a2, a3, a4, t, t⟩ = mtK (mtW t) (res.map mtE) (k + 1) := by
                have := mtK_set (mtW t) (res.map mtE) (k := k) (by rw [hml]; exact hlt3) ⟨0, 0, 0, 0, 0, 0, 0⟩
                rw [← this]
                show _ = (mtK (mtW t) (res.map mtE) k).set k (mtW t (reAt (res.map mtE) k))
                rw [hre]; rfl
              rw [List.set_set, hS] at hN2
              have HN := Lib.hid hN2
              have hof : ∀ q, ((Value.slice A1 nr k1).ownBlock = some q ∨ (Value.slice A2 nd k2).ownBlock = some q) → q ≠ g := fun q hq => by have := (HOL.out q hq).2; omega
              have HON := Lib.hid ((HO3.out.far (p := ⟨g, k * 7 + 5, none⟩) (.int .i64 t) hof).far (p := ⟨g, k * 7 + 6, none⟩) (.int .i64 t) hof)
              have n1 : w1.heap.size ≠ g := by omega
              have n5 : w5.heap.size ≠ g := by omega
              have HBN := Lib.hid ((HB3.out.far (p := ⟨g, k * 7 + 5, none⟩) n1 (.int .i64 t)).far (p := ⟨g, k * 7 + 6, none⟩) n1 (.int .i64 t))
              have HCN := Lib.hid ((HC3.out.far (p := ⟨g, k * 7 + 5, none⟩) n5 (.int .i64 t)).far (p := ⟨g, k * 7 + 6, none⟩) n5 (.int .i64 t))
              have hbn := (hb3.setCell (p := ⟨g, k * 7 + 5, none⟩) (by show w.heap.size ≤ g; omega) (.int .i64 t)).setCell (p := ⟨g, k * 7 + 6, none⟩) (by show w.heap.size ≤ g; omega) (.int .i64 t)
              clear hE hE2 hS hre hN1 hN2 hl1 hof hml n1 n5
              go_wp2_with fail
              go_roundw
              case rel => exact ⟨k + 1, by omega, by go_num, HN, HON, HBN, HCN, hbn⟩
              case measure => simp [intOf]; omega
            · obtain rfl : nd = k := by omega
              have hqB3 : decide (((nd : Nat) : Int) < nd) = false := by simp
              have hfull3 : mtK (mtW t) (res.map mtE) nd = (res.map mtE).map (mtW t) := by
                have := mtK_full (mtW t) (res.map mtE)
                rwa [hml] at this
              rw [hfull3] at HQ3
              clear hfull3 hml
              obtain ⟨Z, hZ⟩ : ∃ Z : World, Z = wr := ⟨_, rfl⟩
              rw [← hZ] at HQ3 HO3 HB3 HC3 hb3 kO lO ⊢
              clear hZ wr
              have HMO3 := Lib.hid (HMO.out _ A1 k1 A2 k2 Z HO3.out)
              have HMQ3 := Lib.hid (HMQ.out _ B1' d1 B2' d2 Z HQ3.out)
              have jO := HB3.out.cell
              have nO := HB3.out.lt
              cases ro
              · go_wp2_with (first | (go_at_call 12; refine (HRO.out A1 k1 A2 k2 Z HMO3.out).mono ?_; (rintro e w6 ⟨rfl, hb6⟩); (have B6 := hb3.trans (hb6.mono hb3.size)); clear hb6 kO lO jO nO) | (go_at_call 13; refine (works4_c w6).mono ?_; (rintro e w9 ⟨rfl, hb9⟩); (have B9 := B6.trans (hb9.mono B6.size)); clear hb9))
                go_ret
                exact ⟨ret_bool (by first | rfl | simp), B9⟩
              cases rq
              · go_wp2_with (first | (go_at_call 12; first | (with_reducible refine (HRO.out A1 k1 A2 k2 Z HMO3.out).mono ?_; (rintro e w6 ⟨rfl, hb6⟩); (have B6 := hb3.trans (hb6.mono hb3.size)); (have HM6 := Lib.hid (HMQ3.out.later hb6)); (have HC6 := Lib.hid (HC3.out.below hb6 HC3.out.lt)); (have k6 := HC6.out.cell); (have l6 := HC6.out.lt); clear hb6 kO lO jO nO) | (with_reducible refine (HRQ.out B1' d1 B2' d2 w6 HM6.out).mono ?_; (rintro e w7 ⟨rfl, hb7⟩); (have B7 := B6.trans (hb7.mono B6.size)); clear hb7 k6 l6)) | (go_at_call 13; refine (works4_c w7).mono ?_; (rintro e w9 ⟨rfl, hb9⟩); (have B9 := B7.trans (hb9.mono B7.size)); clear hb9))
                go_ret
                exact ⟨ret_bool (by first | rfl | simp), B9⟩
              have HAL2 := Lib.hid (HAL.out rfl rfl)
              go_wp2_with (first | (go_at_call 12; first | (with_reducible refine (HRO.out A1 k1 A2 k2 Z HMO3.out).mono ?_; (rintro e w6 ⟨rfl, hb6⟩); (have B6 := hb3.trans (hb6.mono hb3.size)); (have HM6 := Lib.hid (HMQ3.out.later hb6)); (have HN6 := Lib.hid (HMO3.out.later hb6)); (have HC6 := Lib.hid (HC3.out.below hb6 HC3.out.lt)); (have HB6 := Lib.hid (HB3.out.below hb6 HB3.out.lt)); (have k6 := HC6.out.cell); (have l6 := HC6.out.lt); clear hb6 kO lO jO nO) | (with_reducible refine (HRQ.out B1' d1 B2' d2 w6 HM6.out).mono ?_; (rintro e w7 ⟨rfl, hb7⟩); (have B7 := B6.trans (hb7.mono B6.size)); (have HM7 := Lib.hid (HM6.out.later hb7)); (have HN7 := Lib.hid (HN6.out.later hb7)); (have HC7 := Lib.hid (HC6.out.below hb7 HC6.out.lt)); (have HB7 := Lib.hid (HB6.out.below hb7 HB6.out.lt)); (have k7 := HC7.out.cell); (have l7 := HC7.out.lt); (have j7 := HB7.out.cell); (have n7 := HB7.out.lt); clear hb7 k6 l6)) | (go_at_call 19; refine (HAL2.out A1 k1 A2 k2 B1' d1 B2' d2 w7 HN7.out HM7.out).mono ?_; (rintro e w8 ⟨rfl, hb8⟩); (have B8 := B7.trans (hb8.mono B7.size)); clear hb8 k7 l7 j7 n7) | (go_at_call 13; refine (works4_c w8).mono ?_; (rintro e w9 ⟨rfl, hb9⟩); (have B9 := B8.trans (hb9.mono B8.size)); clear hb9))
              go_ret
              exact ⟨ret_bool (by first | rfl | simp), B9⟩

end Go.Proofs.Ytjlibgledkdfiaa
