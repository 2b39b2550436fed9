/- Next of stretch (layer 4): its closure hands over the bundles in which a rod has a length. -/
import Derived.Test.YtmmgkmdfecnkdaaQa06
import Derived.Test.YtmmgkmdfecnkdaaQa20
import Derived.Test.YtmmgkmdfecnkdaaQa26
import Derived.Test.YtmmgkmdfecnkdaaQa38
import Derived.Shelf.Abstract
import Derived.Laws.EntriesVeiled
import Derived.Handy
import Derived.Deep.DrawnRows
import Derived.Deep.DeepCutAuto
import Derived.BigRegionIn
import Derived.RangeFuncCalls
namespace Go.Proofs.Ytmmgkmdfecnkdaa
open Go.RowKit
open Go.Sort (grow)
set_option linter.unusedVariables false
set_option linter.unusedSimpArgs false

def cntF {α : Type} (f : α → Bool) (xs : List α) (k : Nat) : Nat := ((xs.take k).filter f).length
theorem cntF_yes {α : Type} {f : α → Bool} {xs : List α} {k : Nat} {x : α} (h : xs[k]? = some x) (hx : f x = true) : cntF f xs (k + 1) = cntF f xs k + 1 ∧ (xs.filter f)[cntF f xs k]? = some x := by
  have hl := (List.getElem?_eq_some_iff.1 h).1
  have e : xs.filter f = (xs.take k).filter f ++ x :: (xs.drop (k + 1)).filter f := by
    have h1 := (List.getElem?_eq_some_iff.1 h).2
    have h2 := List.drop_eq_getElem_cons hl
    rw [h1] at h2
    conv => lhs; rw [← List.take_append_drop k xs, h2, List.filter_append]
    rw [List.filter_cons_of_pos hx]
  unfold cntF
  constructor
  · rw [List.take_add_one, h, List.filter_append, List.length_append]
    simp [hx]
  · rw [e, List.getElem?_append_right (Nat.le_refl _), Nat.sub_self]; rfl
theorem cntF_no {α : Type} {f : α → Bool} {xs : List α} {k : Nat} {x : α} (h : xs[k]? = some x) (hx : f x = false) : cntF f xs (k + 1) = cntF f xs k := by
  unfold cntF
  rw [List.take_add_one, h, List.filter_append, List.length_append]
  simp [hx]
theorem cntF_full {α : Type} {f : α → Bool} {xs : List α} : cntF f xs xs.length = (xs.filter f).length := by unfold cntF; rw [List.take_length]
/-- what the closure reads -/
structure NxM (g5 g9 g13 : Nat) (A : Option Addr) (m c : Nat) (hs : List Hb) (l : List Bu4) (B0 q : Nat) (n : Int) (W : World) : Prop where
  sl : BsAt4 0 0 W A m hs l
  lo : ∀ k, k < m → (∀ a, (hbAt hs k).b.A = some a → a.block < B0) ∧ (∀ a, (hbAt hs k).a.A = some a → a.block < B0)
  b5 : Blk W g5 75 #[.slice A m c]
  b9 : Blk W g9 3 #[.int .i64 q]
  b13 : Blk W g13 3 #[.int .i64 n]
theorem NxM.later {g5 g9 g13 : Nat} {A : Option Addr} {m c : Nat} {hs : List Hb} {l : List Bu4} {B0 q : Nat} {n : Int} {W W' : World} (h : NxM g5 g9 g13 A m c hs l B0 q n W) (hb : Below W.heap.size W W') : NxM g5 g9 g13 A m c hs l B0 q n W' :=
  ⟨h.sl.later hb, h.lo, h.b5.below hb h.b5.lt, h.b9.below hb h.b9.lt, h.b13.below hb h.b13.lt⟩
set_option maxRecDepth 100000 in
set_option maxHeartbeats 3200000 in
theorem nextIt4_c (g5 g9 g13 : Nat) (A : Option Addr) (m c : Nat) (hs : List Hb) (l : List Bu4) (B0 q : Nat) (n : Int) (hq : q < 4) (hm : m ≤ 90000) :
    IterO Try.prog 60 #[] #[.pointer (some ⟨g5, 0, none⟩), .pointer (some ⟨g9, 0, none⟩), .pointer (some ⟨g13, 0, none⟩)] (NxM g5 g9 g13 A m c hs l B0 q n) (l.filter fun x => x.u.at_ q == n) (AtC B0) := by
  intro ls J Jx W hM hS hX hY h0
  have HM := Lib.hid hM
  have HS := Lib.hid hS
  have HY := Lib.hid hY
  have H0 := Lib.hid h0
  have M0 := hM _ _ _ _ h0
  have HXL : Hid (l.length = m) := Lib.hid M0.sl.xl
  have c5 := M0.b5.cell
  have l5 := M0.b5.lt
  have hqB4 : decide ((q : Int) < 4) = true := decide_eq_true (by omega)
  have hqI : (q : Int) < 4 := by omega
  have HF : Hid (cntF (fun x : Bu4 => x.u.at_ q == n) l m = (l.filter fun x => x.u.at_ q == n).length) := Lib.hid (by rw [← HXL.out]; exact cntF_full)
  clear hM hS hX hY h0 M0
  obtain ⟨f, hf⟩ : ∃ f : Bu4 → Bool, (fun x => x.u.at_ q == n) = f := ⟨_, rfl⟩
  have HFX : Hid (∀ x : Bu4, f x = (x.u.at_ q == n)) := Lib.hid fun x => by rw [← hf]
  rw [hf] at HY HF ⊢
  clear hf
  show Calls Try.prog 60 #[.func (.yield ls) #[] #[], .pointer (some ⟨g5, 0, none⟩), .pointer (some ⟨g9, 0, none⟩), .pointer (some ⟨g13, 0, none⟩)] W _
  go_enter Try.func60, Try.ntmps60
  go_wp2_with fail
  clear c5
  go_loopw [9] (fun i (wr : World) => ∃ (k : Nat) (K : Nat → Prop), k ≤ m ∧ i = .int .i64 k ∧ Hid (∀ b, K b → W.heap.size ≤ b) ∧ Hid (J K (fun _ => False) (cntF f l k) wr) ∧ W.heap.size ≤ wr.heap.size) (fun i _ => m - (intOf i).toNat)
  case atStart => exact ⟨0, fun _ => False, by omega, by simp, Lib.hid (fun b h => h.elim), H0, Nat.le_refl _⟩
  case round =>
    obtain ⟨k, K, hk, rfl, HK, HJ, hz⟩ := hrel
    by_cases hlt : k < m
    · have hkB : decide ((k : Int) < m) = true := decide_eq_true (by omega)
      have vk : IntKind.i64.wrap ((k : Int) + 1) = (k : Int) + 1 := IntWalk.i64_in _ (by omega)
      have MR := HM.out _ _ _ _ HJ.out
      obtain ⟨b, off, hA, hbl, hc, hR⟩ := MR.sl.get hlt
      have hlo := MR.lo k hlt
      subst hA
      clear MR
      obtain ⟨x, hx⟩ : ∃ x, bxAt l k = x := ⟨_, rfl⟩
      have hxg : l[k]? = some x := by rw [← hx]; unfold bxAt; rw [List.getD_eq_getElem?_getD, List.getElem?_eq_getElem (by have := HXL.out; omega)]; rfl
      rw [hx] at hR
      obtain ⟨h, hh⟩ : ∃ h, hbAt hs k = h := ⟨_, rfl⟩
      rw [hh] at hR hc hlo
      have c0 := hc 0 _ rfl
      have c1 := hc 1 _ rfl
      have c2 := hc 2 _ rfl
      have c3 := hc 3 _ rfl
      have c4 := hc 4 _ rfl
      have c5 := hc 5 _ rfl
      have c6 := hc 6 _ rfl
      have c7 := hc 7 _ rfl
      rw [Nat.add_zero] at c0
      have HR := Lib.hid hR
      have HLO := Lib.hid hlo
      have HXG := Lib.hid hxg
      obtain ⟨⟨u0, u1, u2, u3⟩, bw, ⟨bA, bn, bc⟩, aw, ⟨aA, an, ac⟩⟩ := h
      simp only at c0 c1 c2 c3 c4 c5 c6 c7
      clear hc hx hh hR hlo hxg
      go_upto_region 3 with (fail)
      go_name_world Z hZ
      have BZ : Below wr.heap.size wr Z := (al1 hZ).1
      have HBX : Hid (Blk Z wr.heap.size 68 #[.int .i64 u0, .int .i64 u1, .int .i64 u2, .int .i64 u3, .int .i64 bw, .slice bA bn bc, .int .i64 aw, .slice aA an ac]) := by rw [← hZ]; exact Lib.hid (Blk.new wr _ _)
      have hzz : wr.heap.size < Z.heap.size := HBX.out.lt
      clear hZ c0 c1 c2 c3 c4 c5 c6 c7
      obtain ⟨K1, hK1⟩ : ∃ K1 : Nat → Prop, (fun b => K b ∨ (wr.heap.size ≤ b ∧ b < Z.heap.size)) = K1 := ⟨_, rfl⟩
      have hst : Stp K (fun _ => False) K1 (fun _ => False) wr Z := by rw [← hK1]; exact .below_ro BZ (fun b h => h.elim)
      have HK1 : Hid (∀ b, K1 b → W.heap.size ≤ b) := Lib.hid (by rw [← hK1]; rintro b (h | h); exact HK.out b h; omega)
      have HKX : Hid (K1 wr.heap.size) := Lib.hid (by rw [← hK1]; exact .inr ⟨Nat.le_refl _, hzz⟩)
      have HJZ := Lib.hid (HS.out _ _ _ _ _ _ _ HK.out HJ.out hst)
      have MZ := HM.out _ _ _ _ HJZ.out
      have k9 := MZ.b9.cell
      have l9 := MZ.b9.lt
      have k13 := MZ.b13.cell
      have l13 := MZ.b13.lt
      have lx := HBX.out.lt
      have kq := (HBX.out.cell q).trans (at_b4 hq)
      have HU : Hid (x.u = ⟨u0, u1, u2, u3⟩) := Lib.hid HR.out.u.symm
      have hz2 : W.heap.size ≤ Z.heap.size := by omega
      obtain ⟨y, hy⟩ : ∃ y, (⟨u0, u1, u2, u3⟩ : W4).at_ q = y := ⟨_, rfl⟩
      rw [hy] at kq
      have hfx : f x = (y == n) := by rw [HFX.out x, HU.out, hy]
      clear hK1 hst MZ HJ HK hy
      by_cases hyn : (y == n) = true
      case neg =>
        have hynB : (y == n) = false := by simpa using hyn
        have HC := Lib.hid (cntF_no HXG.out (hfx.trans hynB))
        clear hfx hyn
        go_upto_region 3 with (fail)
        have hcq := fun p : Regrown => (bcell (below_regrown Z p.d p.os)).1
        refine wp_region_quiet_below (by kernel_rfl) (by kernel_rfl) ?_
        repeat (go_big_quiet_step ((fail)))
        refine wpQuiet_nil ?_
        intro wq hq
        obtain ⟨pq, hq⟩ := hq
        have hbq : Below Z.heap.size Z wq := by rw [hq]; exact below_regrown _ _ _
        clear hq hcq pq
        obtain ⟨hcq, hfq⟩ := bcell hbq
        have zq := hbq.size
        have HJQ := Lib.hid (HS.out _ _ _ _ _ _ _ HK1.out HJZ.out (.below0 hbq (fun b h => h.elim)))
        have hz3 : W.heap.size ≤ wq.heap.size := by omega
        clear hcq hfq hbq k9 k13 kq
        go_wp2_with fail
        go_roundw
        case rel => exact ⟨k + 1, K1, by omega, by go_num, HK1, by rw [HC.out]; exact HJQ, hz3⟩
        case measure => simp [intOf]; omega
      obtain ⟨hc1, hc2⟩ := cntF_yes HXG.out (hfx.trans hyn)
      have HC := Lib.hid hc1
      have hBu : BuC B0 K1 (fun _ => False) x ⟨⟨u0, u1, u2, u3⟩, bw, ⟨bA, bn, bc⟩, aw, ⟨aA, an, ac⟩⟩ Z :=
        ⟨HR.out.u, HR.out.bw, HR.out.aw, ⟨HR.out.b.1.later BZ, fun a e => ⟨.inr (HLO.out.1 a e), fun h => h, Nat.lt_of_lt_of_le (HR.out.b.2 a e).2 BZ.size⟩⟩, ⟨HR.out.a.1.later BZ, fun a e => ⟨.inr (HLO.out.2 a e), fun h => h, Nat.lt_of_lt_of_le (HR.out.a.2 a e).2 BZ.size⟩⟩⟩
      have HJD := Lib.hid (HS.out _ _ _ _ _ _ _ HK1.out HJZ.out (.below0 (Below.drew (Below.refl _ Z)) (fun b h => h.elim)))
      obtain ⟨fn, tmps, assign, body, hy, hR⟩ := HY.out K1 (fun _ => False) (cntF f l k) x _ Z.drew HK1.out (fun b h => h.elim) hc2 HJD.out ⟨_, rfl, hBu.same (Nat.le_refl _) (fun _ _ _ _ => rfl) (fun _ h => h) (fun _ h => h.elim)⟩
      simp only [encB4] at hy
      have e0 := (HBX.out.cell 0).trans rfl
      have e1 := (HBX.out.cell 1).trans rfl
      have e2 := (HBX.out.cell 2).trans rfl
      have e3 := (HBX.out.cell 3).trans rfl
      have e4 := (HBX.out.cell 4).trans rfl
      have e5 := (HBX.out.cell 5).trans rfl
      have e6 := (HBX.out.cell 6).trans rfl
      have e7 := (HBX.out.cell 7).trans rfl
      have hS : Z.drew.cell? ⟨g9, 0, none⟩ = some (.int .i64 q) ∧ Z.drew.cell? ⟨g13, 0, none⟩ = some (.int .i64 n) ∧ Z.drew.cell? ⟨wr.heap.size, q, none⟩ = some (.int .i64 y) ∧ Z.drew.cell? ⟨wr.heap.size, 0, none⟩ = some (.int .i64 u0) ∧ Z.drew.cell? ⟨wr.heap.size, 1, none⟩ = some (.int .i64 u1) ∧ Z.drew.cell? ⟨wr.heap.size, 2, none⟩ = some (.int .i64 u2) ∧ Z.drew.cell? ⟨wr.heap.size, 3, none⟩ = some (.int .i64 u3)
          ∧ Z.drew.cell? ⟨wr.heap.size, 4, none⟩ = some (.int .i64 bw) ∧ Z.drew.cell? ⟨wr.heap.size, 5, none⟩ = some (.slice bA bn bc) ∧ Z.drew.cell? ⟨wr.heap.size, 6, none⟩ = some (.int .i64 aw) ∧ Z.drew.cell? ⟨wr.heap.size, 7, none⟩ = some (.slice aA an ac) := ⟨k9 0, k13 0, kq, e0, e1, e2, e3, e4, e5, e6, e7⟩
      clear hfx hc1 hc2 hBu k9 k13 kq e0 e1 e2 e3 e4 e5 e6 e7 HJZ
      go_upto_region 3 with (fail)
      refine (Go.wpIn_wide (n := 3)).1 ?_
      refine wpIn_region_M (by kernel_rfl) (fun W' => W'.cell? ⟨g9, 0, none⟩ = some (.int .i64 q) ∧ W'.cell? ⟨g13, 0, none⟩ = some (.int .i64 n) ∧ W'.cell? ⟨wr.heap.size, q, none⟩ = some (.int .i64 y) ∧ W'.cell? ⟨wr.heap.size, 0, none⟩ = some (.int .i64 u0) ∧ W'.cell? ⟨wr.heap.size, 1, none⟩ = some (.int .i64 u1) ∧ W'.cell? ⟨wr.heap.size, 2, none⟩ = some (.int .i64 u2) ∧ W'.cell? ⟨wr.heap.size, 3, none⟩ = some (.int .i64 u3)
          ∧ W'.cell? ⟨wr.heap.size, 4, none⟩ = some (.int .i64 bw) ∧ W'.cell? ⟨wr.heap.size, 5, none⟩ = some (.slice bA bn bc) ∧ W'.cell? ⟨wr.heap.size, 6, none⟩ = some (.int .i64 aw) ∧ W'.cell? ⟨wr.heap.size, 7, none⟩ = some (.slice aA an ac)) 9 ?_
      refine wpAnyM_take (fun _ => trivial) (by rfl) (i := 0) (v := ?_) rfl (by kernel_rfl) (by kernel_rfl) (by kernel_rfl) (by kernel_rfl) (fun _ _ _ h => h) hS (Or.inl ⟨by rfl, ?_⟩) ?_
      rotate_left 1
      · intro w9 hw9
        obtain ⟨s0, s1, s2, t0, t1, t2, t3, t4, t5, t6, t7⟩ := hw9
        go_simp
        try with_reducible rfl
      try simp only [List.getElem_toArray, List.getElem_cons_zero, Act.put, List.setIfInBounds_toArray, List.set_cons_zero, List.set_cons_succ]
      refine wpAnyM_take (fun _ => trivial) (by rfl) (i := 1) (v := ?_) rfl (by kernel_rfl) (by kernel_rfl) (by kernel_rfl) (by kernel_rfl) (fun _ _ _ h => h) hS (Or.inl ⟨by rfl, ?_⟩) ?_
      rotate_left 1
      · intro w9 hw9
        obtain ⟨s0, s1, s2, t0, t1, t2, t3, t4, t5, t6, t7⟩ := hw9
        go_simp
        try with_reducible rfl
      try simp only [List.getElem_toArray, List.getElem_cons_zero, List.getElem_cons_succ, Act.put, List.setIfInBounds_toArray, List.set_cons_zero, List.set_cons_succ]
      refine wpAnyM_take (fun _ => trivial) (by rfl) (i := 2) (v := ?_) rfl (by kernel_rfl) (by kernel_rfl) (by kernel_rfl) (by kernel_rfl) (fun _ _ _ h => h) hS (Or.inl ⟨by rfl, ?_⟩) ?_
      rotate_left 1
      · intro w9 hw9
        obtain ⟨s0, s1, s2, t0, t1, t2, t3, t4, t5, t6, t7⟩ := hw9
        go_simp
        try with_reducible rfl
      try simp only [List.getElem_toArray, List.getElem_cons_zero, List.getElem_cons_succ, Act.put, List.setIfInBounds_toArray, List.set_cons_zero, List.set_cons_succ]
      refine wpAnyM_take (fun _ => trivial) (by rfl) (i := 3) (v := ?_) rfl (by kernel_rfl) (by kernel_rfl) (by kernel_rfl) (by kernel_rfl) (fun _ _ _ h => h) hS (Or.inl ⟨by rfl, ?_⟩) ?_
      rotate_left 1
      · intro w9 hw9
        obtain ⟨s0, s1, s2, t0, t1, t2, t3, t4, t5, t6, t7⟩ := hw9
        go_simp
        try with_reducible rfl
      try simp only [List.getElem_toArray, List.getElem_cons_zero, List.getElem_cons_succ, Act.put, List.setIfInBounds_toArray, List.set_cons_zero, List.set_cons_succ]
      refine wpAnyM_take (fun _ => trivial) (by rfl) (i := 4) (v := ?_) rfl (by kernel_rfl) (by kernel_rfl) (by kernel_rfl) (by kernel_rfl) (fun _ _ _ h => h) hS (Or.inl ⟨by rfl, ?_⟩) ?_
      rotate_left 1
      · intro w9 hw9
        obtain ⟨s0, s1, s2, t0, t1, t2, t3, t4, t5, t6, t7⟩ := hw9
        go_simp
        try with_reducible rfl
      try simp only [List.getElem_toArray, List.getElem_cons_zero, List.getElem_cons_succ, Act.put, List.setIfInBounds_toArray, List.set_cons_zero, List.set_cons_succ]
      refine wpAnyM_take (fun _ => trivial) (by rfl) (i := 5) (v := ?_) rfl (by kernel_rfl) (by kernel_rfl) (by kernel_rfl) (by kernel_rfl) (fun _ _ _ h => h) hS (Or.inl ⟨by rfl, ?_⟩) ?_
      rotate_left 1
      · intro w9 hw9
        obtain ⟨s0, s1, s2, t0, t1, t2, t3, t4, t5, t6, t7⟩ := hw9
        go_simp
        try with_reducible rfl
      try simp only [List.getElem_toArray, List.getElem_cons_zero, List.getElem_cons_succ, Act.put, List.setIfInBounds_toArray, List.set_cons_zero, List.set_cons_succ]
      refine wpAnyM_take (fun _ => trivial) (by rfl) (i := 6) (v := ?_) rfl (by kernel_rfl) (by kernel_rfl) (by kernel_rfl) (by kernel_rfl) (fun _ _ _ h => h) hS (Or.inl ⟨by rfl, ?_⟩) ?_
      rotate_left 1
      · intro w9 hw9
        obtain ⟨s0, s1, s2, t0, t1, t2, t3, t4, t5, t6, t7⟩ := hw9
        go_simp
        try with_reducible rfl
      try simp only [List.getElem_toArray, List.getElem_cons_zero, List.getElem_cons_succ, Act.put, List.setIfInBounds_toArray, List.set_cons_zero, List.set_cons_succ]
      refine wpAnyM_take (fun _ => trivial) (by rfl) (i := 7) (v := ?_) rfl (by kernel_rfl) (by kernel_rfl) (by kernel_rfl) (by kernel_rfl) (fun _ _ _ h => h) hS (Or.inl ⟨by rfl, ?_⟩) ?_
      rotate_left 1
      · intro w9 hw9
        obtain ⟨s0, s1, s2, t0, t1, t2, t3, t4, t5, t6, t7⟩ := hw9
        go_simp
        try with_reducible rfl
      try simp only [List.getElem_toArray, List.getElem_cons_zero, List.getElem_cons_succ, Act.put, List.setIfInBounds_toArray, List.set_cons_zero, List.set_cons_succ]
      refine wpAnyM_take (fun _ => trivial) (by rfl) (i := 8) (v := ?_) rfl (by kernel_rfl) (by kernel_rfl) (by kernel_rfl) (by kernel_rfl) (fun _ _ _ h => h) hS (Or.inl ⟨by rfl, ?_⟩) ?_
      rotate_left 1
      · intro w9 hw9
        obtain ⟨s0, s1, s2, t0, t1, t2, t3, t4, t5, t6, t7⟩ := hw9
        go_simp
        try with_reducible rfl
      try simp only [List.getElem_toArray, List.getElem_cons_zero, List.getElem_cons_succ, Act.put, List.setIfInBounds_toArray, List.set_cons_zero, List.set_cons_succ]
      refine wpAnyM_one (i := 9) (by kernel_rfl) rfl (fun Kx hKx => ?_)
      go_simp
      refine (hR _).mono ?_
      rintro e W6 (⟨rfl, hJ6, hK6⟩ | ⟨rfl, hJ6, -⟩)
      · have HJ6 := Lib.hid hJ6
        have hz6 : W.heap.size ≤ W6.heap.size := Nat.le_trans hz2 hK6.1
        clear hJ6 hK6 hR hy hS
        refine hKx.out _ _ (fun h => by simp at h) ?_
        clear hKx Kx
        try simp only [List.getElem_toArray, List.getElem_cons_zero, List.getElem_cons_succ, Act.put, List.setIfInBounds_toArray, List.set_cons_zero, List.set_cons_succ]
        refine wpAnyM_one (i := 10) (by kernel_rfl) rfl (fun Kx hKx => ?_)
        go_simp
        refine hKx.out _ _ (fun h => by simp at h) ?_
        clear hKx Kx
        try simp only [List.getElem_toArray, List.getElem_cons_zero, List.getElem_cons_succ, Act.put, List.setIfInBounds_toArray, List.set_cons_zero, List.set_cons_succ]
        refine wpAnyM_one (i := 11) (by kernel_rfl) rfl (fun Kx hKx => ?_)
        go_simp
        refine hKx.out _ _ (fun h => by simp at h) ?_
        clear hKx Kx
        try simp only [List.getElem_toArray, List.getElem_cons_zero, List.getElem_cons_succ, Act.put, List.setIfInBounds_toArray, List.set_cons_zero, List.set_cons_succ]
        refine wpAnyM_done (by kernel_rfl) ?_ _
        go_wp2_with fail
        go_roundw
        case rel => exact ⟨k + 1, K1, by omega, by go_num, HK1, by rw [HC.out]; exact HJ6, hz6⟩
        case measure => simp [intOf]; omega
      · have HJ6 := Lib.hid hJ6
        clear hJ6 hR hy hS
        refine hKx.out _ _ (fun h => by simp at h) ?_
        clear hKx Kx
        try simp only [List.getElem_toArray, List.getElem_cons_zero, List.getElem_cons_succ, Act.put, List.setIfInBounds_toArray, List.set_cons_zero, List.set_cons_succ]
        refine wpAnyM_one (i := 10) (by kernel_rfl) rfl (fun Kx hKx => ?_)
        go_simp
        refine hKx.out _ _ (fun h => by simp at h) ?_
        clear hKx Kx
        try simp only [List.getElem_toArray, List.getElem_cons_zero, List.getElem_cons_succ, Act.put, List.setIfInBounds_toArray, List.set_cons_zero, List.set_cons_succ]
        refine wpAnyM_one (i := 11) (by kernel_rfl) rfl (fun Kx hKx => ?_)
        go_simp
        refine hKx.out _ _ (fun h => by simp at h) ?_
        clear hKx Kx
        try simp only [List.getElem_toArray, List.getElem_cons_zero, List.getElem_cons_succ, Act.put, List.setIfInBounds_toArray, List.set_cons_zero, List.set_cons_succ]
        refine wpAnyM_done (by kernel_rfl) ?_ _
        go_wp2_with fail
        first | refine bodyPost_ret (results_none rfl _ _ _) rfl ?_ | refine bodyPost_end (results_none rfl _ _ _) rfl ?_
        exact ⟨⟨_, rfl⟩, .inr HJ6.out⟩
    · obtain rfl : m = k := by omega
      have hkB : decide (((m : Nat) : Int) < m) = false := decide_eq_false (by omega)
      go_wp2_with fail
      first | refine bodyPost_ret (results_none rfl _ _ _) rfl ?_ | refine bodyPost_end (results_none rfl _ _ _) rfl ?_
      exact ⟨⟨_, rfl⟩, .inl ⟨K, fun _ => False, HK.out, by rw [← HF.out]; exact HJ.out⟩⟩

end Go.Proofs.Ytmmgkmdfecnkdaa
