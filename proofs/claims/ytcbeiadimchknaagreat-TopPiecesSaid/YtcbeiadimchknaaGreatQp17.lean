/- fewest of orders (layer 8): the memory, and its closure. -/
import Derived.Test.YtcbeiadimchknaaGreatQp15
import Derived.Test.YtcbeiadimchknaaGreatQp16
import Derived.Shelf.Abstract
import Derived.Laws.EntriesVeiled
import Derived.Handy
import Derived.Deep.DrawnRows
import Derived.Deep.DeepCutAuto
import Derived.BigRegionIn
import Derived.Shelf.RegionOpen
import Derived.Maps.Own
import Derived.Maps.OwnOps
import Derived.Maps.OwnSet
import Derived.Maps.Views
import Derived.WalkArith
namespace Go.Proofs.YtcbeiadimchknaaGreat
open Go.RowKit Go.Maps
open Go.Sort (grow)
set_option linter.unusedVariables false
set_option linter.unusedSimpArgs false

theorem keyed8 : Keyed Tryz.prog 3 := int_keyed Tryz.underlying3
theorem key8 {x : Int} (h : -100000 ≤ x ∧ x ≤ 200000) : keyOf Tryz.prog 3 (.int .i64 x) = some (.int .i64 x) := keyOf_int_mk Tryz.underlying3 (WalkArith.wf_i64 (by omega))
theorem keyLit8 (x : Int) : WideAt.IsKeyLit (.int .i64 x) := by first | trivial | (simp [WideAt.IsKeyLit])
/-- a map reads as a set of numbers -/
def KeyD8 (D : DataW Unit) (f : Int → Bool) : Prop := IsMap D ∧ ∀ x, has D (.int .i64 x) = f x
theorem KeyD8.made {f : Int → Bool} (h : ∀ x, f x = false) : KeyD8 (.map []) f := ⟨isMap_empty, fun x => by rw [h]; rfl⟩
theorem KeyD8.put {D : DataW Unit} {f g : Int → Bool} (h : KeyD8 D f) {x : Int} {d : DataW Unit} (h2 : ∀ y, g y = (f y || y == x)) : KeyD8 (D.put (.int .i64 x) d) g := by
  refine ⟨h.1.put _ _, fun y => ?_⟩
  rw [h2]
  by_cases e : y = x
  · subst e; rw [has_put_same h.1 (keyLit8 y)]; simp
  · rw [has_put_other (fun h => e (by injection h)), h.2 y, show (y == x) = false by simpa using e, Bool.or_false]
theorem KeyD8.del {D : DataW Unit} {f g : Int → Bool} (h : KeyD8 D f) {x : Int} (h2 : ∀ y, g y = (f y && !(y == x))) : KeyD8 (D.del (.int .i64 x)) g := by
  refine ⟨h.1.del _, fun y => ?_⟩
  rw [h2]
  by_cases e : y = x
  · subst e; rw [has_del_same]; simp
  · rw [has_del_other (fun h => e (by injection h)), h.2 y, show (y == x) = false by simpa using e]; simp
theorem KeyD8.congr {D : DataW Unit} {f g : Int → Bool} (h : KeyD8 D f) (h2 : ∀ y, g y = f y) : KeyD8 D g := ⟨h.1, fun y => by rw [h.2, h2]⟩
/-- what fewest has found -/
structure Fw8 where
  fo : Bool
  pl : List Int
  nd : Int → Bool
/-- the stocks of a set that p uses, of the first k ones -/
def fwD (p : List Int) (n0 : Int → Bool) (k : Nat) (y : Int) : Bool := n0 y && !(decide (0 ≤ y ∧ y < k) && decide (iAt p y.toNat < 0))
def fwA (nk : Nat) (y : Int) : Bool := decide (0 ≤ y ∧ y < nk)
theorem fwD_neg {p : List Int} {n0 : Int → Bool} {k : Nat} (h : iAt p k < 0) (y : Int) : fwD p n0 (k + 1) y = (fwD p n0 k y && !(y == (k : Int))) := by
  unfold fwD
  by_cases e : y = (k : Int)
  · subst e
    simp [h]
    intro _
    omega
  · rw [show (y == (k : Int)) = false by simpa using e, show decide (0 ≤ y ∧ y < ((k + 1 : Nat) : Int)) = decide (0 ≤ y ∧ y < (k : Int)) from by congr 1; apply propext; omega]
    simp
theorem fwD_pos {p : List Int} {n0 : Int → Bool} {k : Nat} (h : ¬ iAt p k < 0) (y : Int) : fwD p n0 (k + 1) y = fwD p n0 k y := by
  unfold fwD
  by_cases e : y = (k : Int)
  · subst e
    simp [h]
  · rw [show decide (0 ≤ y ∧ y < ((k + 1 : Nat) : Int)) = decide (0 ≤ y ∧ y < (k : Int)) from by congr 1; apply propext; omega]
def fwS (kn : List Int → Bool) (nk : Nat) (s : Fw8) (p : List Int) : Fw8 :=
  if (s.fo && decide (usK s.pl s.pl.length < usK p nk)) || !(kn p) then s
  else if !s.fo || decide (usK p nk < usK s.pl s.pl.length) then ⟨true, p, fwD p (fwA nk) nk⟩
  else ⟨true, s.pl, fwD p s.nd nk⟩
/-- the memory while fewest asks for all plans; X: behind the boxes, g: out, g + 1: found -/
structure FwM (X : World) (g nk : Nat) (s : Fw8) (mo : Option Nat) (W : World) : Prop where
  below : Below g X W
  fbx : Blk W (g + 1) 4 #[.bool s.fo]
  bst : ∃ PA pc, Blk W g 86 #[.slice PA s.pl.length pc, .map mo] ∧ IntsAt W PA s.pl.length s.pl ∧ (∀ a, PA = some a → g + 2 ≤ a.block ∧ mo ≠ some a.block)
  len : s.pl.length ≤ 7
  ml : ∀ b, mo = some b → g + 2 ≤ b ∧ b < W.heap.size
  mp : s.fo = true → ∃ mb D, mo = some mb ∧ W.ownsMap Tryz.prog 3 (plainElem (H := Unit) Tryz.prog 3) mb nk D ∧ KeyD8 D s.nd
def fwO (g : Nat) (mo : Option Nat) (b : Nat) : Prop := b = g ∨ b = g + 1 ∨ mo = some b
theorem FwM.later {X : World} {g nk : Nat} {s : Fw8} {mo : Option Nat} {W W' : World} (h : FwM X g nk s mo W) (hb : Below W.heap.size W W') (hg : g ≤ X.heap.size) : FwM X g nk s mo W' := by
  have z1 := h.below.size
  obtain ⟨PA, pc, b1, b2, b3⟩ := h.bst
  refine ⟨h.below.trans (hb.mono (by omega)), h.fbx.below hb h.fbx.lt, ⟨PA, pc, b1.below hb b1.lt, b2.later hb, b3⟩, h.len, fun b e => ⟨(h.ml b e).1, Nat.lt_of_lt_of_le (h.ml b e).2 hb.size⟩, fun e => ?_⟩
  obtain ⟨mb, D, e1, e2, e3⟩ := h.mp e
  exact ⟨mb, D, e1, own_at_block e2 (hb.block _ e2.lt), e3⟩
theorem ints_far8 {w : World} {A : Option Addr} {n : Nat} {es : List Int} (h : IntsAt w A n es) {p : Addr} (hp : ∀ a, A = some a → a.block ≠ p.block) (u : Value) : IntsAt (w.setCell p u) A n es := by
  refine ⟨h.1, fun hn => ?_⟩
  obtain ⟨b, off, rfl, hb, hc⟩ := h.2 hn
  exact ⟨b, off, rfl, by simpa using hb, fun k hk j u hu => (World.cell?_of_block (Below.heap_setCell w p _ b (hp _ rfl))).trans (hc k hk j u hu)⟩
theorem ints_off8 {B : Nat → Prop} {n : Nat} {w w' : World} {A : Option Addr} {m : Nat} {es : List Int} (h : IntsAt w A m es) (ho : Off B n w w') (hn : w.heap.size ≤ n) (hp : ∀ a, A = some a → ¬ B a.block) : IntsAt w' A m es := by
  refine ⟨h.1, fun hm => ?_⟩
  obtain ⟨b, off, rfl, hb, hc⟩ := h.2 hm
  exact ⟨b, off, rfl, Nat.lt_of_lt_of_le hb ho.size, fun k hk j u hu => (World.cell?_of_block (ho.same b (Nat.lt_of_lt_of_le hb hn) (hp _ rfl))).trans (hc k hk j u hu)⟩
set_option maxRecDepth 100000 in
set_option maxHeartbeats 3200000 in
theorem fewest1_c (X : World) (g eb yx yb : Nat) (A : Option Addr) (nr c : Nat) (B : Option Addr) (ns d : Nat) (C : Option Addr) (nk f : Nat) (shk : Int) (Ah : Option Addr) (ch : Nat) (hs : List Hd) (nss : List (List Nd8)) (rs : List Rt8) (ss : List Sp) (ks : List Sk8) (hXg : X.heap.size = g) (hnk : 0 < nk) (HE : Blk X eb 79 #[.func (.func 37) #[] #[]]) (HX : Blk X yx 81 #[.pointer (some ⟨yb, 0, none⟩)]) (HY : YdM yb A nr c B ns d C nk f shk Ah ch hs nss X) (HC : SksAt X C nk ks) (ok : Ok8 nr ns nk rs ss ks shk) (hbd : ∀ s, s < ns → (hlAt nss s).length ≤ 10000)
    (s : Fw8) (mo : Option Nat) (P : Option Addr) (cp : Nat) (p : List Int) (W : World) (HM : FwM X g nk s mo W) (HP : IntsAt W P nk p) (hPO : ∀ a, P = some a → ¬ fwO g mo a.block) (hpb : ∀ k, k < nk → -1 ≤ iAt p k ∧ iAt p k ≤ 2) :
    Calls Tryz.prog 83 #[.slice P nk cp, .pointer (some ⟨g + 1, 0, none⟩), .pointer (some ⟨g, 0, none⟩), .pointer (some ⟨eb, 0, none⟩), .pointer (some ⟨yx, 0, none⟩)] W fun e W' => e = .returned (.bool true) ∧ ∃ mo', FwM X g nk (fwS (fun p => knK nss ks shk p nk ns == 1) nk s p) mo' W' ∧ StO (fwO g mo) (fwO g mo') W W' := by
  have enS : ∀ args w, (callFunc 37 args).run Tryz.prog w = .ok (.enter 37 args) w := enters_of Tryz.func37 (by kernel_rfl) rfl
  have h7 := ok.kl
  have kKn0 := fun V (hV : Below W.heap.size W V) => known8_c yb A nr c B ns d C nk f shk Ah ch hs nss rs ss ks P cp p V ((HY.later (HM.below.mono (by omega))).later hV) ((HC.later (HM.below.mono (by omega))).later hV) (HP.later hV) ok hbd
  have HSX : Hid (∀ V, Below W.heap.size W V → V.cell? ⟨eb, 0, none⟩ = some (.func (.func 37) #[] #[]) ∧ V.cell? ⟨yx, 0, none⟩ = some (.pointer (some ⟨yb, 0, none⟩))) := Lib.hid (fun V hV => ⟨(((HE.below (HM.below.mono (by omega)) HE.lt)).below hV (((HE.below (HM.below.mono (by omega)) HE.lt))).lt).cell 0, (((HX.below (HM.below.mono (by omega)) HX.lt)).below hV (((HX.below (HM.below.mono (by omega)) HX.lt))).lt).cell 0⟩)
  obtain ⟨v, hv⟩ : ∃ x, knK nss ks shk p nk ns = x := ⟨_, rfl⟩
  have HR : Hid (fwS (fun p => knK nss ks shk p nk ns == 1) nk s p = if (s.fo && decide (usK s.pl s.pl.length < usK p nk)) || !(v == 1) then s
  else if !s.fo || decide (usK p nk < usK s.pl s.pl.length) then ⟨true, p, fwD p (fwA nk) nk⟩
  else ⟨true, s.pl, fwD p s.nd nk⟩) := Lib.hid (by rw [← hv]; rfl)
  obtain ⟨R, hR⟩ : ∃ x, fwS (fun p => knK nss ks shk p nk ns == 1) nk s p = x := ⟨_, rfl⟩
  rw [hR] at HR ⊢
  rw [hv] at kKn0
  have kKn := Lib.hid kKn0
  have kSu0 := fun V => surely8_c v V
  obtain ⟨kn, hkn⟩ : ∃ b, (v == 1) = b := ⟨_, rfl⟩
  rw [hkn] at kSu0 HR
  have kSu := Lib.hid kSu0
  have HXG := Lib.hid hXg
  have HPB := Lib.hid hpb
  have HPI := Lib.hid HP
  have HPO := Lib.hid hPO
  clear hXg hpb hv hkn hR kKn0 kSu0 HE HX HY HC ok hbd HP hPO
  obtain ⟨fo, bp, nd⟩ := s
  obtain ⟨BA, bc, hb1, hb2, hb3⟩ := HM.bst
  have hlen := HM.len
  have HMI := Lib.hid HM
  simp only at hb1 hb2 HR hlen
  obtain ⟨m, hm⟩ : ∃ x, bp.length = x := ⟨_, rfl⟩
  rw [hm] at hb1 hb2 HR hlen
  have HLM := Lib.hid hm
  have kU1 := Lib.hid (fun V (hV : Below W.heap.size W V) => used8_c P nk cp p V (by omega) (HPI.out.later hV))
  have kU2 := Lib.hid (fun V (hV : Below W.heap.size W V) => used8_c BA m bc bp V (by omega) (hb2.later hV))
  obtain ⟨up, hup⟩ : ∃ x, usK p nk = x := ⟨_, rfl⟩
  obtain ⟨ub, hub⟩ : ∃ x, usK bp m = x := ⟨_, rfl⟩
  rw [hup] at kU1 HR
  rw [hub] at kU2 HR
  have HSS : Hid (∀ V, Below W.heap.size W V → (∀ j, V.cell? ⟨g + 1, j, none⟩ = #[Value.bool fo][j]?) ∧ (∀ j, V.cell? ⟨g, j, none⟩ = #[.slice BA m bc, .map mo][j]?) ∧ V.cell? ⟨eb, 0, none⟩ = some (.func (.func 37) #[] #[]) ∧ V.cell? ⟨yx, 0, none⟩ = some (.pointer (some ⟨yb, 0, none⟩))) := Lib.hid (fun V hV => ⟨(HMI.out.fbx.below hV HMI.out.fbx.lt).cell, (hb1.below hV hb1.lt).cell, HSX.out V hV⟩)
  have HBI := Lib.hid hb1
  have HB2 := Lib.hid hb2
  have HB3 := Lib.hid hb3
  clear HM HSX hb1 hb2 hb3 hm hup hub
  go_enter Tryz.func83, Tryz.ntmps83
  go_upto_region 1 with (fail)
  go_cut [27] (fun v (V : World) => v = .bool ((fo && decide (ub < up)) || !kn) ∧ Below W.heap.size W V)
  case first =>
    refine wp_region_L (by kernel_rfl) (fun V => (∀ j, V.cell? ⟨g + 1, j, none⟩ = #[Value.bool fo][j]?) ∧ (∀ j, V.cell? ⟨g, j, none⟩ = #[.slice BA m bc, .map mo][j]?) ∧ V.cell? ⟨eb, 0, none⟩ = some (.func (.func 37) #[] #[]) ∧ V.cell? ⟨yx, 0, none⟩ = some (.pointer (some ⟨yb, 0, none⟩))) 99 ?_
    obtain ⟨Y, hY⟩ : ∃ Y, W.drew = Y := ⟨_, rfl⟩
    have BY : Below W.heap.size W Y := by rw [← hY]; (repeat first | with_reducible assumption | with_reducible exact Below.refl _ _ | (with_reducible refine Below.alloc ?_ ?side _; case side => (first | omega | (with_reducible exact Below.size (by assumption)) | (simp; done) | (simp; omega))) | (with_reducible refine Below.setCell ?_ ?side _; case side => (first | omega | (with_reducible exact Below.size (by assumption)) | (simp; done) | (simp; omega))) | with_reducible refine Below.drew ?_ | with_reducible refine below_drewN ?_ _ | (with_reducible refine below_step (by assumption) ?side ?_; case side => (first | omega | (with_reducible exact Below.size (by assumption)) | (simp; done) | (simp; omega))))
    rw [hY]
    clear hY
    have hS := HSS.out Y BY
    cases fo
    case false =>
      refine wpAnyL_take (i := 0) (v := ?_) rfl (by kernel_rfl) (by kernel_rfl) (by kernel_rfl) (by kernel_rfl) (fun _ _ _ h => h) hS (Or.inl ⟨by rfl, ?_⟩) ?_
      rotate_left 1
      · intro w9 hw9
        obtain ⟨s0, s1, s2, s3⟩ := hw9
        go_simp
        try with_reducible rfl
      try simp only [List.getElem_toArray, List.getElem_cons_zero, List.getElem_cons_succ, Act.put, List.setIfInBounds_toArray, List.set_cons_zero, List.set_cons_succ]
      refine wpAnyL_take (i := 1) (v := ?_) rfl (by kernel_rfl) (by kernel_rfl) (by kernel_rfl) (by kernel_rfl) (fun _ _ _ h => h) hS (Or.inl ⟨by rfl, ?_⟩) ?_
      rotate_left 1
      · intro w9 hw9
        obtain ⟨s0, s1, s2, s3⟩ := hw9
        go_simp
        try with_reducible rfl
      try simp only [List.getElem_toArray, List.getElem_cons_zero, List.getElem_cons_succ, Act.put, List.setIfInBounds_toArray, List.set_cons_zero, List.set_cons_succ]
      refine wpAnyL_take (i := 2) rfl (by kernel_rfl) (by kernel_rfl) (by kernel_rfl) (by kernel_rfl) (fun _ _ _ h => h) hS (Or.inr ⟨by rfl, rfl⟩) ?_
      try simp only [List.getElem_toArray, List.getElem_cons_zero, List.getElem_cons_succ, Act.put, List.setIfInBounds_toArray, List.set_cons_zero, List.set_cons_succ]
      refine wpAnyL_take (i := 3) rfl (by kernel_rfl) (by kernel_rfl) (by kernel_rfl) (by kernel_rfl) (fun _ _ _ h => h) hS (Or.inr ⟨by rfl, rfl⟩) ?_
      try simp only [List.getElem_toArray, List.getElem_cons_zero, List.getElem_cons_succ, Act.put, List.setIfInBounds_toArray, List.set_cons_zero, List.set_cons_succ]
      refine wpAnyL_take (i := 4) rfl (by kernel_rfl) (by kernel_rfl) (by kernel_rfl) (by kernel_rfl) (fun _ _ _ h => h) hS (Or.inr ⟨by rfl, rfl⟩) ?_
      try simp only [List.getElem_toArray, List.getElem_cons_zero, List.getElem_cons_succ, Act.put, List.setIfInBounds_toArray, List.set_cons_zero, List.set_cons_succ]
      refine wpAnyL_take (i := 5) rfl (by kernel_rfl) (by kernel_rfl) (by kernel_rfl) (by kernel_rfl) (fun _ _ _ h => h) hS (Or.inr ⟨by rfl, rfl⟩) ?_
      try simp only [List.getElem_toArray, List.getElem_cons_zero, List.getElem_cons_succ, Act.put, List.setIfInBounds_toArray, List.set_cons_zero, List.set_cons_succ]
      refine wpAnyL_take (i := 6) rfl (by kernel_rfl) (by kernel_rfl) (by kernel_rfl) (by kernel_rfl) (fun _ _ _ h => h) hS (Or.inr ⟨by rfl, rfl⟩) ?_
      try simp only [List.getElem_toArray, List.getElem_cons_zero, List.getElem_cons_succ, Act.put, List.setIfInBounds_toArray, List.set_cons_zero, List.set_cons_succ]
      refine wpAnyL_take (i := 7) rfl (by kernel_rfl) (by kernel_rfl) (by kernel_rfl) (by kernel_rfl) (fun _ _ _ h => h) hS (Or.inr ⟨by rfl, rfl⟩) ?_
      try simp only [List.getElem_toArray, List.getElem_cons_zero, List.getElem_cons_succ, Act.put, List.setIfInBounds_toArray, List.set_cons_zero, List.set_cons_succ]
      refine wpAnyL_take (i := 8) (v := ?_) rfl (by kernel_rfl) (by kernel_rfl) (by kernel_rfl) (by kernel_rfl) (fun _ _ _ h => h) hS (Or.inl ⟨by rfl, ?_⟩) ?_
      rotate_left 1
      · intro w9 hw9
        obtain ⟨s0, s1, s2, s3⟩ := hw9
        go_simp
        try with_reducible rfl
      try simp only [List.getElem_toArray, List.getElem_cons_zero, List.getElem_cons_succ, Act.put, List.setIfInBounds_toArray, List.set_cons_zero, List.set_cons_succ]
      refine wpAnyL_take (i := 9) (v := ?_) rfl (by kernel_rfl) (by kernel_rfl) (by kernel_rfl) (by kernel_rfl) (fun _ _ _ h => h) hS (Or.inl ⟨by rfl, ?_⟩) ?_
      rotate_left 1
      · intro w9 hw9
        obtain ⟨s0, s1, s2, s3⟩ := hw9
        go_simp
        try with_reducible rfl
      try simp only [List.getElem_toArray, List.getElem_cons_zero, List.getElem_cons_succ, Act.put, List.setIfInBounds_toArray, List.set_cons_zero, List.set_cons_succ]
      refine wpAnyL_take (i := 10) (v := ?_) rfl (by kernel_rfl) (by kernel_rfl) (by kernel_rfl) (by kernel_rfl) (fun _ _ _ h => h) hS (Or.inl ⟨by rfl, ?_⟩) ?_
      rotate_left 1
      · intro w9 hw9
        obtain ⟨s0, s1, s2, s3⟩ := hw9
        go_simp
        try with_reducible rfl
      try simp only [List.getElem_toArray, List.getElem_cons_zero, List.getElem_cons_succ, Act.put, List.setIfInBounds_toArray, List.set_cons_zero, List.set_cons_succ]
      refine wpAnyL_take (i := 11) (v := ?_) rfl (by kernel_rfl) (by kernel_rfl) (by kernel_rfl) (by kernel_rfl) (fun _ _ _ h => h) hS (Or.inl ⟨by rfl, ?_⟩) ?_
      rotate_left 1
      · intro w9 hw9
        obtain ⟨s0, s1, s2, s3⟩ := hw9
        go_simp
        try with_reducible rfl
      try simp only [List.getElem_toArray, List.getElem_cons_zero, List.getElem_cons_succ, Act.put, List.setIfInBounds_toArray, List.set_cons_zero, List.set_cons_succ]
      refine wpAnyL_take (i := 12) (v := ?_) rfl (by kernel_rfl) (by kernel_rfl) (by kernel_rfl) (by kernel_rfl) (fun _ _ _ h => h) hS (Or.inl ⟨by rfl, ?_⟩) ?_
      rotate_left 1
      · intro w9 hw9
        obtain ⟨s0, s1, s2, s3⟩ := hw9
        go_simp
        try with_reducible rfl
      try simp only [List.getElem_toArray, List.getElem_cons_zero, List.getElem_cons_succ, Act.put, List.setIfInBounds_toArray, List.set_cons_zero, List.set_cons_succ]
      try refine wpAnyL_one (i := 13) (by kernel_rfl) rfl (fun K hK => ?_)
      go_simp
      go_at_call 35
      refine (kKn.out Y BY).mono ?_
      rintro e w1 ⟨rfl, hb1⟩
      have B1 := BY.trans (hb1.mono BY.size)
      clear hb1 hS
      have hS := HSS.out w1 B1
      refine hK.out _ _ (fun _ => hS) (fun _ => ?_)
      clear hK K
      try simp only [List.getElem_toArray, List.getElem_cons_zero, List.getElem_cons_succ, Act.put, List.setIfInBounds_toArray, List.set_cons_zero, List.set_cons_succ]
      try refine wpAnyL_one (i := 14) (by kernel_rfl) rfl (fun K hK => ?_)
      go_simp
      refine (kSu.out _).mono ?_
      rintro e w' ⟨rfl, rfl⟩
      refine hK.out _ _ (fun _ => hS) (fun _ => ?_)
      clear hK K
      try simp only [List.getElem_toArray, List.getElem_cons_zero, List.getElem_cons_succ, Act.put, List.setIfInBounds_toArray, List.set_cons_zero, List.set_cons_succ]
      refine wpAnyL_take (i := 15) (v := ?_) rfl (by kernel_rfl) (by kernel_rfl) (by kernel_rfl) (by kernel_rfl) (fun _ _ _ h => h) hS (Or.inl ⟨by rfl, ?_⟩) ?_
      rotate_left 1
      · intro w9 hw9
        obtain ⟨s0, s1, s2, s3⟩ := hw9
        go_simp
        try with_reducible rfl
      try simp only [List.getElem_toArray, List.getElem_cons_zero, List.getElem_cons_succ, Act.put, List.setIfInBounds_toArray, List.set_cons_zero, List.set_cons_succ]
      refine wpAnyL_take (i := 16) (v := ?_) rfl (by kernel_rfl) (by kernel_rfl) (by kernel_rfl) (by kernel_rfl) (fun _ _ _ h => h) hS (Or.inl ⟨by rfl, ?_⟩) ?_
      rotate_left 1
      · intro w9 hw9
        obtain ⟨s0, s1, s2, s3⟩ := hw9
        go_simp
        try with_reducible rfl
      try simp only [List.getElem_toArray, List.getElem_cons_zero, List.getElem_cons_succ, Act.put, List.setIfInBounds_toArray, List.set_cons_zero, List.set_cons_succ]
      refine wpAnyL_done (by kernel_rfl) ?_ _
      go_wp2_with fail
      go_meet
      exact ⟨by first | rfl | simp [*], B1⟩
    case true =>
      by_cases hl : ub < up
      · have hqB : decide ((ub : Int) < (up : Int)) = true := decide_eq_true (by omega)
        refine wpAnyL_take (i := 0) (v := ?_) rfl (by kernel_rfl) (by kernel_rfl) (by kernel_rfl) (by kernel_rfl) (fun _ _ _ h => h) hS (Or.inl ⟨by rfl, ?_⟩) ?_
        rotate_left 1
        · intro w9 hw9
          obtain ⟨s0, s1, s2, s3⟩ := hw9
          go_simp
          try with_reducible rfl
        try simp only [List.getElem_toArray, List.getElem_cons_zero, List.getElem_cons_succ, Act.put, List.setIfInBounds_toArray, List.set_cons_zero, List.set_cons_succ]
        refine wpAnyL_take (i := 1) (v := ?_) rfl (by kernel_rfl) (by kernel_rfl) (by kernel_rfl) (by kernel_rfl) (fun _ _ _ h => h) hS (Or.inl ⟨by rfl, ?_⟩) ?_
        rotate_left 1
        · intro w9 hw9
          obtain ⟨s0, s1, s2, s3⟩ := hw9
          go_simp
          try with_reducible rfl
        try simp only [List.getElem_toArray, List.getElem_cons_zero, List.getElem_cons_succ, Act.put, List.setIfInBounds_toArray, List.set_cons_zero, List.set_cons_succ]
        refine wpAnyL_take (i := 2) (v := ?_) rfl (by kernel_rfl) (by kernel_rfl) (by kernel_rfl) (by kernel_rfl) (fun _ _ _ h => h) hS (Or.inl ⟨by rfl, ?_⟩) ?_
        rotate_left 1
        · intro w9 hw9
          obtain ⟨s0, s1, s2, s3⟩ := hw9
          go_simp
          try with_reducible rfl
        try simp only [List.getElem_toArray, List.getElem_cons_zero, List.getElem_cons_succ, Act.put, List.setIfInBounds_toArray, List.set_cons_zero, List.set_cons_succ]
        refine wpAnyL_take (i := 4) (v := ?_) rfl (by kernel_rfl) (by kernel_rfl) (by kernel_rfl) (by kernel_rfl) (fun _ _ _ h => h) hS (Or.inl ⟨by rfl, ?_⟩) ?_
        rotate_left 1
        · intro w9 hw9
          obtain ⟨s0, s1, s2, s3⟩ := hw9
          go_simp
          try with_reducible rfl
        try simp only [List.getElem_toArray, List.getElem_cons_zero, List.getElem_cons_succ, Act.put, List.setIfInBounds_toArray, List.set_cons_zero, List.set_cons_succ]
        refine wpAnyL_take (i := 5) (v := ?_) rfl (by kernel_rfl) (by kernel_rfl) (by kernel_rfl) (by kernel_rfl) (fun _ _ _ h => h) hS (Or.inl ⟨by rfl, ?_⟩) ?_
        rotate_left 1
        · intro w9 hw9
          obtain ⟨s0, s1, s2, s3⟩ := hw9
          go_simp
          try with_reducible rfl
        try simp only [List.getElem_toArray, List.getElem_cons_zero, List.getElem_cons_succ, Act.put, List.setIfInBounds_toArray, List.set_cons_zero, List.set_cons_succ]
        try refine wpAnyL_one (i := 3) (by kernel_rfl) rfl (fun K hK => ?_)
        go_simp
        go_at_call 38
        refine (kU1.out Y BY).mono ?_
        rintro e w' ⟨rfl, rfl⟩
        refine hK.out _ _ (fun _ => hS) (fun _ => ?_)
        clear hK K
        try simp only [List.getElem_toArray, List.getElem_cons_zero, List.getElem_cons_succ, Act.put, List.setIfInBounds_toArray, List.set_cons_zero, List.set_cons_succ]
        try refine wpAnyL_one (i := 6) (by kernel_rfl) rfl (fun K hK => ?_)
        go_simp
        go_at_call 38
        refine (kU2.out Y BY).mono ?_
        rintro e w' ⟨rfl, rfl⟩
        refine hK.out _ _ (fun _ => hS) (fun _ => ?_)
        clear hK K
        try simp only [List.getElem_toArray, List.getElem_cons_zero, List.getElem_cons_succ, Act.put, List.setIfInBounds_toArray, List.set_cons_zero, List.set_cons_succ]
        refine wpAnyL_take (i := 7) (v := ?_) rfl (by kernel_rfl) (by kernel_rfl) (by kernel_rfl) (by kernel_rfl) (fun _ _ _ h => h) hS (Or.inl ⟨by rfl, ?_⟩) ?_
        rotate_left 1
        · intro w9 hw9
          obtain ⟨s0, s1, s2, s3⟩ := hw9
          go_simp
          try with_reducible rfl
        try simp only [List.getElem_toArray, List.getElem_cons_zero, List.getElem_cons_succ, Act.put, List.setIfInBounds_toArray, List.set_cons_zero, List.set_cons_succ]
        refine wpAnyL_take (i := 8) (v := ?_) rfl (by kernel_rfl) (by kernel_rfl) (by kernel_rfl) (by kernel_rfl) (fun _ _ _ h => h) hS (Or.inl ⟨by rfl, ?_⟩) ?_
        rotate_left 1
        · intro w9 hw9
          obtain ⟨s0, s1, s2, s3⟩ := hw9
          go_simp
          try with_reducible rfl
        try simp only [List.getElem_toArray, List.getElem_cons_zero, List.getElem_cons_succ, Act.put, List.setIfInBounds_toArray, List.set_cons_zero, List.set_cons_succ]
        refine wpAnyL_take (i := 9) (v := ?_) rfl (by kernel_rfl) (by kernel_rfl) (by kernel_rfl) (by kernel_rfl) (fun _ _ _ h => h) hS (Or.inl ⟨by rfl, ?_⟩) ?_
        rotate_left 1
        · intro w9 hw9
          obtain ⟨s0, s1, s2, s3⟩ := hw9
          go_simp
          try with_reducible rfl
        try simp only [List.getElem_toArray, List.getElem_cons_zero, List.getElem_cons_succ, Act.put, List.setIfInBounds_toArray, List.set_cons_zero, List.set_cons_succ]
        refine wpAnyL_take (i := 10) rfl (by kernel_rfl) (by kernel_rfl) (by kernel_rfl) (by kernel_rfl) (fun _ _ _ h => h) hS (Or.inr ⟨by rfl, rfl⟩) ?_
        try simp only [List.getElem_toArray, List.getElem_cons_zero, List.getElem_cons_succ, Act.put, List.setIfInBounds_toArray, List.set_cons_zero, List.set_cons_succ]
        refine wpAnyL_take (i := 11) rfl (by kernel_rfl) (by kernel_rfl) (by kernel_rfl) (by kernel_rfl) (fun _ _ _ h => h) hS (Or.inr ⟨by rfl, rfl⟩) ?_
        try simp only [List.getElem_toArray, List.getElem_cons_zero, List.getElem_cons_succ, Act.put, List.setIfInBounds_toArray, List.set_cons_zero, List.set_cons_succ]
        refine wpAnyL_take (i := 12) rfl (by kernel_rfl) (by kernel_rfl) (by kernel_rfl) (by kernel_rfl) (fun _ _ _ h => h) hS (Or.inr ⟨by rfl, rfl⟩) ?_
        try simp only [List.getElem_toArray, List.getElem_cons_zero, List.getElem_cons_succ, Act.put, List.setIfInBounds_toArray, List.set_cons_zero, List.set_cons_succ]
        refine wpAnyL_take (i := 13) rfl (by kernel_rfl) (by kernel_rfl) (by kernel_rfl) (by kernel_rfl) (fun _ _ _ h => h) hS (Or.inr ⟨by rfl, rfl⟩) ?_
        try simp only [List.getElem_toArray, List.getElem_cons_zero, List.getElem_cons_succ, Act.put, List.setIfInBounds_toArray, List.set_cons_zero, List.set_cons_succ]
        refine wpAnyL_take (i := 14) rfl (by kernel_rfl) (by kernel_rfl) (by kernel_rfl) (by kernel_rfl) (fun _ _ _ h => h) hS (Or.inr ⟨by rfl, rfl⟩) ?_
        try simp only [List.getElem_toArray, List.getElem_cons_zero, List.getElem_cons_succ, Act.put, List.setIfInBounds_toArray, List.set_cons_zero, List.set_cons_succ]
        refine wpAnyL_take (i := 15) rfl (by kernel_rfl) (by kernel_rfl) (by kernel_rfl) (by kernel_rfl) (fun _ _ _ h => h) hS (Or.inr ⟨by rfl, rfl⟩) ?_
        try simp only [List.getElem_toArray, List.getElem_cons_zero, List.getElem_cons_succ, Act.put, List.setIfInBounds_toArray, List.set_cons_zero, List.set_cons_succ]
        refine wpAnyL_take (i := 16) (v := ?_) rfl (by kernel_rfl) (by kernel_rfl) (by kernel_rfl) (by kernel_rfl) (fun _ _ _ h => h) hS (Or.inl ⟨by rfl, ?_⟩) ?_
        rotate_left 1
        · intro w9 hw9
          obtain ⟨s0, s1, s2, s3⟩ := hw9
          go_simp
          try with_reducible rfl
        try simp only [List.getElem_toArray, List.getElem_cons_zero, List.getElem_cons_succ, Act.put, List.setIfInBounds_toArray, List.set_cons_zero, List.set_cons_succ]
        refine wpAnyL_done (by kernel_rfl) ?_ _
        clear hqB
        have B1 := BY
        go_wp2_with fail
        go_meet
        exact ⟨by first | rfl | simp [*], B1⟩
      · have hqB : decide ((ub : Int) < (up : Int)) = false := decide_eq_false (by omega)
        refine wpAnyL_take (i := 0) (v := ?_) rfl (by kernel_rfl) (by kernel_rfl) (by kernel_rfl) (by kernel_rfl) (fun _ _ _ h => h) hS (Or.inl ⟨by rfl, ?_⟩) ?_
        rotate_left 1
        · intro w9 hw9
          obtain ⟨s0, s1, s2, s3⟩ := hw9
          go_simp
          try with_reducible rfl
        try simp only [List.getElem_toArray, List.getElem_cons_zero, List.getElem_cons_succ, Act.put, List.setIfInBounds_toArray, List.set_cons_zero, List.set_cons_succ]
        refine wpAnyL_take (i := 1) (v := ?_) rfl (by kernel_rfl) (by kernel_rfl) (by kernel_rfl) (by kernel_rfl) (fun _ _ _ h => h) hS (Or.inl ⟨by rfl, ?_⟩) ?_
        rotate_left 1
        · intro w9 hw9
          obtain ⟨s0, s1, s2, s3⟩ := hw9
          go_simp
          try with_reducible rfl
        try simp only [List.getElem_toArray, List.getElem_cons_zero, List.getElem_cons_succ, Act.put, List.setIfInBounds_toArray, List.set_cons_zero, List.set_cons_succ]
        refine wpAnyL_take (i := 2) (v := ?_) rfl (by kernel_rfl) (by kernel_rfl) (by kernel_rfl) (by kernel_rfl) (fun _ _ _ h => h) hS (Or.inl ⟨by rfl, ?_⟩) ?_
        rotate_left 1
        · intro w9 hw9
          obtain ⟨s0, s1, s2, s3⟩ := hw9
          go_simp
          try with_reducible rfl
        try simp only [List.getElem_toArray, List.getElem_cons_zero, List.getElem_cons_succ, Act.put, List.setIfInBounds_toArray, List.set_cons_zero, List.set_cons_succ]
        refine wpAnyL_take (i := 4) (v := ?_) rfl (by kernel_rfl) (by kernel_rfl) (by kernel_rfl) (by kernel_rfl) (fun _ _ _ h => h) hS (Or.inl ⟨by rfl, ?_⟩) ?_
        rotate_left 1
        · intro w9 hw9
          obtain ⟨s0, s1, s2, s3⟩ := hw9
          go_simp
          try with_reducible rfl
        try simp only [List.getElem_toArray, List.getElem_cons_zero, List.getElem_cons_succ, Act.put, List.setIfInBounds_toArray, List.set_cons_zero, List.set_cons_succ]
        refine wpAnyL_take (i := 5) (v := ?_) rfl (by kernel_rfl) (by kernel_rfl) (by kernel_rfl) (by kernel_rfl) (fun _ _ _ h => h) hS (Or.inl ⟨by rfl, ?_⟩) ?_
        rotate_left 1
        · intro w9 hw9
          obtain ⟨s0, s1, s2, s3⟩ := hw9
          go_simp
          try with_reducible rfl
        try simp only [List.getElem_toArray, List.getElem_cons_zero, List.getElem_cons_succ, Act.put, List.setIfInBounds_toArray, List.set_cons_zero, List.set_cons_succ]
        try refine wpAnyL_one (i := 3) (by kernel_rfl) rfl (fun K hK => ?_)
        go_simp
        go_at_call 38
        refine (kU1.out Y BY).mono ?_
        rintro e w' ⟨rfl, rfl⟩
        refine hK.out _ _ (fun _ => hS) (fun _ => ?_)
        clear hK K
        try simp only [List.getElem_toArray, List.getElem_cons_zero, List.getElem_cons_succ, Act.put, List.setIfInBounds_toArray, List.set_cons_zero, List.set_cons_succ]
        try refine wpAnyL_one (i := 6) (by kernel_rfl) rfl (fun K hK => ?_)
        go_simp
        go_at_call 38
        refine (kU2.out Y BY).mono ?_
        rintro e w' ⟨rfl, rfl⟩
        refine hK.out _ _ (fun _ => hS) (fun _ => ?_)
        clear hK K
        try simp only [List.getElem_toArray, List.getElem_cons_zero, List.getElem_cons_succ, Act.put, List.setIfInBounds_toArray, List.set_cons_zero, List.set_cons_succ]
        refine wpAnyL_take (i := 7) (v := ?_) rfl (by kernel_rfl) (by kernel_rfl) (by kernel_rfl) (by kernel_rfl) (fun _ _ _ h => h) hS (Or.inl ⟨by rfl, ?_⟩) ?_
        rotate_left 1
        · intro w9 hw9
          obtain ⟨s0, s1, s2, s3⟩ := hw9
          go_simp
          try with_reducible rfl
        try simp only [List.getElem_toArray, List.getElem_cons_zero, List.getElem_cons_succ, Act.put, List.setIfInBounds_toArray, List.set_cons_zero, List.set_cons_succ]
        refine wpAnyL_take (i := 8) (v := ?_) rfl (by kernel_rfl) (by kernel_rfl) (by kernel_rfl) (by kernel_rfl) (fun _ _ _ h => h) hS (Or.inl ⟨by rfl, ?_⟩) ?_
        rotate_left 1
        · intro w9 hw9
          obtain ⟨s0, s1, s2, s3⟩ := hw9
          go_simp
          try with_reducible rfl
        try simp only [List.getElem_toArray, List.getElem_cons_zero, List.getElem_cons_succ, Act.put, List.setIfInBounds_toArray, List.set_cons_zero, List.set_cons_succ]
        refine wpAnyL_take (i := 9) (v := ?_) rfl (by kernel_rfl) (by kernel_rfl) (by kernel_rfl) (by kernel_rfl) (fun _ _ _ h => h) hS (Or.inl ⟨by rfl, ?_⟩) ?_
        rotate_left 1
        · intro w9 hw9
          obtain ⟨s0, s1, s2, s3⟩ := hw9
          go_simp
          try with_reducible rfl
        try simp only [List.getElem_toArray, List.getElem_cons_zero, List.getElem_cons_succ, Act.put, List.setIfInBounds_toArray, List.set_cons_zero, List.set_cons_succ]
        refine wpAnyL_take (i := 10) (v := ?_) rfl (by kernel_rfl) (by kernel_rfl) (by kernel_rfl) (by kernel_rfl) (fun _ _ _ h => h) hS (Or.inl ⟨by rfl, ?_⟩) ?_
        rotate_left 1
        · intro w9 hw9
          obtain ⟨s0, s1, s2, s3⟩ := hw9
          go_simp
          try with_reducible rfl
        try simp only [List.getElem_toArray, List.getElem_cons_zero, List.getElem_cons_succ, Act.put, List.setIfInBounds_toArray, List.set_cons_zero, List.set_cons_succ]
        refine wpAnyL_take (i := 11) (v := ?_) rfl (by kernel_rfl) (by kernel_rfl) (by kernel_rfl) (by kernel_rfl) (fun _ _ _ h => h) hS (Or.inl ⟨by rfl, ?_⟩) ?_
        rotate_left 1
        · intro w9 hw9
          obtain ⟨s0, s1, s2, s3⟩ := hw9
          go_simp
          try with_reducible rfl
        try simp only [List.getElem_toArray, List.getElem_cons_zero, List.getElem_cons_succ, Act.put, List.setIfInBounds_toArray, List.set_cons_zero, List.set_cons_succ]
        refine wpAnyL_take (i := 12) (v := ?_) rfl (by kernel_rfl) (by kernel_rfl) (by kernel_rfl) (by kernel_rfl) (fun _ _ _ h => h) hS (Or.inl ⟨by rfl, ?_⟩) ?_
        rotate_left 1
        · intro w9 hw9
          obtain ⟨s0, s1, s2, s3⟩ := hw9
          go_simp
          try with_reducible rfl
        try simp only [List.getElem_toArray, List.getElem_cons_zero, List.getElem_cons_succ, Act.put, List.setIfInBounds_toArray, List.set_cons_zero, List.set_cons_succ]
        try refine wpAnyL_one (i := 13) (by kernel_rfl) rfl (fun K hK => ?_)
        go_simp
        go_at_call 35
        refine (kKn.out Y BY).mono ?_
        rintro e w1 ⟨rfl, hb1⟩
        have B1 := BY.trans (hb1.mono BY.size)
        clear hb1 hS
        have hS := HSS.out w1 B1
        refine hK.out _ _ (fun _ => hS) (fun _ => ?_)
        clear hK K
        try simp only [List.getElem_toArray, List.getElem_cons_zero, List.getElem_cons_succ, Act.put, List.setIfInBounds_toArray, List.set_cons_zero, List.set_cons_succ]
        try refine wpAnyL_one (i := 14) (by kernel_rfl) rfl (fun K hK => ?_)
        go_simp
        refine (kSu.out _).mono ?_
        rintro e w' ⟨rfl, rfl⟩
        refine hK.out _ _ (fun _ => hS) (fun _ => ?_)
        clear hK K
        try simp only [List.getElem_toArray, List.getElem_cons_zero, List.getElem_cons_succ, Act.put, List.setIfInBounds_toArray, List.set_cons_zero, List.set_cons_succ]
        refine wpAnyL_take (i := 15) (v := ?_) rfl (by kernel_rfl) (by kernel_rfl) (by kernel_rfl) (by kernel_rfl) (fun _ _ _ h => h) hS (Or.inl ⟨by rfl, ?_⟩) ?_
        rotate_left 1
        · intro w9 hw9
          obtain ⟨s0, s1, s2, s3⟩ := hw9
          go_simp
          try with_reducible rfl
        try simp only [List.getElem_toArray, List.getElem_cons_zero, List.getElem_cons_succ, Act.put, List.setIfInBounds_toArray, List.set_cons_zero, List.set_cons_succ]
        refine wpAnyL_take (i := 16) (v := ?_) rfl (by kernel_rfl) (by kernel_rfl) (by kernel_rfl) (by kernel_rfl) (fun _ _ _ h => h) hS (Or.inl ⟨by rfl, ?_⟩) ?_
        rotate_left 1
        · intro w9 hw9
          obtain ⟨s0, s1, s2, s3⟩ := hw9
          go_simp
          try with_reducible rfl
        try simp only [List.getElem_toArray, List.getElem_cons_zero, List.getElem_cons_succ, Act.put, List.setIfInBounds_toArray, List.set_cons_zero, List.set_cons_succ]
        refine wpAnyL_done (by kernel_rfl) ?_ _
        clear hqB
        go_wp2_with fail
        go_meet
        exact ⟨by first | rfl | simp [*], B1⟩
  case rest =>
    obtain ⟨rfl, hbc⟩ := hcut
    obtain ⟨b1, hb1⟩ : ∃ x, ((fo && decide (ub < up)) || !kn) = x := ⟨_, rfl⟩
    rw [hb1] at HR ⊢
    cases b1
    case true =>
      have HRX : Hid (R = ⟨fo, bp, nd⟩) := Lib.hid (by rw [HR.out, if_pos rfl])
      have HB1 := Lib.hid hbc
      clear hb1 hbc
      go_wp2_with fail
      go_ret
      exact ⟨rfl, mo, by rw [HRX.out]; exact HMI.out.later HB1.out (Nat.le_of_eq HXG.out.symm), .of_below HB1.out⟩
    case false =>
      have HB1 := Lib.hid hbc
      clear hb1 hbc
      go_upto_region 3 with (fail)
      go_cut [37] (fun v (V : World) => v = .bool (!fo || decide (up < ub)) ∧ Below W.heap.size W V)
      case first =>
        refine wp_region_L (by kernel_rfl) (fun V => (∀ j, V.cell? ⟨g + 1, j, none⟩ = #[Value.bool fo][j]?) ∧ (∀ j, V.cell? ⟨g, j, none⟩ = #[.slice BA m bc, .map mo][j]?) ∧ V.cell? ⟨eb, 0, none⟩ = some (.func (.func 37) #[] #[]) ∧ V.cell? ⟨yx, 0, none⟩ = some (.pointer (some ⟨yb, 0, none⟩))) 99 ?_
        obtain ⟨Y, hY⟩ : ∃ Y, wc.drew = Y := ⟨_, rfl⟩
        have BY : Below W.heap.size W Y := by rw [← hY]; exact HB1.out.drew
        rw [hY]
        clear hY
        have hS := HSS.out Y BY
        have B1 := BY
        cases fo
        case false =>
          refine wpAnyL_take (i := 0) (v := ?_) rfl (by kernel_rfl) (by kernel_rfl) (by kernel_rfl) (by kernel_rfl) (fun _ _ _ h => h) hS (Or.inl ⟨by rfl, ?_⟩) ?_
          rotate_left 1
          · intro w9 hw9
            obtain ⟨s0, s1, s2, s3⟩ := hw9
            go_simp
            try with_reducible rfl
          try simp only [List.getElem_toArray, List.getElem_cons_zero, List.getElem_cons_succ, Act.put, List.setIfInBounds_toArray, List.set_cons_zero, List.set_cons_succ]
          refine wpAnyL_take (i := 1) (v := ?_) rfl (by kernel_rfl) (by kernel_rfl) (by kernel_rfl) (by kernel_rfl) (fun _ _ _ h => h) hS (Or.inl ⟨by rfl, ?_⟩) ?_
          rotate_left 1
          · intro w9 hw9
            obtain ⟨s0, s1, s2, s3⟩ := hw9
            go_simp
            try with_reducible rfl
          try simp only [List.getElem_toArray, List.getElem_cons_zero, List.getElem_cons_succ, Act.put, List.setIfInBounds_toArray, List.set_cons_zero, List.set_cons_succ]
          refine wpAnyL_take (i := 2) (v := ?_) rfl (by kernel_rfl) (by kernel_rfl) (by kernel_rfl) (by kernel_rfl) (fun _ _ _ h => h) hS (Or.inl ⟨by rfl, ?_⟩) ?_
          rotate_left 1
          · intro w9 hw9
            obtain ⟨s0, s1, s2, s3⟩ := hw9
            go_simp
            try with_reducible rfl
          try simp only [List.getElem_toArray, List.getElem_cons_zero, List.getElem_cons_succ, Act.put, List.setIfInBounds_toArray, List.set_cons_zero, List.set_cons_succ]
          refine wpAnyL_take (i := 3) rfl (by kernel_rfl) (by kernel_rfl) (by kernel_rfl) (by kernel_rfl) (fun _ _ _ h => h) hS (Or.inr ⟨by rfl, rfl⟩) ?_
          try simp only [List.getElem_toArray, List.getElem_cons_zero, List.getElem_cons_succ, Act.put, List.setIfInBounds_toArray, List.set_cons_zero, List.set_cons_succ]
          refine wpAnyL_take (i := 4) rfl (by kernel_rfl) (by kernel_rfl) (by kernel_rfl) (by kernel_rfl) (fun _ _ _ h => h) hS (Or.inr ⟨by rfl, rfl⟩) ?_
          try simp only [List.getElem_toArray, List.getElem_cons_zero, List.getElem_cons_succ, Act.put, List.setIfInBounds_toArray, List.set_cons_zero, List.set_cons_succ]
          refine wpAnyL_take (i := 5) rfl (by kernel_rfl) (by kernel_rfl) (by kernel_rfl) (by kernel_rfl) (fun _ _ _ h => h) hS (Or.inr ⟨by rfl, rfl⟩) ?_
          try simp only [List.getElem_toArray, List.getElem_cons_zero, List.getElem_cons_succ, Act.put, List.setIfInBounds_toArray, List.set_cons_zero, List.set_cons_succ]
          refine wpAnyL_take (i := 6) rfl (by kernel_rfl) (by kernel_rfl) (by kernel_rfl) (by kernel_rfl) (fun _ _ _ h => h) hS (Or.inr ⟨by rfl, rfl⟩) ?_
          try simp only [List.getElem_toArray, List.getElem_cons_zero, List.getElem_cons_succ, Act.put, List.setIfInBounds_toArray, List.set_cons_zero, List.set_cons_succ]
          refine wpAnyL_take (i := 7) rfl (by kernel_rfl) (by kernel_rfl) (by kernel_rfl) (by kernel_rfl) (fun _ _ _ h => h) hS (Or.inr ⟨by rfl, rfl⟩) ?_
          try simp only [List.getElem_toArray, List.getElem_cons_zero, List.getElem_cons_succ, Act.put, List.setIfInBounds_toArray, List.set_cons_zero, List.set_cons_succ]
          refine wpAnyL_take (i := 8) rfl (by kernel_rfl) (by kernel_rfl) (by kernel_rfl) (by kernel_rfl) (fun _ _ _ h => h) hS (Or.inr ⟨by rfl, rfl⟩) ?_
          try simp only [List.getElem_toArray, List.getElem_cons_zero, List.getElem_cons_succ, Act.put, List.setIfInBounds_toArray, List.set_cons_zero, List.set_cons_succ]
          refine wpAnyL_take (i := 9) (v := ?_) rfl (by kernel_rfl) (by kernel_rfl) (by kernel_rfl) (by kernel_rfl) (fun _ _ _ h => h) hS (Or.inl ⟨by rfl, ?_⟩) ?_
          rotate_left 1
          · intro w9 hw9
            obtain ⟨s0, s1, s2, s3⟩ := hw9
            go_simp
            try with_reducible rfl
          try simp only [List.getElem_toArray, List.getElem_cons_zero, List.getElem_cons_succ, Act.put, List.setIfInBounds_toArray, List.set_cons_zero, List.set_cons_succ]
          refine wpAnyL_done (by kernel_rfl) ?_ _
          go_wp2_with fail
          go_meet
          exact ⟨by first | rfl | simp [*], B1⟩
        case true =>
          have hqB : decide ((up : Int) < (ub : Int)) = decide (up < ub) := by simp
          refine wpAnyL_take (i := 0) (v := ?_) rfl (by kernel_rfl) (by kernel_rfl) (by kernel_rfl) (by kernel_rfl) (fun _ _ _ h => h) hS (Or.inl ⟨by rfl, ?_⟩) ?_
          rotate_left 1
          · intro w9 hw9
            obtain ⟨s0, s1, s2, s3⟩ := hw9
            go_simp
            try with_reducible rfl
          try simp only [List.getElem_toArray, List.getElem_cons_zero, List.getElem_cons_succ, Act.put, List.setIfInBounds_toArray, List.set_cons_zero, List.set_cons_succ]
          refine wpAnyL_take (i := 1) (v := ?_) rfl (by kernel_rfl) (by kernel_rfl) (by kernel_rfl) (by kernel_rfl) (fun _ _ _ h => h) hS (Or.inl ⟨by rfl, ?_⟩) ?_
          rotate_left 1
          · intro w9 hw9
            obtain ⟨s0, s1, s2, s3⟩ := hw9
            go_simp
            try with_reducible rfl
          try simp only [List.getElem_toArray, List.getElem_cons_zero, List.getElem_cons_succ, Act.put, List.setIfInBounds_toArray, List.set_cons_zero, List.set_cons_succ]
          refine wpAnyL_take (i := 2) (v := ?_) rfl (by kernel_rfl) (by kernel_rfl) (by kernel_rfl) (by kernel_rfl) (fun _ _ _ h => h) hS (Or.inl ⟨by rfl, ?_⟩) ?_
          rotate_left 1
          · intro w9 hw9
            obtain ⟨s0, s1, s2, s3⟩ := hw9
            go_simp
            try with_reducible rfl
          try simp only [List.getElem_toArray, List.getElem_cons_zero, List.getElem_cons_succ, Act.put, List.setIfInBounds_toArray, List.set_cons_zero, List.set_cons_succ]
          refine wpAnyL_take (i := 3) (v := ?_) rfl (by kernel_rfl) (by kernel_rfl) (by kernel_rfl) (by kernel_rfl) (fun _ _ _ h => h) hS (Or.inl ⟨by rfl, ?_⟩) ?_
          rotate_left 1
          · intro w9 hw9
            obtain ⟨s0, s1, s2, s3⟩ := hw9
            go_simp
            try with_reducible rfl
          try simp only [List.getElem_toArray, List.getElem_cons_zero, List.getElem_cons_succ, Act.put, List.setIfInBounds_toArray, List.set_cons_zero, List.set_cons_succ]
          refine wpAnyL_take (i := 5) (v := ?_) rfl (by kernel_rfl) (by kernel_rfl) (by kernel_rfl) (by kernel_rfl) (fun _ _ _ h => h) hS (Or.inl ⟨by rfl, ?_⟩) ?_
          rotate_left 1
          · intro w9 hw9
            obtain ⟨s0, s1, s2, s3⟩ := hw9
            go_simp
            try with_reducible rfl
          try simp only [List.getElem_toArray, List.getElem_cons_zero, List.getElem_cons_succ, Act.put, List.setIfInBounds_toArray, List.set_cons_zero, List.set_cons_succ]
          refine wpAnyL_take (i := 6) (v := ?_) rfl (by kernel_rfl) (by kernel_rfl) (by kernel_rfl) (by kernel_rfl) (fun _ _ _ h => h) hS (Or.inl ⟨by rfl, ?_⟩) ?_
          rotate_left 1
          · intro w9 hw9
            obtain ⟨s0, s1, s2, s3⟩ := hw9
            go_simp
            try with_reducible rfl
          try simp only [List.getElem_toArray, List.getElem_cons_zero, List.getElem_cons_succ, Act.put, List.setIfInBounds_toArray, List.set_cons_zero, List.set_cons_succ]
          try refine wpAnyL_one (i := 4) (by kernel_rfl) rfl (fun K hK => ?_)
          go_simp
          go_at_call 38
          refine (kU1.out Y BY).mono ?_
          rintro e w' ⟨rfl, rfl⟩
          refine hK.out _ _ (fun _ => hS) (fun _ => ?_)
          clear hK K
          try simp only [List.getElem_toArray, List.getElem_cons_zero, List.getElem_cons_succ, Act.put, List.setIfInBounds_toArray, List.set_cons_zero, List.set_cons_succ]
          try refine wpAnyL_one (i := 7) (by kernel_rfl) rfl (fun K hK => ?_)
          go_simp
          go_at_call 38
          refine (kU2.out Y BY).mono ?_
          rintro e w' ⟨rfl, rfl⟩
          refine hK.out _ _ (fun _ => hS) (fun _ => ?_)
          clear hK K
          try simp only [List.getElem_toArray, List.getElem_cons_zero, List.getElem_cons_succ, Act.put, List.setIfInBounds_toArray, List.set_cons_zero, List.set_cons_succ]
          refine wpAnyL_take (i := 8) (v := ?_) rfl (by kernel_rfl) (by kernel_rfl) (by kernel_rfl) (by kernel_rfl) (fun _ _ _ h => h) hS (Or.inl ⟨by rfl, ?_⟩) ?_
          rotate_left 1
          · intro w9 hw9
            obtain ⟨s0, s1, s2, s3⟩ := hw9
            go_simp
            try with_reducible rfl
          try simp only [List.getElem_toArray, List.getElem_cons_zero, List.getElem_cons_succ, Act.put, List.setIfInBounds_toArray, List.set_cons_zero, List.set_cons_succ]
          refine wpAnyL_take (i := 9) (v := ?_) rfl (by kernel_rfl) (by kernel_rfl) (by kernel_rfl) (by kernel_rfl) (fun _ _ _ h => h) hS (Or.inl ⟨by rfl, ?_⟩) ?_
          rotate_left 1
          · intro w9 hw9
            obtain ⟨s0, s1, s2, s3⟩ := hw9
            go_simp
            try with_reducible rfl
          try simp only [List.getElem_toArray, List.getElem_cons_zero, List.getElem_cons_succ, Act.put, List.setIfInBounds_toArray, List.set_cons_zero, List.set_cons_succ]
          refine wpAnyL_done (by kernel_rfl) ?_ _
          clear hqB
          go_wp2_with fail
          go_meet
          exact ⟨by first | rfl | simp [*], B1⟩
      case rest =>
        obtain ⟨rfl, hbc⟩ := hcut
        have HB2 := Lib.hid hbc
        clear hbc
        obtain ⟨b2, hb2⟩ : ∃ x, (!fo || decide (up < ub)) = x := ⟨_, rfl⟩
        rw [hb2] at HR ⊢
        go_upto_if 37 with (fail)
        go_cut [] (fun (V : World) => ∃ bq n0 mo', Hid (R = ⟨true, bq, fwD p n0 nk⟩) ∧ Hid (FwM X g nk ⟨true, bq, n0⟩ mo' V) ∧ Hid (StO (fwO g mo) (fwO g mo') W V))
        case first =>
          cases b2
          case false =>
            have HF1 : Hid (fo = true) := Lib.hid (by cases fo <;> simp_all)
            have HRX : Hid (R = ⟨true, bp, fwD p nd nk⟩) := Lib.hid (by rw [HR.out, if_neg (by decide), if_neg (by decide)])
            clear hb2
            go_wp2_with fail
            go_meet
            exact ⟨bp, nd, mo, HRX, Lib.hid (by have := HMI.out.later HB2.out (Nat.le_of_eq HXG.out.symm); rwa [HF1.out] at this), Lib.hid (.of_below HB2.out)⟩
          case true =>
            have HRX : Hid (R = ⟨true, p, fwD p (fwA nk) nk⟩) := Lib.hid (by rw [HR.out, if_neg (by decide), if_pos rfl])
            clear hb2
            have hfb := HMI.out.fbx.below HB2.out HMI.out.fbx.lt
            have hob := HBI.out.below HB2.out HBI.out.lt
            have hiw := HPI.out.later HB2.out
            have cf := hfb.cell
            have lf := hfb.lt
            have ff := hfb.frozen
            have HFW := Lib.hid hfb
            have HOW := Lib.hid hob
            have HIW := Lib.hid hiw
            clear hfb hob hiw
            have hmm := @run_makeMap Tryz.prog
            go_upto_region 5 with (fail)
            go_name_world V1 hV1
            clear cf lf ff
            have HF1 : Hid (Blk V1 (g + 1) 4 #[.bool true]) := by rw [← hV1]; exact Lib.hid (HFW.out.set_ 0 _)
            have HO1 : Hid (Blk V1 g 86 #[.slice BA m bc, .map mo]) := by rw [← hV1]; exact Lib.hid (HOW.out.far (p := ⟨g + 1, 0, none⟩) (by show g ≠ g + 1; omega) _)
            have HI1 : Hid (IntsAt V1 P nk p) := by rw [← hV1]; exact Lib.hid (ints_far8 HIW.out (p := ⟨g + 1, 0, none⟩) (fun a e h => HPO.out a e (.inr (.inl h))) _)
            have HW1 : Hid (Off (fun b => b = g ∨ b = g + 1) W.heap.size W V1) := by rw [← hV1]; exact Lib.hid (((Off.refl).then_below HB2.out (Nat.le_refl _)).set (p := ⟨g + 1, 0, none⟩) (.inl (.inr rfl)) _)
            clear hV1
            have lo1 := HO1.out.lt
            go_upto_region 6 with (go_at_call 84; refine (cloneI8_c P nk cp p V1 hnk (by omega) HI1.out).mono ?_; rintro e w7 ⟨g7, c7, rfl, ho7, hb7⟩; have HO7 := Lib.hid ho7; have HB7 := Lib.hid hb7; have ko7 := (HO1.out.below hb7 lo1).cell; have lo7 := (HO1.out.below hb7 lo1).lt; have fo7 := (HO1.out.below hb7 lo1).frozen; clear ho7 hb7)
            clear ko7 lo7 fo7 lo1 hmm
            obtain ⟨mb, hmb⟩ : ∃ x, w7.heap.size = x := ⟨_, rfl⟩
            have l7 := HO7.out.lt g7 rfl
            have z7 := HB7.out.size
            have zW := HW1.out.size
            have lg1 := HF1.out.lt
            have lgW := HMI.out.fbx.lt
            have hgW : g + 1 < W.heap.size := lgW
            have hg7 : g + 2 ≤ g7 := by omega
            have hm7 : W.heap.size ≤ mb := by omega
            have hgm : g7 < mb := by omega
            obtain ⟨A7, k7, e7, -, hi7⟩ := SlAt.of_own (d := (0 : Int)) encI_len HO7.out (by rw [HPI.out.1])
            cases e7
            go_name_world Z hZ
            have HFZ : Hid (Blk Z (g + 1) 4 #[.bool true]) := by rw [← hZ]; exact Lib.hid (((((HF1.out.below HB7.out lg1).far (p := ⟨g, 0, none⟩) (by show g + 1 ≠ g; omega) _).far (p := ⟨g, 1, none⟩) (by show g + 1 ≠ g; omega) _)).alloc _)
            have HOZ : Hid (Blk Z g 86 #[.slice (some ⟨g7, 0, none⟩) nk c7, .map (some mb)]) := by rw [← hZ, ← hmb]; exact Lib.hid ((((HO1.out.below HB7.out HO1.out.lt).set_ 0 _).set_ 1 _).alloc _)
            have HCZ : Hid (IntsAt Z (some ⟨g7, 0, none⟩) nk p) := by rw [← hZ]; exact Lib.hid ((ints_far8 (ints_far8 (ints_iff.2 hi7) (p := ⟨g, 0, none⟩) (fun a e => by cases e; show g7 ≠ g; omega) _) (p := ⟨g, 1, none⟩) (fun a e => by cases e; show g7 ≠ g; omega) _).later (by (repeat first | with_reducible assumption | with_reducible exact Below.refl _ _ | (with_reducible refine Below.alloc ?_ ?side _; case side => (first | omega | (with_reducible exact Below.size (by assumption)) | (simp; done) | (simp; omega))) | (with_reducible refine Below.setCell ?_ ?side _; case side => (first | omega | (with_reducible exact Below.size (by assumption)) | (simp; done) | (simp; omega))) | with_reducible refine Below.drew ?_ | with_reducible refine below_drewN ?_ _ | (with_reducible refine below_step (by assumption) ?side ?_; case side => (first | omega | (with_reducible exact Below.size (by assumption)) | (simp; done) | (simp; omega))))))
            have HIZ : Hid (IntsAt Z P nk p) := by rw [← hZ]; exact Lib.hid ((ints_far8 (ints_far8 (HI1.out.later HB7.out) (p := ⟨g, 0, none⟩) (fun a e h => HPO.out a e (.inl h)) _) (p := ⟨g, 1, none⟩) (fun a e h => HPO.out a e (.inl h)) _).later (by (repeat first | with_reducible assumption | with_reducible exact Below.refl _ _ | (with_reducible refine Below.alloc ?_ ?side _; case side => (first | omega | (with_reducible exact Below.size (by assumption)) | (simp; done) | (simp; omega))) | (with_reducible refine Below.setCell ?_ ?side _; case side => (first | omega | (with_reducible exact Below.size (by assumption)) | (simp; done) | (simp; omega))) | with_reducible refine Below.drew ?_ | with_reducible refine below_drewN ?_ _ | (with_reducible refine below_step (by assumption) ?side ?_; case side => (first | omega | (with_reducible exact Below.size (by assumption)) | (simp; done) | (simp; omega))))))
            have HWZ : Hid (Off (fun b => b = g ∨ b = g + 1) W.heap.size W Z) := by rw [← hZ]; exact Lib.hid ((((HW1.out.then_below HB7.out zW).set (p := ⟨g, 0, none⟩) (.inl (.inl rfl)) _).set (p := ⟨g, 1, none⟩) (.inl (.inl rfl)) _).alloc (Nat.le_refl _) _)
            have HMZ : Hid (Z.ownsMap Tryz.prog 3 (plainElem (H := Unit) Tryz.prog 3) mb 0 (.map [])) := by
              rw [← hZ]
              have := World.ownsMap_made ((w7.setCell ⟨g, 0, none⟩ (.slice (some ⟨g7, 0, none⟩) nk c7)).setCell ⟨g, 1, none⟩ (.map (some w7.heap.size))) Tryz.prog 3 (plainElem (H := Unit) Tryz.prog 3)
              simp only [World.size_setCell, hmb] at this
              rw [hmb]
              exact Lib.hid this
            have zZ : Z.heap.size = mb + 1 := by rw [← hZ, World.size_alloc]; simp [hmb]
            have hbP : ∀ a, P = some a → ¬ a.block = mb := fun a e h => by
              obtain ⟨b, o, e2, hb, -⟩ := HPI.out.2 hnk
              rw [e] at e2
              cases e2
              have h' : b = mb := h
              omega
            have HBP := Lib.hid hbP
            rw [hmb]
            clear hZ hmb hi7 hbP
            go_wp2_with fail
            go_loopw [44] (fun i (wr : World) => ∃ k : Nat, k ≤ nk ∧ i = .int .i64 k ∧ Hid (Off (fun b => b = mb) Z.heap.size Z wr) ∧ Hid (∃ D, wr.ownsMap Tryz.prog 3 (plainElem (H := Unit) Tryz.prog 3) mb k D ∧ KeyD8 D (fwA k))) (fun i _ => nk - (intOf i).toNat)
            case atStart => exact ⟨0, by omega, rfl, Lib.hid .refl, Lib.hid ⟨_, HMZ.out, .made fun x => by unfold fwA; simp⟩⟩
            case round =>
              obtain ⟨k, hk, rfl, HOs, HDs⟩ := hrel
              have zs := HOs.out.size
              by_cases hkn : k < nk
              · have hkB : decide ((k : Int) < nk) = true := by simp; omega
                have vk : IntKind.i64.wrap ((k : Int) + 1) = (k : Int) + 1 := IntWalk.i64_in _ (by omega)
                obtain ⟨b9, o9, e9, hb9, y9⟩ := (ints_off8 HIZ.out HOs.out (Nat.le_refl _) HBP.out).get hkn
                have hpb := HPB.out k hkn
                obtain ⟨pv, hpv⟩ : ∃ x, iAt p k = x := ⟨_, rfl⟩
                rw [hpv] at y9 hpb
                have hwf : (Lit.int .i64 pv).wf = true := WalkArith.wf_i64 (by omega)
                have HOR := Lib.hid (HOs.out.blk HOZ.out (by omega) (by omega))
                have ck := HOR.out.cell
                have lk := HOR.out.lt
                obtain ⟨D, hD1, hD2⟩ := HDs.out
                have HD2 := Lib.hid hD2
                have hkey := key8 (x := (k : Int)) (by omega)
                subst e9
                clear hD2 HDs hpv
                go_wp2_with (first | (at_mapUpdate; refine wpList_mapUpdate_own _ rfl _ _ _ 84 rfl 3 3 keyed8 Tryz.underlying84 _ mb k _ rfl hD1 (by unfold maxLen; omega) _ _ _ rfl rfl hkey _ [] (plainElem_int Tryz.underlying3 hwf) ?_; intro w1 hown1 hgrow1) | fail)
                have HG1 := Lib.hid hgrow1
                have HN1 := Lib.hid hown1
                clear hgrow1 hown1 hD1
                go_roundw
                case rel =>
                  refine ⟨k + 1, by omega, by go_num, Lib.hid (HOs.out.grown HG1.out (fun g e => by cases e; exact .inl rfl) (Nat.le_refl _)), Lib.hid ⟨_, HN1.out, HD2.out.put fun y => ?_⟩⟩
                  unfold fwA
                  by_cases e : y = (k : Int)
                  · subst e; simp; omega
                  · rw [show (y == (k : Int)) = false by simpa using e, Bool.or_false]; congr 1; apply propext; omega
                case measure => simp [intOf]; omega
              · obtain rfl : k = nk := by omega
                have hkB : decide (((k : Nat) : Int) < k) = false := by simp
                go_wp2_with fail
                go_meet
                refine ⟨p, fwA k, some mb, HRX, Lib.hid ⟨?_, ?_, ⟨some ⟨g7, 0, none⟩, c7, ?_, ?_, ?_⟩, ?_, ?_, ?_⟩, Lib.hid ?_⟩
                · exact HOs.out.below (m := g) (fun b e => by omega) (by omega) (HWZ.out.below (m := g) (fun b e => by omega) (by omega) HMI.out.below)
                · exact HOs.out.blk HFZ.out (by omega) (by omega)
                · rw [show (⟨true, p, fwA k⟩ : Fw8).pl.length = k from HPI.out.1]; exact HOs.out.blk HOZ.out (by omega) (by omega)
                · rw [show (⟨true, p, fwA k⟩ : Fw8).pl.length = k from HPI.out.1]; exact ints_off8 HCZ.out HOs.out (Nat.le_refl _) (fun a e => by cases e; show ¬ g7 = mb; omega)
                · exact fun a e => by cases e; exact ⟨hg7, fun h => by have h' : mb = g7 := Option.some.inj h; omega⟩
                · show p.length ≤ 7; have := HPI.out.1; omega
                · exact fun b e => by cases e; exact ⟨by omega, by omega⟩
                · exact fun _ => let ⟨D, h1, h2⟩ := HDs.out; ⟨mb, D, rfl, h1, h2⟩
                · refine ⟨HOs.out.os.trans HWZ.out.os, HOs.out.tape.trans HWZ.out.tape, HOs.out.output.trans HWZ.out.output, Nat.le_trans HWZ.out.size HOs.out.size, fun b hb => ?_, fun b hb hn => ?_⟩
                  · rcases hb with h | h | h
                    · exact .inl (.inl h)
                    · exact .inl (.inr (.inl h))
                    · cases h; exact .inr hm7
                  · exact (HOs.out.same b (by omega) (by omega)).trans (HWZ.out.same b hb (fun h => hn (h.elim .inl (fun h => .inr (.inl h)))))
        case rest =>
          obtain ⟨bq, n0, mo', HRQ, HMQ, HSQ⟩ := hcut
          obtain ⟨mb, D0, hmo, hD0, hK0⟩ := HMQ.out.mp rfl
          have HD0 := Lib.hid hD0
          have HK0 := Lib.hid hK0
          subst hmo
          have hmb := (HMQ.out.ml mb rfl).1
          have hmw := (HMQ.out.ml mb rfl).2
          obtain ⟨QA, qc, qb1, qb2, qb3⟩ := HMQ.out.bst
          have HQ1 := Lib.hid qb1
          have HQ2 := Lib.hid qb2
          have HQ3 := Lib.hid qb3
          have HIQ := Lib.hid (HSQ.out.ints HPI.out HPO.out)
          have HBP : Hid (∀ a, P = some a → ¬ some mb = some a.block) := Lib.hid (fun a e h => by
            obtain ⟨b, o, e2, hb, -⟩ := HPI.out.2 hnk
            rw [e] at e2
            cases e2
            have h' : mb = b := Option.some.inj h
            subst h'
            rcases HSQ.out.newO mb (.inr (.inr rfl)) with h1 | h1
            · exact HPO.out _ e h1
            · omega)
          have lgq := HQ1.out.lt
          have lfq := HMQ.out.fbx.lt
          have hgq : g + 1 < wc.heap.size := lfq
          clear hD0 hK0 qb1 qb2 qb3 hb2
          go_wp2_with fail
          go_loopw [56] (fun i (wr : World) => ∃ k : Nat, k ≤ nk ∧ i = .int .i64 k ∧ Hid (Off (fun b => some mb = some b) wc.heap.size wc wr) ∧ Hid (∃ D, wr.ownsMap Tryz.prog 3 (plainElem (H := Unit) Tryz.prog 3) mb nk D ∧ KeyD8 D (fwD p n0 k))) (fun i _ => nk - (intOf i).toNat)
          case atStart => exact ⟨0, by omega, rfl, Lib.hid .refl, Lib.hid ⟨_, HD0.out, HK0.out.congr fun y => by unfold fwD; simp; intro; omega⟩⟩
          case round =>
            obtain ⟨k, hk, rfl, HOs, HDs⟩ := hrel
            have zs := HOs.out.size
            by_cases hkn : k < nk
            · have hkB : decide ((k : Int) < nk) = true := by simp; omega
              have vk : IntKind.i64.wrap ((k : Int) + 1) = (k : Int) + 1 := IntWalk.i64_in _ (by omega)
              obtain ⟨b9, o9, e9, hb9, y9⟩ := (ints_off8 HIQ.out HOs.out (Nat.le_refl _) HBP.out).get hkn
              obtain ⟨pv, hpv⟩ : ∃ x, iAt p k = x := ⟨_, rfl⟩
              rw [hpv] at y9
              have HPV := Lib.hid hpv
              have HOR := Lib.hid (HOs.out.blk HQ1.out (by omega) (by intro e; cases e; omega))
              have ck := HOR.out.cell
              have lk := HOR.out.lt
              obtain ⟨D, hD1, hD2⟩ := HDs.out
              have HD2 := Lib.hid hD2
              have hkey := key8 (x := (k : Int)) (by omega)
              subst e9
              clear hD2 HDs hpv
              by_cases hng : pv < 0
              · have hnB : decide (pv < 0) = true := decide_eq_true hng
                go_wp2_with (first | (at_delete; refine wpList_delete_own _ rfl _ _ 84 3 rfl 3 keyed8 Tryz.underlying84 _ mb nk _ rfl hD1 _ _ rfl hkey ?_; intro w1 hown1 hturn1) | fail)
                have HG1 := Lib.hid hturn1.grown
                have HN1 := Lib.hid hown1
                clear hturn1 hown1 hD1
                go_roundw
                case rel => exact ⟨k + 1, by omega, by go_num, Lib.hid (HOs.out.grown HG1.out (fun g e => by cases e; exact .inl rfl) (Nat.le_refl _)), Lib.hid ⟨_, HN1.out, HD2.out.del fun y => fwD_neg (by rw [HPV.out]; exact hng) y⟩⟩
                case measure => simp [intOf]; omega
              · have hnB : decide (pv < 0) = false := decide_eq_false hng
                have HN1 := Lib.hid hD1
                clear hD1
                go_wp2_with fail
                go_roundw
                case rel => exact ⟨k + 1, by omega, by go_num, HOs, Lib.hid ⟨_, HN1.out, HD2.out.congr fun y => fwD_pos (by rw [HPV.out]; exact hng) y⟩⟩
                case measure => simp [intOf]; omega
            · obtain rfl : k = nk := by omega
              have hkB : decide (((k : Nat) : Int) < k) = false := by simp
              go_wp2_with fail
              go_ret
              refine ⟨rfl, some mb, ?_, ?_⟩
              · rw [HRQ.out]
                refine ⟨?_, ?_, ⟨QA, qc, ?_, ?_, HQ3.out⟩, HMQ.out.len, ?_, ?_⟩
                · exact HOs.out.below (m := g) (fun b e => by cases e; omega) (by omega) HMQ.out.below
                · exact HOs.out.blk HMQ.out.fbx (by omega) (by intro e; cases e; omega)
                · exact HOs.out.blk HQ1.out (by omega) (by intro e; cases e; omega)
                · exact ints_off8 HQ2.out HOs.out (Nat.le_refl _) (fun a e => (HQ3.out a e).2)
                · exact fun b e => ⟨(HMQ.out.ml b e).1, Nat.lt_of_lt_of_le (HMQ.out.ml b e).2 zs⟩
                · exact fun _ => let ⟨D, h1, h2⟩ := HDs.out; ⟨mb, D, rfl, h1, h2⟩
              · refine ⟨HOs.out.os.trans HSQ.out.os, HOs.out.tape.trans HSQ.out.tape, HOs.out.output.trans HSQ.out.output, Nat.le_trans HSQ.out.size HOs.out.size, HSQ.out.newO, fun b hb hn => ?_⟩
                refine (HOs.out.same b (by have := HSQ.out.size; omega) (fun h => ?_)).trans (HSQ.out.same b hb hn)
                rcases HSQ.out.newO b (.inr (.inr h)) with h1 | h1
                · exact hn h1
                · omega

end Go.Proofs.YtcbeiadimchknaaGreat
