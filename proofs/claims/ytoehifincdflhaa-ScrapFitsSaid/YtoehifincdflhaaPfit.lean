/- ScrapFits (layer 11): for every book and account the statement returns true, and the arguments read as before. -/
import Derived.Test.YtoehifincdflhaaRm11
import Derived.Test.YtoehifincdflhaaWk11
import Derived.Test.YtoehifincdflhaaFa11
import Derived.Test.YtoehifincdflhaaSa11
import Derived.Test.YtoehifincdflhaaSg11
import Derived.Test.YtoehifincdflhaaFt11
import Derived.Test.YtoehifincdflhaaInv
import Derived.Test.YtoehifincdflhaaJb11
namespace Go.Proofs.Ytoehifincdflhaa
open Go.RowKit Go.ChangeShapes Go.WideShapes Go.ChangeAt Go.Deep Go.Joins
open Go.Sort (grow)
set_option linter.unusedVariables false

theorem keep2 {wr w' : World} {p0 p1 : Addr} {v0 v1 : Value} (hb : Below wr.heap.size wr w') (h0 : wr.cell? p0 = some v0) (h1 : wr.cell? p1 = some v1)
    (l0 : p0.block < wr.heap.size) (l1 : p1.block < wr.heap.size) : w'.cell? p0 = some v0 ∧ w'.cell? p1 = some v1 :=
  ⟨(hb.cell l0).trans h0, (hb.cell l1).trans h1⟩
theorem blk_new {w : World} {g : Nat} {t : TypeId} {cs : Array Value} (h : w.heap.size = g) : Blk (w.alloc (.cells cs t)) g t cs := by subst h; exact Blk.new w t cs
/-- what is known once some of the region's operations have come up: two appends onto rows of the region's own, an account that is laid out of both -/
def tv (b : Bool) (v : Value) : Value := bif b then v else undef
theorem tv_true (v : Value) : tv true v = v := rfl
theorem tv_false (v : Value) : tv false v = undef := rfl
def eS (g : Nat) : Value := .slice (some ⟨g, 0, none⟩) 0 0
structure FitF (W : World) (nw ns : Nat) (ws ss : List Int) (L : Nat → Bool) (gA gB g : Nat) (A8 : Option Addr) (C8 : Nat) (A12 : Option Addr) (C12 : Nat) (X : World) : Prop where
  bel : Below W.heap.size W X
  p3 : L 3 = true → L 0 = true
  p7 : L 7 = true → L 3 = true ∧ L 4 = true
  p8 : L 8 = true → L 7 = true
  p10 : L 10 = true → L 9 = true ∧ L 7 = true
  f0 : L 0 = true → L 3 = false → X.ownsRow W.heap.size 3 1 (eS gA) 0 []
  f3 : L 3 = true → X.ownsRow W.heap.size 3 1 (.slice A8 nw C8) nw (ws.flatMap encI)
  f4 : L 4 = true → L 7 = false → X.ownsRow W.heap.size 3 1 (eS gB) 0 []
  f7 : L 7 = true → X.ownsRow W.heap.size 3 1 (.slice A12 ns C12) ns (ss.flatMap encI)
  f9 : L 9 = true → L 10 = false → Blk X g 41 #[.slice none 0 0, .slice none 0 0]
  f10 : L 10 = true → Blk X g 41 #[.slice A8 nw C8, .slice A12 ns C12]
  g9 : L 9 = true → W.heap.size ≤ g
  d04 : L 0 = true → L 3 = false → L 4 = true → L 7 = false → gA ≠ gB
  d09 : L 0 = true → L 3 = false → L 9 = true → g ≠ gA
  d49 : L 4 = true → L 7 = false → L 9 = true → g ≠ gB
  d34 : L 3 = true → L 4 = true → L 7 = false → (Value.slice A8 nw C8).ownBlock ≠ some gB
  d39 : L 3 = true → L 9 = true → (Value.slice A8 nw C8).ownBlock ≠ some g
  d79 : L 7 = true → L 9 = true → (Value.slice A12 ns C12).ownBlock ≠ some g
theorem eS_lt {X : World} {b g : Nat} {e : TypeId} (h : X.ownsRow b e 1 (eS g) 0 []) : b ≤ g ∧ g < X.heap.size := h.lt g rfl
section
variable {W : World} {nw ns : Nat} {ws ss : List Int} {L : Nat → Bool} {gA gB g : Nat} {A8 : Option Addr} {C8 : Nat} {A12 : Option Addr} {C12 : Nat} {X : World}
theorem FitF.start (W : World) (nw ns : Nat) (ws ss : List Int) : FitF W nw ns ws ss (fun k => decide (11 ≤ k)) 0 0 0 none 0 none 0 W.drew :=
  ⟨(Below.refl _ _).drew, by simp, by simp, by simp, by simp, by simp, by simp, by simp, by simp, by simp, by simp, by simp, by simp, by simp, by simp, by simp, by simp, by simp⟩
theorem FitF.s0 (F : FitF W nw ns ws ss L gA gB g A8 C8 A12 C12 X) (h : L 0 = false) : FitF W nw ns ws ss (fun k => k == 0 || L k) X.heap.size gB g A8 C8 A12 C12 (X.alloc (.cells #[] 3)) := by
  have n3 : L 3 = false := by cases e : L 3 with | false => rfl | true => rw [F.p3 e] at h; cases h
  have n7 : L 7 = false := by cases e : L 7 with | false => rfl | true => rw [(F.p7 e).1] at n3; cases n3
  exact ⟨F.bel.alloc F.bel.size _, fun _ => rfl, F.p7, F.p8, F.p10, fun _ _ => own_empty F.bel.size rfl, fun h3 => (F.f3 h3).alloc _, fun h4 h7 => (F.f4 h4 h7).alloc _, fun h7 => (F.f7 h7).alloc _,
    fun h9 h10 => (F.f9 h9 h10).alloc _, fun h10 => (F.f10 h10).alloc _, F.g9, fun _ _ h4 h7 => Nat.ne_of_gt (eS_lt (F.f4 h4 h7)).2,
    fun _ _ h9 => by
      have h10 : L 10 = false := by cases e : L 10 with | false => rfl | true => rw [(F.p10 e).2] at n7; cases n7
      exact Nat.ne_of_lt (F.f9 h9 h10).lt,
    F.d49, F.d34, F.d39, F.d79⟩
theorem FitF.s3 (F : FitF W nw ns ws ss L gA gB g A8 C8 A12 C12 X) (h : L 3 = false) (h0 : L 0 = true) {A : Option Addr} {C : Nat} {X' : World} (ho : X'.ownsRow W.heap.size 3 1 (.slice A nw C) nw (ws.flatMap encI))
    (hg : X.grownBy X' (some gA)) (ha : (Value.slice A nw C).ownBlock = some gA ∨ (Value.slice A nw C).ownBlock = some X.heap.size) (hb : Below W.heap.size W X') : FitF W nw ns ws ss (fun k => k == 3 || L k) gA gB g A C A12 C12 X' := by
  have n7 : L 7 = false := by cases e : L 7 with | false => rfl | true => rw [(F.p7 e).1] at h; cases h
  have n10 : L 10 = false := by cases e : L 10 with | false => rfl | true => rw [(F.p10 e).2] at n7; cases n7
  exact ⟨hb, fun _ => h0, fun h7 => absurd ((show L 7 = true from h7).symm.trans n7) (by simp), F.p8, F.p10, fun _ h3 => absurd h3 (by simp), fun _ => ho,
    fun h4 h7 => (F.f4 h4 h7).kept hg (.inr fun e => F.d04 h0 h h4 h7 (by simpa [eS, Value.ownBlock] using e.symm)), fun h7 => absurd ((show L 7 = true from h7).symm.trans n7) (by simp),
    fun h9 h10 => (F.f9 h9 h10).grown hg (fun e => F.d09 h0 h h9 (by simpa using e)), fun h10 => absurd ((show L 10 = true from h10).symm.trans n10) (by simp), F.g9, fun _ h3 => absurd h3 (by simp), fun _ h3 => absurd h3 (by simp), F.d49,
    fun _ h4 h7 e => by
      have h1 := (eS_lt (F.f4 h4 h7)).2
      have h2 := F.d04 h0 h h4 h7
      rcases ha with h3 | h3 <;> (rw [e] at h3; simp at h3; omega),
    fun _ h9 e => by
      have h1 := (F.f9 h9 n10).lt
      have h2 := F.d09 h0 h h9
      rcases ha with h3 | h3 <;> (rw [e] at h3; simp at h3; omega),
    fun h7 => absurd ((show L 7 = true from h7).symm.trans n7) (by simp)⟩
theorem FitF.s4 (F : FitF W nw ns ws ss L gA gB g A8 C8 A12 C12 X) (h : L 4 = false) : FitF W nw ns ws ss (fun k => k == 4 || L k) gA X.heap.size g A8 C8 A12 C12 (X.alloc (.cells #[] 3)) := by
  have n7 : L 7 = false := by cases e : L 7 with | false => rfl | true => rw [(F.p7 e).2] at h; cases h
  have n10 : L 10 = false := by cases e : L 10 with | false => rfl | true => rw [(F.p10 e).2] at n7; cases n7
  exact ⟨F.bel.alloc F.bel.size _, F.p3, fun h7 => ⟨(F.p7 h7).1, rfl⟩, F.p8, F.p10, fun h0 h3 => (F.f0 h0 h3).alloc _, fun h3 => (F.f3 h3).alloc _, fun _ _ => own_empty F.bel.size rfl, fun h7 => (F.f7 h7).alloc _,
    fun h9 h10 => (F.f9 h9 h10).alloc _, fun h10 => (F.f10 h10).alloc _, F.g9, fun h0 h3 _ _ => Nat.ne_of_lt (eS_lt (F.f0 h0 h3)).2, F.d09,
    fun _ _ h9 => Nat.ne_of_lt (F.f9 h9 n10).lt,
    fun h3 _ _ e => by have := ((F.f3 h3).lt _ e).2; omega, F.d39, F.d79⟩
theorem FitF.s7 (F : FitF W nw ns ws ss L gA gB g A8 C8 A12 C12 X) (h : L 7 = false) (h3 : L 3 = true) (h4 : L 4 = true) {A : Option Addr} {C : Nat} {X' : World} (ho : X'.ownsRow W.heap.size 3 1 (.slice A ns C) ns (ss.flatMap encI))
    (hg : X.grownBy X' (some gB)) (ha : (Value.slice A ns C).ownBlock = some gB ∨ (Value.slice A ns C).ownBlock = some X.heap.size) (hb : Below W.heap.size W X') : FitF W nw ns ws ss (fun k => k == 7 || L k) gA gB g A8 C8 A C X' := by
  have n10 : L 10 = false := by cases e : L 10 with | false => rfl | true => rw [(F.p10 e).2] at h; cases h
  exact ⟨hb, F.p3, fun _ => ⟨h3, h4⟩, fun _ => rfl, fun h10 => ⟨(F.p10 h10).1, rfl⟩, fun _ n3 => absurd (h3.symm.trans (show L 3 = false from n3)) (by simp), fun _ => (F.f3 h3).kept hg (.inr fun e => F.d34 h3 h4 h e),
    fun _ h7 => absurd h7 (by simp), fun _ => ho, fun h9 h10 => (F.f9 h9 h10).grown hg (fun e => F.d49 h4 h h9 (by simpa using e)), fun h10 => absurd ((show L 10 = true from h10).symm.trans n10) (by simp), F.g9,
    fun _ _ _ h7 => absurd h7 (by simp), F.d09, fun _ h7 => absurd h7 (by simp), fun _ _ h7 => absurd h7 (by simp), F.d39,
    fun _ h9 e => by
      have h1 := (F.f9 h9 n10).lt
      have h2 := F.d49 h4 h h9
      rcases ha with h3 | h3 <;> (rw [e] at h3; simp at h3; omega)⟩
theorem FitF.s9 (F : FitF W nw ns ws ss L gA gB g A8 C8 A12 C12 X) (h : L 9 = false) : FitF W nw ns ws ss (fun k => k == 9 || L k) gA gB X.heap.size A8 C8 A12 C12 (X.alloc (.cells #[.slice none 0 0, .slice none 0 0] 41)) := by
  have n10 : L 10 = false := by cases e : L 10 with | false => rfl | true => rw [(F.p10 e).1] at h; cases h
  exact ⟨F.bel.alloc F.bel.size _, F.p3, F.p7, F.p8, fun h10 => ⟨rfl, (F.p10 h10).2⟩, fun h0 h3 => (F.f0 h0 h3).alloc _, fun h3 => (F.f3 h3).alloc _, fun h4 h7 => (F.f4 h4 h7).alloc _, fun h7 => (F.f7 h7).alloc _,
    fun _ _ => Blk.new _ _ _, fun h10 => absurd ((show L 10 = true from h10).symm.trans n10) (by simp), fun _ => F.bel.size, F.d04,
    fun h0 h3 _ => Nat.ne_of_gt (eS_lt (F.f0 h0 h3)).2, fun h4 h7 _ => Nat.ne_of_gt (eS_lt (F.f4 h4 h7)).2, F.d34,
    fun h3 _ e => by have := ((F.f3 h3).lt _ e).2; omega, fun h7 _ e => by have := ((F.f7 h7).lt _ e).2; omega⟩
theorem FitF.s10 (F : FitF W nw ns ws ss L gA gB g A8 C8 A12 C12 X) (h : L 10 = false) (h9 : L 9 = true) (h7 : L 7 = true) : FitF W nw ns ws ss (fun k => k == 10 || L k) gA gB g A8 C8 A12 C12 ((X.setCell ⟨g, 0, none⟩ (.slice A8 nw C8)).setCell ⟨g, 1, none⟩ (.slice A12 ns C12)) := by
  have h3 := (F.p7 h7).1
  have gg := F.g9 h9
  have k : ∀ {v : Value} {n : Nat} {xs : List Value}, X.ownsRow W.heap.size 3 1 v n xs → v.ownBlock ≠ some g → ((X.setCell ⟨g, 0, none⟩ (.slice A8 nw C8)).setCell ⟨g, 1, none⟩ (.slice A12 ns C12)).ownsRow W.heap.size 3 1 v n xs := fun hv hn =>
    own_set (own_set hv (fun k hk e => hn (by rw [hk]; exact congrArg some e))) (fun k hk e => hn (by rw [hk]; exact congrArg some e))
  have hb := (F.f9 h9 h)
  exact ⟨(F.bel.setCell gg _).setCell gg _, F.p3, F.p7, F.p8, fun _ => ⟨h9, h7⟩, fun _ n3 => absurd (h3.symm.trans (show L 3 = false from n3)) (by simp), fun _ => k (F.f3 h3) (F.d39 h3 h9),
    fun _ n7 => absurd (h7.symm.trans (show L 7 = false from n7)) (by simp), fun _ => k (F.f7 h7) (F.d79 h7 h9), fun _ n => absurd n (by simp),
    fun _ => by have := (hb.set_ 0 (.slice A8 nw C8)).set_ 1 (.slice A12 ns C12); simpa using this, F.g9, F.d04, F.d09, F.d49, F.d34, F.d39, F.d79⟩
end
set_option maxRecDepth 100000 in
set_option maxHeartbeats 6400000 in
theorem FitsLaw_c (Ap Al Aw As : Option Addr) (np cp nl cl nw cw ns cs : Nat) (wrg : Int) (pl : List Sp) (ls : List Ln) (ws ss : List Int) (w : World) (hp : np ≤ 9223372036854775807) (hl : nl ≤ 9223372036854775807) (hw : nw ≤ 9223372036854775807) (hs : ns ≤ 9223372036854775807)
    (HP : SpsAt w Ap np pl) (HL : LnsAt w Al nl ls) (HW : IntsAt w Aw nw ws) (HS : IntsAt w As ns ss) :
    Calls Try.prog 8 #[.agg #[.slice Ap np cp, .slice Al nl cl, .int .i64 wrg], .agg #[.slice Aw nw cw, .slice As ns cs]] w
      fun e w' => e = .returned (.bool true) ∧ Below w.heap.size w w' := by
  have HPI := Lib.hid HP
  have HLI := Lib.hid HL
  have HWI := Lib.hid HW
  have HSI := Lib.hid HS
  have lpI := Lib.hid HP.1
  have llI := Lib.hid HL.1
  have lwI := Lib.hid HW.1
  have lsI := Lib.hid HS.1
  clear HP HL HW HS
  by_cases hbig : 40 < np ∨ 40 < nl
  · skip
    go_enter Try.func8, Try.ntmps8
    go_wp2_with fail
    obtain ⟨X, hX⟩ : ∃ X, (w.alloc (.cells #[.slice Ap np cp, .slice Al nl cl, .int .i64 wrg] 25)).alloc (.cells #[.slice Aw nw cw, .slice As ns cs] 41) = X := ⟨_, rfl⟩
    rw [hX]
    have D := (al2_0 hX).2.1
    have P := (al2_1 hX).2.1
    have nX := (al2_0 hX).1
    have mX := (al2_1 hX).1
    have BW := (al2 hX).1
    have zX := BW.size
    clear hX
    go_at_call 29
    refine (FarBig_c Ap Al np cp nl cl wrg X hbig hp hl).mono ?_
    rintro e w1 ⟨rfl, hb1⟩
    have z1 := hb1.size
    go_wp2_with (go_at_call 13; refine (works_c _).mono ?_; (rintro e w8 ⟨rfl, hb8⟩))
    go_ret
    exact ⟨rfl, by (repeat first | with_reducible assumption | with_reducible exact Below.refl _ _ | (with_reducible refine Below.alloc ?_ ?side _; case side => (first | omega | (with_reducible exact Below.size (by assumption)) | (simp; done) | (simp; omega))) | (with_reducible refine Below.setCell ?_ ?side _; case side => (first | omega | (with_reducible exact Below.size (by assumption)) | (simp; done) | (simp; omega))) | with_reducible refine Below.drew ?_ | with_reducible refine below_drewN ?_ _ | (with_reducible refine below_step (by assumption) ?side ?_; case side => (first | omega | (with_reducible exact Below.size (by assumption)) | (simp; done) | (simp; omega))))⟩
  have hp40 : np ≤ 40 := by omega
  have hl40 : nl ≤ 40 := by omega
  clear hbig hp hl
  by_cases hr : farB np nl pl ls wrg = true
  · skip
    go_enter Try.func8, Try.ntmps8
    go_wp2_with fail
    obtain ⟨X, hX⟩ : ∃ X, (w.alloc (.cells #[.slice Ap np cp, .slice Al nl cl, .int .i64 wrg] 25)).alloc (.cells #[.slice Aw nw cw, .slice As ns cs] 41) = X := ⟨_, rfl⟩
    rw [hX]
    have D := (al2_0 hX).2.1
    have P := (al2_1 hX).2.1
    have nX := (al2_0 hX).1
    have mX := (al2_1 hX).1
    have BW := (al2 hX).1
    have zX := BW.size
    clear hX
    go_at_call 29
    refine (Far_c Ap Al np cp nl cl wrg pl ls X hp40 hl40 (HPI.out.later BW) (HLI.out.later BW)).mono ?_
    rw [hr]
    rintro e w1 ⟨rfl, hb1⟩
    have z1 := hb1.size
    go_wp2_with (go_at_call 13; refine (works_c _).mono ?_; (rintro e w8 ⟨rfl, hb8⟩))
    go_ret
    exact ⟨rfl, by (repeat first | with_reducible assumption | with_reducible exact Below.refl _ _ | (with_reducible refine Below.alloc ?_ ?side _; case side => (first | omega | (with_reducible exact Below.size (by assumption)) | (simp; done) | (simp; omega))) | (with_reducible refine Below.setCell ?_ ?side _; case side => (first | omega | (with_reducible exact Below.size (by assumption)) | (simp; done) | (simp; omega))) | with_reducible refine Below.drew ?_ | with_reducible refine below_drewN ?_ _ | (with_reducible refine below_step (by assumption) ?side ?_; case side => (first | omega | (with_reducible exact Below.size (by assumption)) | (simp; done) | (simp; omega))))⟩
  replace hr : farB np nl pl ls wrg = false := by simpa using hr
  have HR := Lib.hid hr
  clear hr
  by_cases hfar : 40 < nw ∨ 40 < ns
  · have hfp : (decide (40 < nw) || decide (40 < ns)) = true := by simpa using hfar
    replace hfp := Lib.hid hfp
    go_enter Try.func8, Try.ntmps8
    go_wp2_with fail
    obtain ⟨X, hX⟩ : ∃ X, (w.alloc (.cells #[.slice Ap np cp, .slice Al nl cl, .int .i64 wrg] 25)).alloc (.cells #[.slice Aw nw cw, .slice As ns cs] 41) = X := ⟨_, rfl⟩
    rw [hX]
    have D := (al2_0 hX).2.1
    have P := (al2_1 hX).2.1
    have nX := (al2_0 hX).1
    have mX := (al2_1 hX).1
    have BW := (al2 hX).1
    have zX := BW.size
    clear hX
    go_at_call 29
    refine (Far_c Ap Al np cp nl cl wrg pl ls X hp40 hl40 (HPI.out.later BW) (HLI.out.later BW)).mono ?_
    rw [HR.out]
    rintro e w1 ⟨rfl, hb1⟩
    have z1 := hb1.size
    have p1 := fun i => (hb1.cell (p := ⟨w.heap.size + 1, i, none⟩) mX).trans (P i)
    have n1 : w.heap.size + 1 < w1.heap.size := by omega
    go_wp2_with (first | (go_at_call 18; refine (farPlan_c Aw As nw cw ns cs _).mono ?_; rw [hfp.out]; (rintro e w2 ⟨rfl, hb2⟩); have z2 := hb2.size) | (go_at_call 13; refine (works_c _).mono ?_; (rintro e w8 ⟨rfl, hb8⟩)))
    go_ret
    exact ⟨rfl, by (repeat first | with_reducible assumption | with_reducible exact Below.refl _ _ | (with_reducible refine Below.alloc ?_ ?side _; case side => (first | omega | (with_reducible exact Below.size (by assumption)) | (simp; done) | (simp; omega))) | (with_reducible refine Below.setCell ?_ ?side _; case side => (first | omega | (with_reducible exact Below.size (by assumption)) | (simp; done) | (simp; omega))) | with_reducible refine Below.drew ?_ | with_reducible refine below_drewN ?_ _ | (with_reducible refine below_step (by assumption) ?side ?_; case side => (first | omega | (with_reducible exact Below.size (by assumption)) | (simp; done) | (simp; omega))))⟩
  have hw40 : nw ≤ 40 := by omega
  have hs40 : ns ≤ 40 := by omega
  have hfp : (decide (40 < nw) || decide (40 < ns)) = false := by simpa using hfar
  replace hfp := Lib.hid hfp
  clear hfar hw hs
  go_enter Try.func8, Try.ntmps8
  go_wp2_with fail
  obtain ⟨X, hX⟩ : ∃ X, (w.alloc (.cells #[.slice Ap np cp, .slice Al nl cl, .int .i64 wrg] 25)).alloc (.cells #[.slice Aw nw cw, .slice As ns cs] 41) = X := ⟨_, rfl⟩
  rw [hX]
  have D := (al2_0 hX).2.1
  have P := (al2_1 hX).2.1
  have nX := (al2_0 hX).1
  have mX := (al2_1 hX).1
  have BW := (al2 hX).1
  have zX := BW.size
  clear hX
  go_at_call 29
  refine (Far_c Ap Al np cp nl cl wrg pl ls X hp40 hl40 (HPI.out.later BW) (HLI.out.later BW)).mono ?_
  rw [HR.out]
  rintro e w1 ⟨rfl, hb1⟩
  have z1 := hb1.size
  have d1 := fun i => (hb1.cell (p := ⟨w.heap.size, i, none⟩) nX).trans (D i)
  have p1 := fun i => (hb1.cell (p := ⟨w.heap.size + 1, i, none⟩) mX).trans (P i)
  have B1 : Below w.heap.size w w1 := BW.trans (hb1.mono zX)
  have n1 : w.heap.size < w1.heap.size := by omega
  have m1 : w.heap.size + 1 < w1.heap.size := by omega
  clear hb1 D P
  go_wp2_with (go_at_call 18; refine (farPlan_c Aw As nw cw ns cs _).mono ?_; rw [hfp.out]; (rintro e w2 ⟨rfl, hb2⟩); have z2 := hb2.size; have d2 := fun i => (hb2.cell (p := ⟨w.heap.size, i, none⟩) n1).trans (d1 i); have p2 := fun i => (hb2.cell (p := ⟨w.heap.size + 1, i, none⟩) m1).trans (p1 i); have B2 : Below w.heap.size w w2 := B1.trans (hb2.mono B1.size); have n2 : w.heap.size < w2.heap.size := (by omega); have m2 : w.heap.size + 1 < w2.heap.size := (by omega); clear hb2 d1 p1 B1)
  go_at_call 14
  refine (Copy_c Ap Al np cp nl cl wrg pl ls _ hp40 hl40 (HPI.out.later B2) (HLI.out.later B2)).mono ?_
  rintro e w3 ⟨A1, c1, A2, c2, rfl, hO, hb3⟩
  have HQ := Lib.hid (sps_iff.2 (sl_of_own encS_len hO.hp lpI.out))
  have HM := Lib.hid (lns_iff.2 (sl_of_own encL_len hO.hl llI.out))
  have z3 := hb3.size
  have d3 := fun i => (hb3.cell (p := ⟨w.heap.size, i, none⟩) n2).trans (d2 i)
  have p3 := fun i => (hb3.cell (p := ⟨w.heap.size + 1, i, none⟩) m2).trans (p2 i)
  have n3 : w.heap.size < w3.heap.size := by omega
  have m3 : w.heap.size + 1 < w3.heap.size := by omega
  have B3 : Below w.heap.size w w3 := B2.trans (hb3.mono B2.size)
  clear hb3 hO d2 p2 B2
  go_wp2_with fail
  go_name_world W4 hW4
  have c4 : ∀ j, W4.cell? ⟨w3.heap.size, j, none⟩ = #[Value.slice A1 np c1, .slice A2 nl c2, .int .i64 wrg][j]? := fun j => by rw [← hW4]; exact World.cell?_alloc_new _ _ _ j
  have L4 : Below w3.heap.size w3 W4 := by rw [← hW4]; (repeat first | with_reducible assumption | with_reducible exact Below.refl _ _ | (with_reducible refine Below.alloc ?_ ?side _; case side => (first | omega | (with_reducible exact Below.size (by assumption)) | (simp; done) | (simp; omega))) | (with_reducible refine Below.setCell ?_ ?side _; case side => (first | omega | (with_reducible exact Below.size (by assumption)) | (simp; done) | (simp; omega))) | with_reducible refine Below.drew ?_ | with_reducible refine below_drewN ?_ _ | (with_reducible refine below_step (by assumption) ?side ?_; case side => (first | omega | (with_reducible exact Below.size (by assumption)) | (simp; done) | (simp; omega))))
  have o4 : w3.heap.size < W4.heap.size := by rw [← hW4]; simp
  have d4 := fun i => (L4.cell (p := ⟨w.heap.size, i, none⟩) n3).trans (d3 i)
  have p4 := fun i => (L4.cell (p := ⟨w.heap.size + 1, i, none⟩) m3).trans (p3 i)
  have B4 : Below w.heap.size w W4 := B3.trans (L4.mono B3.size)
  have n4 : w.heap.size < W4.heap.size := by omega
  have m4 : w.heap.size + 1 < W4.heap.size := by omega
  clear hW4 d3 p3
  have s4 : ∀ i, W4.cell? ⟨w.heap.size + 1, i, none⟩ = #[Value.slice Aw nw cw, .slice As ns cs][i]? := p4
  have HWS := Lib.hid (fun X (h : Below W4.heap.size W4 X) => ints_iff.1 (HWI.out.later (B4.trans (h.mono B4.size))))
  have HSS := Lib.hid (fun X (h : Below W4.heap.size W4 X) => ints_iff.1 (HSI.out.later (B4.trans (h.mono B4.size))))
  refine wp_region_inv (by kernel_rfl) (by kernel_rfl) (fun L a X => ∃ gA gB g A8 C8 A12 C12, a = { tmps := #[.agg #[.slice Ap np cp, .slice Al nl cl, .int .i64 wrg], .agg #[.slice Aw nw cw, .slice As ns cs], .pointer (some ⟨w.heap.size, 0, none⟩), .pointer (some ⟨w.heap.size + 1, 0, none⟩), .bool false, .pointer (some ⟨w3.heap.size, 0, none⟩), tv (L 9) (.pointer (some ⟨g, 0, none⟩)), undef, undef, undef, undef, undef, undef, undef, undef, .agg #[.slice Ap np cp, .slice Al nl cl, .int .i64 wrg], .bool false, .bool false, .agg #[.slice Aw nw cw, .slice As ns cs], .bool false, .bool false, undef, .agg #[.slice Ap np cp, .slice Al nl cl, .int .i64 wrg], .agg #[.slice A1 np c1, .slice A2 nl c2, .int .i64 wrg], tv (L 0) (eS gA), tv (L 1) (.pointer (some ⟨w.heap.size + 1, 0, none⟩)), tv (L 2) (.slice Aw nw cw), tv (L 3) (.slice A8 nw C8), tv (L 4) (eS gB), tv (L 5) (.pointer (some ⟨w.heap.size + 1, 1, none⟩)), tv (L 6) (.slice As ns cs), tv (L 7) (.slice A12 ns C12), tv (L 8) (.agg #[.slice A8 nw C8, .slice A12 ns C12]), undef, undef, undef, undef, undef, undef, undef, undef, undef, undef, undef, undef, undef, undef, undef, undef, undef, undef, undef, undef, undef, undef, undef, undef, undef, undef, undef, undef, undef, undef, undef, undef, undef, undef, undef, undef, undef, undef, undef, undef, undef, undef, undef, undef, undef, undef, undef, undef, undef, undef, undef, undef, undef, undef, undef, undef, undef, undef, undef, undef, undef, undef, undef, undef, undef, undef, undef], defers := [] } ∧ FitF W4 nw ns ws ss L gA gB g A8 C8 A12 C12 X) ?start ?step ?done
  case start => exact ⟨0, 0, 0, none, 0, none, 0, rfl, FitF.start W4 nw ns ws ss⟩
  case step =>
    intro L a X i o hi ho hLi hdep hJ
    obtain ⟨gA, gB, g, A8, C8, A12, C12, rfl, F⟩ := hJ
    have hi' : i < 11 := hi
    have F' := Lib.hid F
    have bX := F.bel
    have zX := bX.size
    have c0 := (bX.cell (p := ⟨w.heap.size + 1, 0, none⟩) m4).trans (s4 0)
    have c1' := (bX.cell (p := ⟨w.heap.size + 1, 1, none⟩) m4).trans (s4 1)
    clear F hi
    obtain rfl | rfl | rfl | rfl | rfl | rfl | rfl | rfl | rfl | rfl | rfl : i = 0 ∨ i = 1 ∨ i = 2 ∨ i = 3 ∨ i = 4 ∨ i = 5 ∨ i = 6 ∨ i = 7 ∨ i = 8 ∨ i = 9 ∨ i = 10 := by omega
    · -- 0
      have HL := Lib.hid hLi
      simp only [List.getElem?_toArray, List.getElem?_cons_succ, List.getElem?_cons_zero, Option.some.injEq] at ho
      subst ho
      refine wpOp_step rfl (fun K' hK => ?_)
      clear hLi hdep
      go_simp
      refine hK _ _ ⟨X.heap.size, gB, g, A8, C8, A12, C12, ?_, ?_⟩
      · simp only [HL.out, Nat.reduceBEq, Bool.true_or, Bool.false_or, tv_true, tv_false, Act.put, List.setIfInBounds_toArray, List.set_cons_zero, List.set_cons_succ] <;> rfl
      · exact F'.out.s0 HL.out
    · -- 1
      have HL := Lib.hid hLi
      simp only [List.getElem?_toArray, List.getElem?_cons_succ, List.getElem?_cons_zero, Option.some.injEq] at ho
      subst ho
      refine wpOp_step rfl (fun K' hK => ?_)
      clear hLi hdep
      go_simp
      refine hK _ _ ⟨gA, gB, g, A8, C8, A12, C12, ?_, ?_⟩
      · simp only [HL.out, Nat.reduceBEq, Bool.true_or, Bool.false_or, tv_true, tv_false, Act.put, List.setIfInBounds_toArray, List.set_cons_zero, List.set_cons_succ] <;> rfl
      · exact ⟨F'.out.bel, F'.out.p3, F'.out.p7, F'.out.p8, F'.out.p10, F'.out.f0, F'.out.f3, F'.out.f4, F'.out.f7, F'.out.f9, F'.out.f10, F'.out.g9, F'.out.d04, F'.out.d09, F'.out.d49, F'.out.d34, F'.out.d39, F'.out.d79⟩
    · -- 2
      have HL := Lib.hid hLi
      simp only [List.getElem?_toArray, List.getElem?_cons_succ, List.getElem?_cons_zero, Option.some.injEq] at ho
      subst ho
      refine wpOp_step rfl (fun K' hK => ?_)
      have h1 := hdep ⟨1, .data⟩ (by simp) rfl
      simp only [h1, tv_true]
      clear hLi hdep
      go_simp
      refine hK _ _ ⟨gA, gB, g, A8, C8, A12, C12, ?_, ?_⟩
      · simp only [HL.out, h1, Nat.reduceBEq, Bool.true_or, Bool.false_or, tv_true, tv_false, Act.put, List.setIfInBounds_toArray, List.set_cons_zero, List.set_cons_succ] <;> rfl
      · exact ⟨F'.out.bel, F'.out.p3, F'.out.p7, F'.out.p8, F'.out.p10, F'.out.f0, F'.out.f3, F'.out.f4, F'.out.f7, F'.out.f9, F'.out.f10, F'.out.g9, F'.out.d04, F'.out.d09, F'.out.d49, F'.out.d34, F'.out.d39, F'.out.d79⟩
    · -- 3
      have HL := Lib.hid hLi
      refine wpOp_step ho (fun K' hK => ?_)
      simp only [List.getElem?_toArray, List.getElem?_cons_succ, List.getElem?_cons_zero, Option.some.injEq] at ho
      subst ho
      have h0 := hdep ⟨0, .data⟩ (by simp) rfl
      have h2 := hdep ⟨2, .data⟩ (by simp) rfl
      rw [h0, h2]
      clear hLi hdep
      refine step_append_E _ (d := (0 : Int)) rfl (.tmp 24) (.tmp 26) _ rfl W4.heap.size W4 _ 1 8 intE encI_len encI_one gA (by rfl) (F'.out.f0 h0 HL.out) Aw nw cw ws (by rfl) (HWS.out _ bX) (by omega) bX (Nat.le_refl _) ?_
      intro A' C' X' ho' hg' ha' hb'
      refine hK _ _ ⟨gA, gB, g, A', C', A12, C12, ?_, ?_⟩
      · have n8 : L 8 = false := by cases e : L 8 with | false => rfl | true => (have := HL.out; rw [(F'.out.p7 (F'.out.p8 e)).1] at this; cases this)
        simp only [n8, HL.out, h0, h2, Nat.reduceBEq, Bool.true_or, Bool.false_or, tv_true, tv_false, Act.put, List.setIfInBounds_toArray, List.set_cons_zero, List.set_cons_succ] <;> rfl
      · exact F'.out.s3 HL.out h0 ho'.out hg' ha' hb'
    · -- 4
      have HL := Lib.hid hLi
      simp only [List.getElem?_toArray, List.getElem?_cons_succ, List.getElem?_cons_zero, Option.some.injEq] at ho
      subst ho
      refine wpOp_step rfl (fun K' hK => ?_)
      clear hLi hdep
      go_simp
      refine hK _ _ ⟨gA, X.heap.size, g, A8, C8, A12, C12, ?_, ?_⟩
      · simp only [HL.out, Nat.reduceBEq, Bool.true_or, Bool.false_or, tv_true, tv_false, Act.put, List.setIfInBounds_toArray, List.set_cons_zero, List.set_cons_succ] <;> rfl
      · exact F'.out.s4 HL.out
    · -- 5
      have HL := Lib.hid hLi
      simp only [List.getElem?_toArray, List.getElem?_cons_succ, List.getElem?_cons_zero, Option.some.injEq] at ho
      subst ho
      refine wpOp_step rfl (fun K' hK => ?_)
      clear hLi hdep
      go_simp
      refine hK _ _ ⟨gA, gB, g, A8, C8, A12, C12, ?_, ?_⟩
      · simp only [HL.out, Nat.reduceBEq, Bool.true_or, Bool.false_or, tv_true, tv_false, Act.put, List.setIfInBounds_toArray, List.set_cons_zero, List.set_cons_succ] <;> rfl
      · exact ⟨F'.out.bel, F'.out.p3, F'.out.p7, F'.out.p8, F'.out.p10, F'.out.f0, F'.out.f3, F'.out.f4, F'.out.f7, F'.out.f9, F'.out.f10, F'.out.g9, F'.out.d04, F'.out.d09, F'.out.d49, F'.out.d34, F'.out.d39, F'.out.d79⟩
    · -- 6
      have HL := Lib.hid hLi
      simp only [List.getElem?_toArray, List.getElem?_cons_succ, List.getElem?_cons_zero, Option.some.injEq] at ho
      subst ho
      refine wpOp_step rfl (fun K' hK => ?_)
      have h5 := hdep ⟨5, .data⟩ (by simp) rfl
      simp only [h5, tv_true]
      clear hLi hdep
      go_simp
      refine hK _ _ ⟨gA, gB, g, A8, C8, A12, C12, ?_, ?_⟩
      · simp only [HL.out, h5, Nat.reduceBEq, Bool.true_or, Bool.false_or, tv_true, tv_false, Act.put, List.setIfInBounds_toArray, List.set_cons_zero, List.set_cons_succ] <;> rfl
      · exact ⟨F'.out.bel, F'.out.p3, F'.out.p7, F'.out.p8, F'.out.p10, F'.out.f0, F'.out.f3, F'.out.f4, F'.out.f7, F'.out.f9, F'.out.f10, F'.out.g9, F'.out.d04, F'.out.d09, F'.out.d49, F'.out.d34, F'.out.d39, F'.out.d79⟩
    · -- 7
      have HL := Lib.hid hLi
      refine wpOp_step ho (fun K' hK => ?_)
      simp only [List.getElem?_toArray, List.getElem?_cons_succ, List.getElem?_cons_zero, Option.some.injEq] at ho
      subst ho
      have h4 := hdep ⟨4, .data⟩ (by simp) rfl
      have h6 := hdep ⟨6, .data⟩ (by simp) rfl
      have h3 := hdep ⟨3, .chain⟩ (by simp) rfl
      rw [h4, h6]
      clear hLi hdep
      refine step_append_E _ (d := (0 : Int)) rfl (.tmp 28) (.tmp 30) _ rfl W4.heap.size W4 _ 1 8 intE encI_len encI_one gB (by rfl) (F'.out.f4 h4 HL.out) As ns cs ss (by rfl) (HSS.out _ bX) (by omega) bX (Nat.le_refl _) ?_
      intro A' C' X' ho' hg' ha' hb'
      refine hK _ _ ⟨gA, gB, g, A8, C8, A', C', ?_, ?_⟩
      · have n8 : L 8 = false := by cases e : L 8 with | false => rfl | true => (have := HL.out; rw [F'.out.p8 e] at this; cases this)
        simp only [n8, HL.out, h4, h6, Nat.reduceBEq, Bool.true_or, Bool.false_or, tv_true, tv_false, Act.put, List.setIfInBounds_toArray, List.set_cons_zero, List.set_cons_succ] <;> rfl
      · exact F'.out.s7 HL.out h3 h4 ho'.out hg' ha' hb'
    · -- 8
      have HL := Lib.hid hLi
      simp only [List.getElem?_toArray, List.getElem?_cons_succ, List.getElem?_cons_zero, Option.some.injEq] at ho
      subst ho
      refine wpOp_step rfl (fun K' hK => ?_)
      have h3 := hdep ⟨3, .data⟩ (by simp) rfl
      have h7 := hdep ⟨7, .data⟩ (by simp) rfl
      simp only [h3, h7, tv_true]
      clear hLi hdep
      go_simp
      refine hK _ _ ⟨gA, gB, g, A8, C8, A12, C12, ?_, ?_⟩
      · simp only [HL.out, h3, h7, Nat.reduceBEq, Bool.true_or, Bool.false_or, tv_true, tv_false, Act.put, List.setIfInBounds_toArray, List.set_cons_zero, List.set_cons_succ] <;> rfl
      · exact ⟨F'.out.bel, F'.out.p3, F'.out.p7, fun _ => h7, F'.out.p10, F'.out.f0, F'.out.f3, F'.out.f4, F'.out.f7, F'.out.f9, F'.out.f10, F'.out.g9, F'.out.d04, F'.out.d09, F'.out.d49, F'.out.d34, F'.out.d39, F'.out.d79⟩
    · -- 9
      have HL := Lib.hid hLi
      simp only [List.getElem?_toArray, List.getElem?_cons_succ, List.getElem?_cons_zero, Option.some.injEq] at ho
      subst ho
      refine wpOp_step rfl (fun K' hK => ?_)
      clear hLi hdep
      go_simp
      refine hK _ _ ⟨gA, gB, X.heap.size, A8, C8, A12, C12, ?_, ?_⟩
      · simp only [HL.out, Nat.reduceBEq, Bool.true_or, Bool.false_or, tv_true, tv_false, Act.put, List.setIfInBounds_toArray, List.set_cons_zero, List.set_cons_succ] <;> rfl
      · exact F'.out.s9 HL.out
    · -- 10
      have HL := Lib.hid hLi
      simp only [List.getElem?_toArray, List.getElem?_cons_succ, List.getElem?_cons_zero, Option.some.injEq] at ho
      subst ho
      refine wpOp_step rfl (fun K' hK => ?_)
      have h9 := hdep ⟨9, .data⟩ (by simp) rfl
      have h8 := hdep ⟨8, .data⟩ (by simp) rfl
      have h7 := hdep ⟨7, .chain⟩ (by simp) rfl
      simp only [h9, h8, tv_true]
      clear hLi hdep
      have B10 := F'.out.f9 h9 HL.out
      have b0 := B10.cell 0
      have b1 := B10.cell 1
      have k0 := B10.frozen 0
      have k1 := B10.frozen 1
      have bl := B10.lt
      clear B10
      go_simp
      refine hK _ _ ⟨gA, gB, g, A8, C8, A12, C12, ?_, ?_⟩
      · simp only [h7, HL.out, h9, h8, Nat.reduceBEq, Bool.true_or, Bool.false_or, tv_true, tv_false, Act.put, List.setIfInBounds_toArray, List.set_cons_zero, List.set_cons_succ] <;> rfl
      · exact F'.out.s10 HL.out h9 h7
  case done =>
    intro L a X hL hJ
    obtain ⟨gA, gB, g, A8, C8, A12, C12, rfl, F⟩ := hJ
    simp only [hL, tv_true]
    have bX := F.bel
    have zX := bX.size
    have e5 := fun i => (bX.cell (p := ⟨w.heap.size, i, none⟩) n4).trans (d4 i)
    have q5 := fun i => (bX.cell (p := ⟨w.heap.size + 1, i, none⟩) m4).trans (p4 i)
    have c5 := fun i => (bX.cell (p := ⟨w3.heap.size, i, none⟩) o4).trans (c4 i)
    have BG := F.f10 (hL 10)
    have g5 := BG.cell
    have gl := BG.lt
    have HWX := Lib.hid (ints_iff.2 (sl_of_own encI_len (F.f3 (hL 3)) lwI.out))
    have HSX := Lib.hid (ints_iff.2 (sl_of_own encI_len (F.f7 (hL 7)) lsI.out))
    have n5 : w.heap.size < X.heap.size := by omega
    have m5 : w.heap.size + 1 < X.heap.size := by omega
    have o5 : w3.heap.size < X.heap.size := by omega
    have B5 : Below w.heap.size w X := B4.trans (bX.mono B4.size)
    have K5 : Below w3.heap.size w3 X := L4.trans (bX.mono L4.size)
    have zw := B5.size
    have zk := K5.size
    have CP : ∀ Z, Below X.heap.size X Z → SpsAt Z Ap np pl ∧ LnsAt Z Al nl ls ∧ SpsAt Z A1 np pl ∧ LnsAt Z A2 nl ls ∧ IntsAt Z Aw nw ws ∧ IntsAt Z As ns ss ∧ IntsAt Z A8 nw ws ∧ IntsAt Z A12 ns ss := fun Z hZ =>
      ⟨HPI.out.later (B5.trans (hZ.mono zw)), HLI.out.later (B5.trans (hZ.mono zw)), HQ.out.later (K5.trans (hZ.mono zk)), HM.out.later (K5.trans (hZ.mono zk)), HWI.out.later (B5.trans (hZ.mono zw)), HSI.out.later (B5.trans (hZ.mono zw)), HWX.out.later hZ, HSX.out.later hZ⟩
    obtain ⟨z, hz⟩ : ∃ z, erB (ckBk np nl pl ls wrg) = z := ⟨_, rfl⟩
    obtain ⟨fv, fe, hfv⟩ : ∃ v e, fitR np nl nw ns pl ls wrg ws ss = (v, e) := ⟨_, _, rfl⟩
    obtain ⟨mv, me, hmv⟩ : ∃ v e, fewR np nl pl ls wrg = (v, e) := ⟨_, _, rfl⟩
    have C1 : ∀ Z, Below X.heap.size X Z → Calls Try.prog 37 #[.agg #[.slice A1 np c1, .slice A2 nl c2, .int .i64 wrg]] Z fun e Z' => e = .returned (.int .i64 z) ∧ Below Z.heap.size Z Z' := fun Z hZ => by
      have := check_c A1 A2 np c1 nl c2 wrg pl ls Z hp40 hl40 (CP Z hZ).2.2.1 (CP Z hZ).2.2.2.1
      rwa [hz] at this
    have C2 : ∀ Z, Below X.heap.size X Z → Calls Try.prog 38 #[.agg #[.slice Ap np cp, .slice Al nl cl, .int .i64 wrg]] Z fun e Z' => e = .returned (.int .i64 z) ∧ Below Z.heap.size Z Z' := fun Z hZ => by
      have := refCheck_c Ap Al np cp nl cl wrg pl ls Z hp40 hl40 (CP Z hZ).1 (CP Z hZ).2.1
      rwa [hz] at this
    have C3 : ∀ Z, Below X.heap.size X Z → Calls Try.prog 39 #[.agg #[.slice A1 np c1, .slice A2 nl c2, .int .i64 wrg], .agg #[.slice A8 nw C8, .slice A12 ns C12]] Z fun e Z' => e = .returned (.tuple #[.bool fv, .int .i64 fe]) ∧ Below Z.heap.size Z Z' := fun Z hZ => by
      have := fits_c A1 A2 A8 A12 np c1 nl c2 nw C8 ns C12 wrg pl ls ws ss Z hp40 hl40 hw40 hs40 (CP Z hZ).2.2.1 (CP Z hZ).2.2.2.1 (CP Z hZ).2.2.2.2.2.2.1 (CP Z hZ).2.2.2.2.2.2.2
      rwa [hfv] at this
    have C4 : ∀ Z, Below X.heap.size X Z → Calls Try.prog 40 #[.agg #[.slice Ap np cp, .slice Al nl cl, .int .i64 wrg], .agg #[.slice Aw nw cw, .slice As ns cs]] Z fun e Z' => e = .returned (.tuple #[.bool fv, .int .i64 fe]) ∧ Below Z.heap.size Z Z' := fun Z hZ => by
      have := refFits_c Ap Al Aw As np cp nl cl nw cw ns cs wrg pl ls ws ss Z hp40 hl40 hw40 hs40 (CP Z hZ).1 (CP Z hZ).2.1 (CP Z hZ).2.2.2.2.1 (CP Z hZ).2.2.2.2.2.1
      rwa [hfv] at this
    have C5 : ∀ Z, Below X.heap.size X Z → Calls Try.prog 20 #[.agg #[.slice A1 np c1, .slice A2 nl c2, .int .i64 wrg]] Z fun e Z' => e = .returned (.tuple #[.int .i64 mv, .int .i64 me]) ∧ Below Z.heap.size Z Z' := fun Z hZ => by
      have := fewest_c A1 A2 np c1 nl c2 wrg pl ls Z hp40 hl40 (CP Z hZ).2.2.1 (CP Z hZ).2.2.2.1
      rwa [hmv] at this
    have C6 : ∀ Z, Below X.heap.size X Z → Calls Try.prog 41 #[.agg #[.slice Ap np cp, .slice Al nl cl, .int .i64 wrg]] Z fun e Z' => e = .returned (.tuple #[.int .i64 mv, .int .i64 me]) ∧ Below Z.heap.size Z Z' := fun Z hZ => by
      have := refFewest_c Ap Al np cp nl cl wrg pl ls Z hp40 hl40 (CP Z hZ).1 (CP Z hZ).2.1
      rwa [few_eq lpI.out llI.out, hmv] at this
    have C7 : ∀ Z, Below X.heap.size X Z → Calls Try.prog 33 #[.agg #[.slice A1 np c1, .slice A2 nl c2, .int .i64 wrg], .agg #[.slice Ap np cp, .slice Al nl cl, .int .i64 wrg]] Z fun e Z' => e = .returned (.bool true) ∧ Below Z.heap.size Z Z' := fun Z hZ =>
      same_c A1 A2 Ap Al np c1 nl c2 cp cl wrg pl ls Z hp40 hl40 (CP Z hZ).2.2.1 (CP Z hZ).2.2.2.1 (CP Z hZ).1 (CP Z hZ).2.1
    have yes : ∀ (n : Nat) (xs : List Int), (n == n && allN n fun k => iAt xs k == iAt xs k) = true := fun n xs => by
      rw [allN_iff.2 fun k _ => by simp]; simp
    have C8' : ∀ Z, Below X.heap.size X Z → Calls Try.prog 36 #[.slice Aw nw cw, .slice A8 nw C8] Z fun e Z' => e = .returned (.bool true) ∧ Below Z.heap.size Z Z' := fun Z hZ => by
      have := SameInts_c Aw A8 nw nw cw C8 ws ws Z hw40 hw40 (CP Z hZ).2.2.2.2.1 (CP Z hZ).2.2.2.2.2.2.1
      rwa [yes] at this
    have C9 : ∀ Z, Below X.heap.size X Z → Calls Try.prog 36 #[.slice As ns cs, .slice A12 ns C12] Z fun e Z' => e = .returned (.bool true) ∧ Below Z.heap.size Z Z' := fun Z hZ => by
      have := SameInts_c As A12 ns ns cs C12 ss ss Z hs40 hs40 (CP Z hZ).2.2.2.2.2.1 (CP Z hZ).2.2.2.2.2.2.2
      rwa [yes] at this
    replace C1 := Lib.hid C1
    replace C2 := Lib.hid C2
    replace C3 := Lib.hid C3
    replace C4 := Lib.hid C4
    replace C5 := Lib.hid C5
    replace C6 := Lib.hid C6
    replace C7 := Lib.hid C7
    replace C8' := Lib.hid C8'
    replace C9 := Lib.hid C9
    clear BG F hL CP yes hz hfv hmv d4 p4 c4 HWX HSX bX B4 L4 s4 HWS HSS
    have u1 : (z != z) = false := by simp
    have u2 : (fv == fv) = true := by simp
    have u3 : (fe == fe) = true := by simp
    have u4 : (mv == mv) = true := by simp
    have u5 : (me == me) = true := by simp
    go_wp2_with fail
    have hcq := fun p : Regrown => (bcell (below_regrown X p.d p.os)).1
    refine wp_region_quiet_below (by kernel_rfl) (by kernel_rfl) ?_
    repeat (go_big_quiet_step (((first | (go_at_call 37; exact Calls.regrown_of (C1.out _ (below_regrown _ _ _))) | (go_at_call 38; exact Calls.regrown_of (C2.out _ (below_regrown _ _ _)))))))
    refine wpQuiet_nil ?_
    intro w5 hq
    obtain ⟨pq, hq⟩ := hq
    have hb5 : Below X.heap.size X w5 := by rw [hq]; exact below_regrown _ _ _
    clear hq hcq pq
    obtain ⟨hc5, hf5⟩ := bcell hb5
    have z5 := hb5.size
    have T5 := hb5
    have g6 := fun i => (hb5.cell (p := ⟨g, i, none⟩) gl).trans (g5 i)
    have e6 := fun i => (hb5.cell (p := ⟨w.heap.size, i, none⟩) n5).trans (e5 i)
    have q6 := fun i => (hb5.cell (p := ⟨w.heap.size + 1, i, none⟩) m5).trans (q5 i)
    have c6 := fun i => (hb5.cell (p := ⟨w3.heap.size, i, none⟩) o5).trans (c5 i)
    clear g5 e5 q5 c5 hc5 hf5
    go_wp2_with fail
    refine (C3.out _ (by (repeat first | with_reducible assumption | with_reducible exact Below.refl _ _ | (with_reducible refine Below.alloc ?_ ?side _; case side => (first | omega | (with_reducible exact Below.size (by assumption)) | (simp; done) | (simp; omega))) | (with_reducible refine Below.setCell ?_ ?side _; case side => (first | omega | (with_reducible exact Below.size (by assumption)) | (simp; done) | (simp; omega))) | with_reducible refine Below.drew ?_ | with_reducible refine below_drewN ?_ _ | (with_reducible refine below_step (by assumption) ?side ?_; case side => (first | omega | (with_reducible exact Below.size (by assumption)) | (simp; done) | (simp; omega)))))).mono ?_
    rintro e w7 ⟨rfl, hb7⟩
    have T7 : Below X.heap.size X w7 := T5.trans (hb7.mono T5.size)
    have z7 := hb7.size
    have g7' := fun i => (hb7.cell (p := ⟨g, i, none⟩) (by first | omega | (simp; done) | (simp; omega))).trans (g6 i)
    have e7' := fun i => (hb7.cell (p := ⟨w.heap.size, i, none⟩) (by first | omega | (simp; done) | (simp; omega))).trans (e6 i)
    have q7' := fun i => (hb7.cell (p := ⟨w.heap.size + 1, i, none⟩) (by first | omega | (simp; done) | (simp; omega))).trans (q6 i)
    have c7' := fun i => (hb7.cell (p := ⟨w3.heap.size, i, none⟩) (by first | omega | (simp; done) | (simp; omega))).trans (c6 i)
    clear g6 e6 q6 c6 hb7
    go_wp2_with fail
    refine (C4.out _ (by (repeat first | with_reducible assumption | with_reducible exact Below.refl _ _ | (with_reducible refine Below.alloc ?_ ?side _; case side => (first | omega | (with_reducible exact Below.size (by assumption)) | (simp; done) | (simp; omega))) | (with_reducible refine Below.setCell ?_ ?side _; case side => (first | omega | (with_reducible exact Below.size (by assumption)) | (simp; done) | (simp; omega))) | with_reducible refine Below.drew ?_ | with_reducible refine below_drewN ?_ _ | (with_reducible refine below_step (by assumption) ?side ?_; case side => (first | omega | (with_reducible exact Below.size (by assumption)) | (simp; done) | (simp; omega)))))).mono ?_
    rintro e w8 ⟨rfl, hb8⟩
    have T8 : Below X.heap.size X w8 := T7.trans (hb8.mono T7.size)
    have z8 := hb8.size
    have g8' := fun i => (hb8.cell (p := ⟨g, i, none⟩) (by first | omega | (simp; done) | (simp; omega))).trans (g7' i)
    have e8' := fun i => (hb8.cell (p := ⟨w.heap.size, i, none⟩) (by first | omega | (simp; done) | (simp; omega))).trans (e7' i)
    have q8' := fun i => (hb8.cell (p := ⟨w.heap.size + 1, i, none⟩) (by first | omega | (simp; done) | (simp; omega))).trans (q7' i)
    have c8' := fun i => (hb8.cell (p := ⟨w3.heap.size, i, none⟩) (by first | omega | (simp; done) | (simp; omega))).trans (c7' i)
    clear g7' e7' q7' c7' hb8
    go_wp2_with fail
    refine (C5.out _ (by (repeat first | with_reducible assumption | with_reducible exact Below.refl _ _ | (with_reducible refine Below.alloc ?_ ?side _; case side => (first | omega | (with_reducible exact Below.size (by assumption)) | (simp; done) | (simp; omega))) | (with_reducible refine Below.setCell ?_ ?side _; case side => (first | omega | (with_reducible exact Below.size (by assumption)) | (simp; done) | (simp; omega))) | with_reducible refine Below.drew ?_ | with_reducible refine below_drewN ?_ _ | (with_reducible refine below_step (by assumption) ?side ?_; case side => (first | omega | (with_reducible exact Below.size (by assumption)) | (simp; done) | (simp; omega)))))).mono ?_
    rintro e w9 ⟨rfl, hb9⟩
    have T9 : Below X.heap.size X w9 := T8.trans (hb9.mono T8.size)
    have z9 := hb9.size
    have g9' := fun i => (hb9.cell (p := ⟨g, i, none⟩) (by first | omega | (simp; done) | (simp; omega))).trans (g8' i)
    have e9' := fun i => (hb9.cell (p := ⟨w.heap.size, i, none⟩) (by first | omega | (simp; done) | (simp; omega))).trans (e8' i)
    have q9' := fun i => (hb9.cell (p := ⟨w.heap.size + 1, i, none⟩) (by first | omega | (simp; done) | (simp; omega))).trans (q8' i)
    have c9' := fun i => (hb9.cell (p := ⟨w3.heap.size, i, none⟩) (by first | omega | (simp; done) | (simp; omega))).trans (c8' i)
    clear g8' e8' q8' c8' hb9
    go_wp2_with fail
    refine (C6.out _ (by (repeat first | with_reducible assumption | with_reducible exact Below.refl _ _ | (with_reducible refine Below.alloc ?_ ?side _; case side => (first | omega | (with_reducible exact Below.size (by assumption)) | (simp; done) | (simp; omega))) | (with_reducible refine Below.setCell ?_ ?side _; case side => (first | omega | (with_reducible exact Below.size (by assumption)) | (simp; done) | (simp; omega))) | with_reducible refine Below.drew ?_ | with_reducible refine below_drewN ?_ _ | (with_reducible refine below_step (by assumption) ?side ?_; case side => (first | omega | (with_reducible exact Below.size (by assumption)) | (simp; done) | (simp; omega)))))).mono ?_
    rintro e w10 ⟨rfl, hb10⟩
    have T10 : Below X.heap.size X w10 := T9.trans (hb10.mono T9.size)
    have z10 := hb10.size
    have g10' := fun i => (hb10.cell (p := ⟨g, i, none⟩) (by first | omega | (simp; done) | (simp; omega))).trans (g9' i)
    have e10' := fun i => (hb10.cell (p := ⟨w.heap.size, i, none⟩) (by first | omega | (simp; done) | (simp; omega))).trans (e9' i)
    have q10' := fun i => (hb10.cell (p := ⟨w.heap.size + 1, i, none⟩) (by first | omega | (simp; done) | (simp; omega))).trans (q9' i)
    have c10' := fun i => (hb10.cell (p := ⟨w3.heap.size, i, none⟩) (by first | omega | (simp; done) | (simp; omega))).trans (c9' i)
    clear g9' e9' q9' c9' hb10
    go_wp2_with fail
    refine (C7.out _ (by (repeat first | with_reducible assumption | with_reducible exact Below.refl _ _ | (with_reducible refine Below.alloc ?_ ?side _; case side => (first | omega | (with_reducible exact Below.size (by assumption)) | (simp; done) | (simp; omega))) | (with_reducible refine Below.setCell ?_ ?side _; case side => (first | omega | (with_reducible exact Below.size (by assumption)) | (simp; done) | (simp; omega))) | with_reducible refine Below.drew ?_ | with_reducible refine below_drewN ?_ _ | (with_reducible refine below_step (by assumption) ?side ?_; case side => (first | omega | (with_reducible exact Below.size (by assumption)) | (simp; done) | (simp; omega)))))).mono ?_
    rintro e w11 ⟨rfl, hb11⟩
    have T11 : Below X.heap.size X w11 := T10.trans (hb11.mono T10.size)
    have z11 := hb11.size
    have g11' := fun i => (hb11.cell (p := ⟨g, i, none⟩) (by first | omega | (simp; done) | (simp; omega))).trans (g10' i)
    have e11' := fun i => (hb11.cell (p := ⟨w.heap.size, i, none⟩) (by first | omega | (simp; done) | (simp; omega))).trans (e10' i)
    have q11' := fun i => (hb11.cell (p := ⟨w.heap.size + 1, i, none⟩) (by first | omega | (simp; done) | (simp; omega))).trans (q10' i)
    have c11' := fun i => (hb11.cell (p := ⟨w3.heap.size, i, none⟩) (by first | omega | (simp; done) | (simp; omega))).trans (c10' i)
    clear g10' e10' q10' c10' hb11
    go_wp2_with fail
    refine (C8'.out _ (by (repeat first | with_reducible assumption | with_reducible exact Below.refl _ _ | (with_reducible refine Below.alloc ?_ ?side _; case side => (first | omega | (with_reducible exact Below.size (by assumption)) | (simp; done) | (simp; omega))) | (with_reducible refine Below.setCell ?_ ?side _; case side => (first | omega | (with_reducible exact Below.size (by assumption)) | (simp; done) | (simp; omega))) | with_reducible refine Below.drew ?_ | with_reducible refine below_drewN ?_ _ | (with_reducible refine below_step (by assumption) ?side ?_; case side => (first | omega | (with_reducible exact Below.size (by assumption)) | (simp; done) | (simp; omega)))))).mono ?_
    rintro e w12 ⟨rfl, hb12⟩
    have T12 : Below X.heap.size X w12 := T11.trans (hb12.mono T11.size)
    have z12 := hb12.size
    have g12' := fun i => (hb12.cell (p := ⟨g, i, none⟩) (by first | omega | (simp; done) | (simp; omega))).trans (g11' i)
    have e12' := fun i => (hb12.cell (p := ⟨w.heap.size, i, none⟩) (by first | omega | (simp; done) | (simp; omega))).trans (e11' i)
    have q12' := fun i => (hb12.cell (p := ⟨w.heap.size + 1, i, none⟩) (by first | omega | (simp; done) | (simp; omega))).trans (q11' i)
    have c12' := fun i => (hb12.cell (p := ⟨w3.heap.size, i, none⟩) (by first | omega | (simp; done) | (simp; omega))).trans (c11' i)
    clear g11' e11' q11' c11' hb12
    go_wp2_with fail
    refine (C9.out _ (by (repeat first | with_reducible assumption | with_reducible exact Below.refl _ _ | (with_reducible refine Below.alloc ?_ ?side _; case side => (first | omega | (with_reducible exact Below.size (by assumption)) | (simp; done) | (simp; omega))) | (with_reducible refine Below.setCell ?_ ?side _; case side => (first | omega | (with_reducible exact Below.size (by assumption)) | (simp; done) | (simp; omega))) | with_reducible refine Below.drew ?_ | with_reducible refine below_drewN ?_ _ | (with_reducible refine below_step (by assumption) ?side ?_; case side => (first | omega | (with_reducible exact Below.size (by assumption)) | (simp; done) | (simp; omega)))))).mono ?_
    rintro e w13 ⟨rfl, hb13⟩
    have T13 : Below X.heap.size X w13 := T12.trans (hb13.mono T12.size)
    have z13 := hb13.size
    have g13' := fun i => (hb13.cell (p := ⟨g, i, none⟩) (by first | omega | (simp; done) | (simp; omega))).trans (g12' i)
    have e13' := fun i => (hb13.cell (p := ⟨w.heap.size, i, none⟩) (by first | omega | (simp; done) | (simp; omega))).trans (e12' i)
    have q13' := fun i => (hb13.cell (p := ⟨w.heap.size + 1, i, none⟩) (by first | omega | (simp; done) | (simp; omega))).trans (q12' i)
    have c13' := fun i => (hb13.cell (p := ⟨w3.heap.size, i, none⟩) (by first | omega | (simp; done) | (simp; omega))).trans (c12' i)
    clear g12' e12' q12' c12' hb13
    go_wp2_with fail
    refine (works_c _).mono ?_
    rintro e w14 ⟨rfl, hb14⟩
    go_wp2_with fail
    go_ret
    exact ⟨rfl, B5.trans ((T13.trans (hb14.mono T13.size)).mono zw)⟩
set_option maxRecDepth 100000 in
theorem fits_lifted (os : Os) (started : os.Started) (H : Type) (enc : TypeId × Value → H) :
    ReturnsInHanded {} Try.checked os 8 .any (Rows.scrapFitsSpec.pre6 enc Try.prog Try.f8 Rows.scrapFitsRow.domain false) (Rows.scrapFitsSpec.post enc Try.prog Try.f8 false true false false) := by
  refine returnsInHanded_of_change (C := Try.checked) jn_own started (by kernel_rfl) Try.func8
    (ChangeSpec.witness6 (enc := enc) (C := Try.checked) false ⟨#[], #[.agg #[.slice none 0 0, .slice none 0 0, .int .i64 0], .agg #[.slice none 0 0, .slice none 0 0]], []⟩ 8 (by kernel_rfl) (by kernel_rfl) (by kernel_rfl) (by kernel_rfl)) ?_
  intro W base args ds gs before hval0 hW hcnd _
  have hval : ∀ (j : Nat) t v, Try.f8.params[j]? = some t → args[j]? = some v → Value.okWide Try.prog W .any base t v := hval0
  have hW' := hW
  obtain ⟨p, q, hA0, hV, rfl, hfz, hnd⟩ := hW
  have hA : DataW.TrodAll enc Try.prog W 0 (fun _ => true) true Try.f8.params.toList args.toList ds p := hA0
  rw [Try.params8] at hA hval
  obtain ⟨v0, v1, d0, d1, p0, p1, rfl, rfl, rfl, h0, h1⟩ := trodAll_two hA
  obtain ⟨rfl, rfl⟩ := trodVars_none hV
  obtain ⟨Aw, As, nw, cw, ns, cs, ws, ss, rfl, hnw, hns, HW, HS⟩ := open_plan (hval 1 41 v1 rfl rfl) h1
  obtain ⟨Ap, Al, np, cp, nl, cl, wr, pl, ls, rfl, hnp, hnl, HP, HL, -⟩ := open_book (hval 0 25 v0 rfl rfl) h0
  clear hA0 hval0
  refine (FitsLaw_c Ap Al Aw As np cp nl cl nw cw ns cs wr pl ls ws ss W hnp hnl hnw hns HP HL HW HS).mono fun e W' ⟨he, hb⟩ => ?_
  subst he
  exact ⟨_, rfl, law_post jn_kids jn_full (by rw [Try.params8]; decide) (by kernel_rfl) Try.underlying4 rfl rfl rfl rfl hW' hb⟩

theorem fits_over : Rows.scrapFitsRow.holds Try.pinned (OpenSpec.ofChange Rows.scrapFitsSpec) :=
  OpenClaim.holds_of_wide 8 Try.f8 rfl rfl rfl rfl rfl rfl rfl ⟨rfl, rfl, rfl, rfl, rfl⟩ rfl rfl rfl rfl rfl (by kernel_rfl) Try.func8 (by kernel_rfl)
    (of_decide_eq_true (by kernel_rfl)) (by unfold Func.isWrapper; first | (rw [if_pos (by decide +kernel)]; kernel_rfl) | (rw [if_neg (by decide +kernel)]; exact ⟨rfl, rfl⟩))
    (fun os started H enc _ => fits_lifted os started H enc)

/-- THE STATEMENT -/
theorem fits_holds : Rows.ScrapFitsSaid := fits_over
#print axioms fits_holds

end Go.Proofs.Ytoehifincdflhaa
