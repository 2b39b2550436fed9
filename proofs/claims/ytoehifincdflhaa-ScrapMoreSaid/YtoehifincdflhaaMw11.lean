/- ScrapMore (layer 11), walked. -/
import Derived.Deep.DeepCutAuto
import Derived.Test.YtoehifincdflhaaMo11
import Derived.Test.YtoehifincdflhaaTt11
import Derived.Test.YtoehifincdflhaaTl11
namespace Go.Proofs.Ytoehifincdflhaa
open Go.RowKit
open Go.Sort (grow)
set_option linter.unusedVariables false

def min4 (a b c d : Int) : Int := if d < (if c < (if b < a then b else a) then c else (if b < a then b else a)) then d else (if c < (if b < a then b else a) then c else (if b < a then b else a))
def max4 (a b c d : Int) : Int := if (if (if a < b then b else a) < c then c else (if a < b then b else a)) < d then d else (if (if a < b then b else a) < c then c else (if a < b then b else a))
theorem min4_ge {a b c d : Int} (h : ¬ min4 a b c d < 0) : 0 ≤ a ∧ 0 ≤ b ∧ 0 ≤ c ∧ 0 ≤ d := by
  unfold min4 at h; split at h <;> split at * <;> split at * <;> omega
theorem max4_le {a b c d : Int} (h : ¬ 999 < max4 a b c d) : a ≤ 999 ∧ b ≤ 999 ∧ c ≤ 999 ∧ d ≤ 999 := by
  unfold max4 at h; split at h <;> split at * <;> split at * <;> omega
theorem run_min4 {P : Program} {w : World} (ts : Array TypeId) (t : TypeId) (x y z v : Int) : (Builtin.min_ ts t #[.int .i64 x, .int .i64 y, .int .i64 z, .int .i64 v]).run P w = .ok (.int .i64 (min4 x y z v)) w := by
  simp [Builtin.min_, Builtin.min2, min4]
theorem run_max4 {P : Program} {w : World} (ts : Array TypeId) (t : TypeId) (x y z v : Int) : (Builtin.max_ ts t #[.int .i64 x, .int .i64 y, .int .i64 z, .int .i64 v]).run P w = .ok (.int .i64 (max4 x y z v)) w := by
  simp [Builtin.max_, Builtin.max2, max4]
attribute [local go_sem] run_min4 run_max4
/-- the copied book, in the midst of being turned -/
structure MidB (B g np nl : Nat) (wr : Int) (A1 A2 : Option Addr) (k1 k2 : Nat) (pl' : List Sp) (ls' : List Ln) (W wx : World) : Prop where
  below : Below B W wx
  c0 : wx.cell? ⟨g, 0, none⟩ = some (.slice A1 np k1)
  c1 : wx.cell? ⟨g, 1, none⟩ = some (.slice A2 nl k2)
  c2 : wx.cell? ⟨g, 2, none⟩ = some (.int .i64 wr)
  fr : ∀ i, wx.frozen? ⟨g, i, none⟩ = false
  own : BookOwn B np nl A1 A2 k1 k2 pl' ls' wx
  n1 : ∀ k, (Value.slice A1 np k1).ownBlock = some k → k ≠ g
  n2 : ∀ k, (Value.slice A2 nl k2).ownBlock = some k → k ≠ g
  lg : g < wx.heap.size
  bg : B ≤ g
theorem MidB.later {B g np nl : Nat} {wr : Int} {A1 A2 : Option Addr} {k1 k2 : Nat} {pl' : List Sp} {ls' : List Ln} {W wx wy : World} (h : MidB B g np nl wr A1 A2 k1 k2 pl' ls' W wx) (hW : B ≤ W.heap.size) (hb : Below wx.heap.size wx wy) : MidB B g np nl wr A1 A2 k1 k2 pl' ls' W wy :=
  ⟨h.below.trans (hb.mono (Nat.le_trans hW h.below.size)), (hb.cell (p := ⟨g, 0, none⟩) h.lg).trans h.c0, (hb.cell (p := ⟨g, 1, none⟩) h.lg).trans h.c1, (hb.cell (p := ⟨g, 2, none⟩) h.lg).trans h.c2,
    fun i => (hb.frozen (p := ⟨g, i, none⟩) h.lg).trans (h.fr i), ⟨own_below h.own.hp hb, own_below h.own.hl hb, h.own.ne⟩, h.n1, h.n2, Nat.lt_of_lt_of_le h.lg hb.size, h.bg⟩
def spMore (yc : Int) (s : Sp) : Sp := ⟨s.lo - yc, s.hi + yc⟩
def CutP (B g np nl : Nat) (wr : Int) (A1 A2 : Option Addr) (k1 k2 : Nat) (pl : List Sp) (ls : List Ln) (W wx : World) : Prop :=
  ∃ pl', pl'.length = np ∧ (∀ j, j < np → (spAt pl' j).lo ≤ (spAt pl j).lo ∧ (spAt pl j).hi ≤ (spAt pl' j).hi) ∧ MidB B g np nl wr A1 A2 k1 k2 pl' ls W wx
def lnMore (mh ml : Int) (l : Ln) : Ln := ⟨l.fr, l.to, ⟨l.w.lo, mh⟩, ⟨ml, l.s.hi⟩⟩
def CutL (B g np nl : Nat) (wr : Int) (A1 A2 : Option Addr) (k1 k2 : Nat) (pl : List Sp) (ls : List Ln) (W wx : World) : Prop :=
  ∃ pl' ls', pl'.length = np ∧ ls'.length = nl ∧ BkWider np nl pl pl' ls ls' ∧ MidB B g np nl wr A1 A2 k1 k2 pl' ls' W wx
def encM (a b c d e f : Int) : Value := .agg #[.int .i64 a, .int .i64 b, .int .i64 c, .int .i64 d, .int .i64 e, .int .i64 f]
theorem Strange_z (Ap Al : Option Addr) (np cp nl cl : Nat) (wrg z : Int) (pl : List Sp) (ls : List Ln) (w : World) (hp : np ≤ 40) (hl : nl ≤ 40) (HP : SpsAt w Ap np pl) (HL : LnsAt w Al nl ls) (hz : askZ np nl pl ls wrg true = z) :
    Calls Try.prog 21 #[.agg #[.slice Ap np cp, .slice Al nl cl, .int .i64 wrg]] w fun e w' => (∃ A n c, e = .returned (.tuple #[.slice A n c, .int .i64 z])) ∧ Below w.heap.size w w' :=
  (Strange_c Ap Al np cp nl cl wrg pl ls w hp hl HP HL).mono fun e w' ⟨hb, h⟩ => by
    subst hz
    rcases h with ⟨_, rfl⟩ | ⟨h0, A, c, rfl, _⟩
    · exact ⟨⟨_, _, _, rfl⟩, hb⟩
    · rw [h0]; exact ⟨⟨_, _, _, rfl⟩, hb⟩
/-- what the two books' questions answer -/
theorem more_vals {np nl : Nat} {pl pl' : List Sp} {ls ls' : List Ln} {wrg yr : Int} (hw : BkWider np nl pl pl' ls ls') (ho : OkBk np nl pl ls) (ho' : OkBk np nl pl' ls') (hck : ckBk np nl pl ls wrg = true) (hck' : ckBk np nl pl' ls' (wrg + yr) = true) (h0 : 0 ≤ wrg) (hy : 0 ≤ yr) :
    (∃ m n : Nat, fewR np nl pl ls wrg = ((m : Int), 0) ∧ fewR np nl pl' ls' (wrg + yr) = ((n : Int), 0) ∧ n ≤ m ∧ (((m : Int) ≤ wrg ∧ askZ np nl pl ls wrg true = 0) ∨ (¬ (m : Int) ≤ wrg ∧ askZ np nl pl ls wrg true = 3)) ∧
      (((n : Int) ≤ wrg + yr ∧ askZ np nl pl' ls' (wrg + yr) true = 0) ∨ (¬ (n : Int) ≤ wrg + yr ∧ askZ np nl pl' ls' (wrg + yr) true = 3))) ∨
    (fewR np nl pl ls wrg = (0, 3) ∧ askZ np nl pl ls wrg true = 3 ∧ ((fewR np nl pl' ls' (wrg + yr) = (0, 3) ∧ askZ np nl pl' ls' (wrg + yr) true = 3) ∨
      ∃ n : Nat, fewR np nl pl' ls' (wrg + yr) = ((n : Int), 0) ∧ (((n : Int) ≤ wrg + yr ∧ askZ np nl pl' ls' (wrg + yr) true = 0) ∨ (¬ (n : Int) ≤ wrg + yr ∧ askZ np nl pl' ls' (wrg + yr) true = 3)))) := by
  have one : ∀ {pl : List Sp} {ls : List Ln} {wr : Int}, OkBk np nl pl ls → ckBk np nl pl ls wr = true → 0 ≤ wr → (fewL np nl pl ls = none → fewR np nl pl ls wr = (0, 3) ∧ askZ np nl pl ls wr true = 3) ∧
      ∀ k, fewL np nl pl ls = some k → fewR np nl pl ls wr = ((k : Int), 0) ∧ (((k : Int) ≤ wr ∧ askZ np nl pl ls wr true = 0) ∨ (¬ (k : Int) ≤ wr ∧ askZ np nl pl ls wr true = 3)) := by
    intro pl ls wr ho hck h0
    have hf := ask_few ho hck h0
    have h3 := ask_03 hck
    refine ⟨fun e => ⟨by simp [fewR, hck, e, fewO], ?_⟩, fun k e => ⟨by simp [fewR, hck, e, fewO], ?_⟩⟩
    · rcases h3 with h3 | h3
      · obtain ⟨k, h, _⟩ := hf.1 h3; rw [e] at h; cases h
      · exact h3
    · by_cases hk : (k : Int) ≤ wr
      · exact .inl ⟨hk, hf.2 ⟨k, e, hk⟩⟩
      · refine .inr ⟨hk, ?_⟩
        rcases h3 with h3 | h3
        · obtain ⟨k', h, h'⟩ := hf.1 h3; rw [e] at h; cases h; exact absurd h' hk
        · exact h3
  obtain ⟨a1, a2⟩ := one ho hck h0
  obtain ⟨b1, b2⟩ := one ho' hck' (by omega)
  cases e : fewL np nl pl ls with
  | none =>
    refine .inr ⟨(a1 e).1, (a1 e).2, ?_⟩
    cases e' : fewL np nl pl' ls' with
    | none => exact .inl (b1 e')
    | some n => exact .inr ⟨n, b2 n e'⟩
  | some m =>
    refine .inl ?_
    obtain ⟨h1, h2⟩ := fewL_spec e
    obtain ⟨s, hs⟩ := List.exists_mem_of_ne_nil _ h2
    obtain ⟨s', hs', -⟩ := sets_wider hw ho ho' hs (Nat.le_refl m) h1
    obtain ⟨n, hn, hle⟩ := fewL_le h1 (fun e => by rw [e] at hs'; simp at hs')
    exact ⟨m, n, (a2 m e).1, (b2 n hn).1, hle, (a2 m e).2, (b2 n hn).2⟩
set_option maxRecDepth 100000 in
set_option maxHeartbeats 6400000 in
theorem More_c (Ap Al : Option Addr) (np cp nl cl : Nat) (wrg yp yc yl yw ys yr : Int) (pl : List Sp) (ls : List Ln) (w : World) (hp : np ≤ 9223372036854775807) (hl : nl ≤ 9223372036854775807)
    (HP : SpsAt w Ap np pl) (HL : LnsAt w Al nl ls) :
    Calls Try.prog 5 #[.agg #[.slice Ap np cp, .slice Al nl cl, .int .i64 wrg], .agg #[.int .i64 yp, .int .i64 yc, .int .i64 yl, .int .i64 yw, .int .i64 ys, .int .i64 yr]] w
      fun e w' => e = .returned (.bool true) ∧ Below w.heap.size w w' := by
  have HPI := Lib.hid HP
  have HLI := Lib.hid HL
  have lpI := Lib.hid HP.1
  have llI := Lib.hid HL.1
  clear HP HL
  by_cases hbig : 40 < np ∨ 40 < nl
  · skip
    go_enter Try.func5, Try.ntmps5
    go_wp2_with fail
    obtain ⟨X, hX⟩ : ∃ X, (w.alloc (.cells #[.slice Ap np cp, .slice Al nl cl, .int .i64 wrg] 25)).alloc (.cells #[.int .i64 yp, .int .i64 yc, .int .i64 yl, .int .i64 yw, .int .i64 ys, .int .i64 yr] 53) = X := ⟨_, rfl⟩
    rw [hX]
    have D := Lib.hid (al2_0 hX).2.1
    have P := Lib.hid (al2_1 hX).2.1
    have nX := (al2_0 hX).1
    have mX := (al2_1 hX).1
    have BW := (al2 hX).1
    have zX := BW.size
    have B0 : Below X.heap.size X X := Below.refl _ _
    clear hX
    go_at_call 11
    refine (readyBig_c Ap Al np cp nl cl wrg X hbig hp hl).mono ?_
    rintro e w1 ⟨rfl, hb1⟩
    have B1 : Below X.heap.size X w1 := B0.trans (hb1.mono B0.size)
    have z1 := B1.size
    have d1 := fun i => (B1.cell (p := ⟨w.heap.size, i, none⟩) nX).trans (D.out i)
    have p1 := fun i => (B1.cell (p := ⟨w.heap.size + 1, i, none⟩) mX).trans (P.out i)
    clear hb1
    go_wp2_with (go_at_call 13; refine (works_c _).mono ?_; (rintro e w8 ⟨rfl, hb8⟩))
    go_ret
    exact ⟨rfl, BW.trans (Below.mono (B1.trans (hb8.mono B1.size)) zX)⟩
  have hp40 : np ≤ 40 := by omega
  have hl40 : nl ≤ 40 := by omega
  clear hbig hp hl
  cases hr : rdyB np nl pl ls wrg
  · skip
    go_enter Try.func5, Try.ntmps5
    go_wp2_with fail
    obtain ⟨X, hX⟩ : ∃ X, (w.alloc (.cells #[.slice Ap np cp, .slice Al nl cl, .int .i64 wrg] 25)).alloc (.cells #[.int .i64 yp, .int .i64 yc, .int .i64 yl, .int .i64 yw, .int .i64 ys, .int .i64 yr] 53) = X := ⟨_, rfl⟩
    rw [hX]
    have D := Lib.hid (al2_0 hX).2.1
    have P := Lib.hid (al2_1 hX).2.1
    have nX := (al2_0 hX).1
    have mX := (al2_1 hX).1
    have BW := (al2 hX).1
    have zX := BW.size
    have B0 : Below X.heap.size X X := Below.refl _ _
    clear hX
    go_at_call 11
    refine (ready_c Ap Al np cp nl cl wrg pl ls X hp40 hl40 (HPI.out.later BW) (HLI.out.later BW)).mono ?_
    rw [hr]
    rintro e w1 ⟨rfl, hb1⟩
    have B1 : Below X.heap.size X w1 := B0.trans (hb1.mono B0.size)
    have z1 := B1.size
    have d1 := fun i => (B1.cell (p := ⟨w.heap.size, i, none⟩) nX).trans (D.out i)
    have p1 := fun i => (B1.cell (p := ⟨w.heap.size + 1, i, none⟩) mX).trans (P.out i)
    clear hb1
    go_wp2_with (go_at_call 13; refine (works_c _).mono ?_; (rintro e w8 ⟨rfl, hb8⟩))
    go_ret
    exact ⟨rfl, BW.trans (Below.mono (B1.trans (hb8.mono B1.size)) zX)⟩
  obtain ⟨hck, hp4, hl6⟩ := rdyB_yes hr
  have HR := Lib.hid hr
  have HCK := Lib.hid hck
  clear hr hck
  go_enter Try.func5, Try.ntmps5
  go_wp2_with fail
  obtain ⟨X, hX⟩ : ∃ X, (w.alloc (.cells #[.slice Ap np cp, .slice Al nl cl, .int .i64 wrg] 25)).alloc (.cells #[.int .i64 yp, .int .i64 yc, .int .i64 yl, .int .i64 yw, .int .i64 ys, .int .i64 yr] 53) = X := ⟨_, rfl⟩
  rw [hX]
  have D := Lib.hid (al2_0 hX).2.1
  have P := Lib.hid (al2_1 hX).2.1
  have nX := (al2_0 hX).1
  have mX := (al2_1 hX).1
  have BW := (al2 hX).1
  have zX := BW.size
  have B0 : Below X.heap.size X X := Below.refl _ _
  clear hX
  go_at_call 11
  refine (ready_c Ap Al np cp nl cl wrg pl ls X hp40 hl40 (HPI.out.later BW) (HLI.out.later BW)).mono ?_
  rw [HR.out]
  rintro e w1 ⟨rfl, hb1⟩
  have B1 : Below X.heap.size X w1 := B0.trans (hb1.mono B0.size)
  have z1 := B1.size
  have d1 := fun i => (B1.cell (p := ⟨w.heap.size, i, none⟩) nX).trans (D.out i)
  have p1 := fun i => (B1.cell (p := ⟨w.heap.size + 1, i, none⟩) mX).trans (P.out i)
  clear hb1
  have n1 : w.heap.size < w1.heap.size := by omega
  have m1 : w.heap.size + 1 < w1.heap.size := by omega
  by_cases hmn : min4 yc yw ys yr < 0
  · skip
    go_wp2_with (go_at_call 13; refine (works_c _).mono ?_; (rintro e w8 ⟨rfl, hb8⟩))
    go_ret
    exact ⟨rfl, BW.trans (Below.mono (B1.trans (hb8.mono B1.size)) zX)⟩
  by_cases hmx : 999 < max4 yc yw ys yr
  · skip
    go_wp2_with (go_at_call 13; refine (works_c _).mono ?_; (rintro e w8 ⟨rfl, hb8⟩))
    go_ret
    exact ⟨rfl, BW.trans (Below.mono (B1.trans (hb8.mono B1.size)) zX)⟩
  have hmn1 : 0 ≤ min4 yc yw ys yr := by omega
  have hmx1 : max4 yc yw ys yr ≤ 999 := by omega
  obtain ⟨c0, c1, c2, c3⟩ := min4_ge hmn
  obtain ⟨c4, c5, c6, c7⟩ := max4_le hmx
  replace hmn1 := Lib.hid c0
  clear hmn1
  go_wp2_with fail
  refine (Copy_c Ap Al np cp nl cl wrg pl ls w1 hp40 hl40 (HPI.out.later (BW.trans (B1.mono zX))) (HLI.out.later (BW.trans (B1.mono zX)))).mono ?_
  rintro e w2 ⟨A1, k1, A2, k2, rfl, hO, hb2⟩
  have HO := Lib.hid hO
  have zs2 := hb2.size
  have b12 := Lib.hid hb2
  have d2 := fun i => (hb2.cell (p := ⟨w.heap.size, i, none⟩) n1).trans (d1 i)
  have p2 := fun i => (hb2.cell (p := ⟨w.heap.size + 1, i, none⟩) m1).trans (p1 i)
  have n2 : w.heap.size < w2.heap.size := by omega
  have m2 : w.heap.size + 1 < w2.heap.size := by omega
  clear hO hb2 d1 p1
  go_upto_if 59 with (go_at_call 27; refine (IsPlace_c _ _ _ _ _ _ _ _ _ hp40).mono ?_; rintro e w3 ⟨rfl, hb3⟩; (have zs3 := hb3.size); (simp only [World.size_alloc] at zs3))
  have p3 := fun i => (hb3.cell (p := ⟨w.heap.size + 1, i, none⟩) (by simp; omega)).trans ((World.cell?_alloc_lt _ _ ⟨w.heap.size + 1, i, none⟩ m2).trans (p2 i))
  have d3 := fun i => (hb3.cell (p := ⟨w.heap.size, i, none⟩) (by simp; omega)).trans ((World.cell?_alloc_lt _ _ ⟨w.heap.size, i, none⟩ n2).trans (d2 i))
  have g3 := fun i => (hb3.cell (p := ⟨w2.heap.size, i, none⟩) (by simp)).trans ((al1_0 rfl).2.1 i)
  have u3 := fun i => (hb3.frozen (p := ⟨w2.heap.size, i, none⟩) (by simp)).trans ((al1_0 rfl).2.2 i)
  have B23 : Below w2.heap.size w2 w3 := by (repeat first | with_reducible assumption | with_reducible exact Below.refl _ _ | (with_reducible refine Below.alloc ?_ ?side _; case side => (first | omega | (with_reducible exact Below.size (by assumption)) | (simp; done) | (simp; omega))) | (with_reducible refine Below.setCell ?_ ?side _; case side => (first | omega | (with_reducible exact Below.size (by assumption)) | (simp; done) | (simp; omega))) | with_reducible refine Below.drew ?_ | with_reducible refine below_drewN ?_ _ | (with_reducible refine below_step (by assumption) ?side ?_; case side => (first | omega | (with_reducible exact Below.size (by assumption)) | (simp; done) | (simp; omega))))
  have M3 : MidB w1.heap.size w2.heap.size np nl wrg A1 A2 k1 k2 pl ls w1 w3 := ⟨b12.out.trans (B23.mono zs2), g3 0, g3 1, g3 2, u3, ⟨own_below HO.out.hp B23, own_below HO.out.hl B23, HO.out.ne⟩,
    fun k h e => by have := (HO.out.hp.lt k h).2; omega, fun k h e => by have := (HO.out.hl.lt k h).2; omega, by omega, zs2⟩
  replace M3 := Lib.hid M3
  have n3 : w.heap.size < w3.heap.size := by omega
  have m3 : w.heap.size + 1 < w3.heap.size := by omega
  clear HO b12 d2 p2 hb3 B23
  go_cut [6] (fun s6 wx => CutP w1.heap.size w2.heap.size np nl wrg A1 A2 k1 k2 pl ls w1 wx)
  case first =>
    as_aux_lemma =>
      cases hno : isNo yp np
      · go_wp2_with fail
        go_meet
        exact ⟨pl, lpI.out, fun j _ => ⟨Int.le_refl _, Int.le_refl _⟩, M3.out⟩
      · obtain ⟨kp, rfl, hkp⟩ := isNo_of hno
        have bw3 : Below w.heap.size w w3 := BW.trans ((B1.trans (M3.out.below.mono B1.size)).mono zX)
        obtain ⟨bp, op, rfl, hbp, x0, x1⟩ := (HPI.out.later bw3).get hkp
        obtain ⟨ga, k1', e4s, hga, hga'⟩ := M3.out.own.hp.form (by omega)
        injection e4s with e4a e4b e4c
        subst e4a e4c
        have y := (okBk_of lpI.out llI.out HCK.out).1.sp kp
        have t0 := (M3.out.own.hp.cellAt (kp * 2) (by omega)).trans (flat_get (d := (⟨0, 0⟩ : Sp)) encS_len pl kp 0 (by omega) (by rw [lpI.out]; exact hkp))
        have t1 := (M3.out.own.hp.cellAt (kp * 2 + 1) (by omega)).trans (flat_get (d := (⟨0, 0⟩ : Sp)) encS_len pl kp 1 (by omega) (by rw [lpI.out]; exact hkp))
        replace t0 : w3.cell? ⟨ga, kp * 2, none⟩ = some (.int .i64 (spAt pl kp).lo) := t0
        replace t1 : w3.cell? ⟨ga, kp * 2 + 1, none⟩ = some (.int .i64 (spAt pl kp).hi) := t1
        have v0 := M3.out.own.hp.frozenAt (kp * 2)
        have v1 := M3.out.own.hp.frozenAt (kp * 2 + 1)
        have r1 : ¬ ga = w2.heap.size := M3.out.n1 ga rfl
        have r2 : ¬ w2.heap.size = ga := fun e => r1 e.symm
        have r3 : ¬ ga = w3.heap.size := by omega
        have l3 : w2.heap.size < w3.heap.size := M3.out.lg
        have s1 : IntKind.i64.wrap ((spAt pl kp).lo - yc) = (spAt pl kp).lo - yc := IntWalk.i64_in _ (by omega)
        have s2 : IntKind.i64.wrap ((spAt pl kp).hi + yc) = (spAt pl kp).hi + yc := IntWalk.i64_in _ (by omega)
        clear bw3 hno e4b
        go_wp2_with fail
        go_meet
        have zM := M3.out.below.size
        have hO1 : ((w3.setCell ⟨ga, kp * 2, none⟩ (.int .i64 ((spAt pl kp).lo - yc))).setCell ⟨ga, kp * 2 + 1, none⟩ (.int .i64 ((spAt pl kp).hi + yc))).ownsRow w1.heap.size 31 2 (.slice (some ⟨ga, 0, none⟩) np k1) np ((pl.set kp (spMore yc (spAt pl kp))).flatMap encS) := by
          have a1 := (M3.out.own.hp.stored (kp * 2 + 0) (.int .i64 ((spAt pl kp).lo - yc))).1
          rw [flat_set encS_len pl kp 0 ⟨(spAt pl kp).lo - yc, (spAt pl kp).hi⟩ (⟨0, 0⟩ : Sp) _ (by rw [lpI.out]; exact hkp) (by omega) rfl] at a1
          have a2 := (a1.stored (kp * 2 + 1) (.int .i64 ((spAt pl kp).hi + yc))).1
          rw [flat_set encS_len _ kp 1 (spMore yc (spAt pl kp)) (⟨0, 0⟩ : Sp) _ (by rw [List.length_set, lpI.out]; exact hkp) (by omega) (by
            rw [List.getD_eq_getElem?_getD, List.getElem?_set]
            simp [lpI.out, hkp, spMore, encS]), List.set_set] at a2
          exact a2
        refine ⟨pl.set kp (spMore yc (spAt pl kp)), by rw [List.length_set]; exact lpI.out, fun j hj => ?_, ?_⟩
        · have e : spAt (pl.set kp (spMore yc (spAt pl kp))) j = if j = kp then spMore yc (spAt pl kp) else spAt pl j := by
            unfold spAt
            simp only [List.getD_eq_getElem?_getD, List.getElem?_set]
            by_cases e : j = kp
            · subst e; simp [lpI.out, hkp]
            · rw [if_neg (fun h => e h.symm), if_neg e]
          rw [e]
          split
          · rename_i e; subst e; simp only [spMore]; omega
          · omega
        · refine ⟨?_, ?_, ?_, ?_, fun i => ?_, ⟨hO1.alloc _, ?_, M3.out.own.ne⟩, M3.out.n1, M3.out.n2, by simp; omega, M3.out.bg⟩
          · have := M3.out.below
            (repeat first | with_reducible assumption | with_reducible exact Below.refl _ _ | (with_reducible refine Below.alloc ?_ ?side _; case side => (first | omega | (with_reducible exact Below.size (by assumption)) | (simp; done) | (simp; omega))) | (with_reducible refine Below.setCell ?_ ?side _; case side => (first | omega | (with_reducible exact Below.size (by assumption)) | (simp; done) | (simp; omega))) | with_reducible refine Below.drew ?_ | with_reducible refine below_drewN ?_ _ | (with_reducible refine below_step (by assumption) ?side ?_; case side => (first | omega | (with_reducible exact Below.size (by assumption)) | (simp; done) | (simp; omega))))
          · exact (World.cell?_alloc_lt _ _ _ (by simpa using l3)).trans ((World.cell?_setCell_other _ _ _ _ (by first | omega | (simp; done) | (simp; omega))).trans ((World.cell?_setCell_other _ _ _ _ (by first | omega | (simp; done) | (simp; omega))).trans M3.out.c0))
          · exact (World.cell?_alloc_lt _ _ _ (by simpa using l3)).trans ((World.cell?_setCell_other _ _ _ _ (by first | omega | (simp; done) | (simp; omega))).trans ((World.cell?_setCell_other _ _ _ _ (by first | omega | (simp; done) | (simp; omega))).trans M3.out.c1))
          · exact (World.cell?_alloc_lt _ _ _ (by simpa using l3)).trans ((World.cell?_setCell_other _ _ _ _ (by first | omega | (simp; done) | (simp; omega))).trans ((World.cell?_setCell_other _ _ _ _ (by first | omega | (simp; done) | (simp; omega))).trans M3.out.c2))
          · simp only [frozen?_alloc_cells, World.frozen?_setCell]; exact M3.out.fr i
          · exact (own_set (own_set M3.out.own.hl (fun k hk e => M3.out.own.ne ga rfl (by rw [hk, e]))) (fun k hk e => M3.out.own.ne ga rfl (by rw [hk, e]))).alloc _
  case rest =>
    obtain ⟨pl', hpl', hwid, hM⟩ := hcut
    have M := Lib.hid hM
    replace hpl' := Lib.hid hpl'
    replace hwid := Lib.hid hwid
    have Bc : Below X.heap.size X wc := B1.trans (M.out.below.mono B1.size)
    have zc := Bc.size
    have dc := fun i => (Bc.cell (p := ⟨w.heap.size, i, none⟩) nX).trans (D.out i)
    have pc := fun i => (Bc.cell (p := ⟨w.heap.size + 1, i, none⟩) mX).trans (P.out i)
    have nc := Nat.lt_of_lt_of_le nX zc
    have mc := Nat.lt_of_lt_of_le mX zc
    clear hM M3 d3 p3 g3 u3
    go_upto_if 85 with (go_at_call 12; refine (IsLine_c _ _ _ _ _ _ _ _ _ hl40).mono ?_; rintro e w4 ⟨rfl, hb4⟩)
    have M4 := Lib.hid (M.out.later (Nat.le_refl _) hb4)
    have B4 : Below X.heap.size X w4 := Bc.trans (hb4.mono zc)
    have z4 := B4.size
    have d4 := fun i => (B4.cell (p := ⟨w.heap.size, i, none⟩) nX).trans (D.out i)
    have p4 := fun i => (B4.cell (p := ⟨w.heap.size + 1, i, none⟩) mX).trans (P.out i)
    have n4 := Nat.lt_of_lt_of_le nX z4
    have m4 := Nat.lt_of_lt_of_le mX z4
    clear M dc pc hb4 Bc
    go_cut [7] (fun s7 wx => CutL w1.heap.size w2.heap.size np nl wrg A1 A2 k1 k2 pl ls w1 wx)
    case first =>
      as_aux_lemma =>
        cases hno : isNo yl nl
        · go_wp2_with fail
          go_meet
          exact ⟨pl', ls, hpl'.out, llI.out, ⟨fun _ _ => rfl, fun _ _ => rfl, fun _ _ => Int.le_refl _, fun _ _ => Int.le_refl _, fun _ _ => Int.le_refl _, fun _ _ => rfl, fun j hj => (hwid.out j hj).1, fun j hj => (hwid.out j hj).2⟩, M4.out⟩
        · obtain ⟨kl, rfl, hkl⟩ := isNo_of hno
          have bw4 : Below w.heap.size w w4 := BW.trans (B4.mono zX)
          obtain ⟨bl, ol, rfl, hbl, x0, x1, x2, x3, x4, x5⟩ := (HLI.out.later bw4).get hkl
          obtain ⟨gb, k2', e4s, hgb, hgb'⟩ := M4.out.own.hl.form (by omega)
          injection e4s with e4a e4b e4c
          subst e4a e4c
          obtain ⟨y1, y2, y3, y4, y5, y6, y7, y8, y9⟩ := (okBk_of lpI.out llI.out HCK.out).1.ln kl
          have t3 : w4.cell? ⟨gb, kl * 6 + 2 + 1, none⟩ = some (.int .i64 (lnAt ls kl).w.hi) := (M4.out.own.hl.cellAt (kl * 6 + 3) (by omega)).trans (flat_get (d := (⟨0, 0, ⟨0, 0⟩, ⟨0, 0⟩⟩ : Ln)) encL_len ls kl 3 (by omega) (by rw [llI.out]; exact hkl))
          have t4 : w4.cell? ⟨gb, kl * 6 + 4, none⟩ = some (.int .i64 (lnAt ls kl).s.lo) := (M4.out.own.hl.cellAt (kl * 6 + 4) (by omega)).trans (flat_get (d := (⟨0, 0, ⟨0, 0⟩, ⟨0, 0⟩⟩ : Ln)) encL_len ls kl 4 (by omega) (by rw [llI.out]; exact hkl))
          have v3 : w4.frozen? ⟨gb, kl * 6 + 2 + 1, none⟩ = false := M4.out.own.hl.frozenAt (kl * 6 + 3)
          have v4 := M4.out.own.hl.frozenAt (kl * 6 + 4)
          have r1 : ¬ gb = w2.heap.size := M4.out.n2 gb rfl
          have r2 : ¬ w2.heap.size = gb := fun e => r1 e.symm
          have r3 : ¬ gb = w4.heap.size := by omega
          have r3' : ¬ w4.heap.size = gb := by omega
          have gb1 : w1.heap.size ≤ gb := hgb
          have r4 : ¬ w.heap.size + 1 = gb := by omega
          have r4' : ¬ gb = w.heap.size + 1 := by omega
          have c0' := M4.out.c0
          have c1' := M4.out.c1
          have l4 : w2.heap.size < w4.heap.size := M4.out.lg
          have s1 : IntKind.i64.wrap ((lnAt ls kl).w.hi + yw) = (lnAt ls kl).w.hi + yw := IntWalk.i64_in _ (by omega)
          have s2 : IntKind.i64.wrap ((lnAt ls kl).s.lo - ys) = (lnAt ls kl).s.lo - ys := IntWalk.i64_in _ (by omega)
          clear bw4 hno e4b
          have fin : ∀ mh ml : Int, (lnAt ls kl).w.hi ≤ mh → ml ≤ (lnAt ls kl).s.lo → CutL w1.heap.size w2.heap.size np nl wrg A1 (some ⟨gb, 0, none⟩) k1 k2 pl ls w1
              (((w4.setCell ⟨gb, kl * 6 + 2 + 1, none⟩ (.int .i64 mh)).setCell ⟨gb, kl * 6 + 4, none⟩ (.int .i64 ml)).alloc (.cells #[.int .i64 (lnAt ls kl).fr, .int .i64 (lnAt ls kl).to, .int .i64 (lnAt ls kl).w.lo, .int .i64 (lnAt ls kl).w.hi, .int .i64 (lnAt ls kl).s.lo, .int .i64 (lnAt ls kl).s.hi] 33)) := by
            as_aux_lemma =>
            intro mh ml h1 h2
            have zM := M4.out.below.size
            have hO1 : ((w4.setCell ⟨gb, kl * 6 + 2 + 1, none⟩ (.int .i64 mh)).setCell ⟨gb, kl * 6 + 4, none⟩ (.int .i64 ml)).ownsRow w1.heap.size 33 6 (.slice (some ⟨gb, 0, none⟩) nl k2) nl ((ls.set kl (lnMore mh ml (lnAt ls kl))).flatMap encL) := by
              have a1 := (M4.out.own.hl.stored (kl * 6 + 3) (.int .i64 mh)).1
              rw [flat_set encL_len ls kl 3 ⟨(lnAt ls kl).fr, (lnAt ls kl).to, ⟨(lnAt ls kl).w.lo, mh⟩, (lnAt ls kl).s⟩ (⟨0, 0, ⟨0, 0⟩, ⟨0, 0⟩⟩ : Ln) _ (by rw [llI.out]; exact hkl) (by omega) rfl] at a1
              have a2 := (a1.stored (kl * 6 + 4) (.int .i64 ml)).1
              rw [flat_set encL_len _ kl 4 (lnMore mh ml (lnAt ls kl)) (⟨0, 0, ⟨0, 0⟩, ⟨0, 0⟩⟩ : Ln) _ (by rw [List.length_set, llI.out]; exact hkl) (by omega) (by
                rw [List.getD_eq_getElem?_getD, List.getElem?_set]
                simp [llI.out, hkl, lnMore, encL]), List.set_set] at a2
              exact a2
            have eAt : ∀ i, i < nl → lnAt (ls.set kl (lnMore mh ml (lnAt ls kl))) i = if i = kl then lnMore mh ml (lnAt ls kl) else lnAt ls i := fun i hi => by
              show (ls.set kl _).getD i _ = _
              rw [List.getD_eq_getElem?_getD, List.getElem?_set]
              by_cases e : i = kl
              · subst e; simp [llI.out, hkl]
              · rw [if_neg (fun h => e h.symm), if_neg e]; unfold lnAt; rw [List.getD_eq_getElem?_getD]
            refine ⟨pl', ls.set kl (lnMore mh ml (lnAt ls kl)), hpl'.out, by rw [List.length_set]; exact llI.out, ⟨fun i hi => ?_, fun i hi => ?_, fun i hi => ?_, fun i hi => ?_, fun i hi => ?_, fun i hi => ?_, fun j hj => (hwid.out j hj).1, fun j hj => (hwid.out j hj).2⟩, ?_⟩
            · rw [eAt i hi]; split <;> first | rfl | (rename_i e; subst e; rfl)
            · rw [eAt i hi]; split <;> first | rfl | (rename_i e; subst e; rfl)
            · rw [eAt i hi]; split <;> first | exact Int.le_refl _ | (rename_i e; subst e; exact Int.le_refl _)
            · rw [eAt i hi]; split <;> first | exact Int.le_refl _ | (rename_i e; subst e; exact h1)
            · rw [eAt i hi]; split <;> first | exact Int.le_refl _ | (rename_i e; subst e; exact h2)
            · rw [eAt i hi]; split <;> first | rfl | (rename_i e; subst e; rfl)
            · refine ⟨?_, ?_, ?_, ?_, fun i => ?_, ⟨?_, hO1.alloc _, M4.out.own.ne⟩, M4.out.n1, M4.out.n2, by simp; omega, M4.out.bg⟩
              · have := M4.out.below
                (repeat first | with_reducible assumption | with_reducible exact Below.refl _ _ | (with_reducible refine Below.alloc ?_ ?side _; case side => (first | omega | (with_reducible exact Below.size (by assumption)) | (simp; done) | (simp; omega))) | (with_reducible refine Below.setCell ?_ ?side _; case side => (first | omega | (with_reducible exact Below.size (by assumption)) | (simp; done) | (simp; omega))) | with_reducible refine Below.drew ?_ | with_reducible refine below_drewN ?_ _ | (with_reducible refine below_step (by assumption) ?side ?_; case side => (first | omega | (with_reducible exact Below.size (by assumption)) | (simp; done) | (simp; omega))))
              · exact (World.cell?_alloc_lt _ _ _ (by simpa using l4)).trans ((World.cell?_setCell_other _ _ _ _ (by first | omega | (simp; done) | (simp; omega))).trans ((World.cell?_setCell_other _ _ _ _ (by first | omega | (simp; done) | (simp; omega))).trans M4.out.c0))
              · exact (World.cell?_alloc_lt _ _ _ (by simpa using l4)).trans ((World.cell?_setCell_other _ _ _ _ (by first | omega | (simp; done) | (simp; omega))).trans ((World.cell?_setCell_other _ _ _ _ (by first | omega | (simp; done) | (simp; omega))).trans M4.out.c1))
              · exact (World.cell?_alloc_lt _ _ _ (by simpa using l4)).trans ((World.cell?_setCell_other _ _ _ _ (by first | omega | (simp; done) | (simp; omega))).trans ((World.cell?_setCell_other _ _ _ _ (by first | omega | (simp; done) | (simp; omega))).trans M4.out.c2))
              · simp only [frozen?_alloc_cells, World.frozen?_setCell]; exact M4.out.fr i
              · exact (own_set (own_set M4.out.own.hp (fun k hk e => M4.out.own.ne k hk (by rw [show k = gb from e]; rfl))) (fun k hk e => M4.out.own.ne k hk (by rw [show k = gb from e]; rfl))).alloc _
          replace fin := Lib.hid fin
          by_cases h1 : (lnAt ls kl).w.hi + yw < 999 <;> by_cases h2 : 0 < (lnAt ls kl).s.lo - ys
          all_goals
            as_aux_lemma =>
              go_wp2_with fail
              go_meet
              exact fin.out _ _ (by omega) (by omega)
    case rest =>
      as_aux_lemma =>
        obtain ⟨pl', ls', lp', ll', hW, hM⟩ := hcut
        have M := Lib.hid hM
        have HWd := Lib.hid hW
        replace lp' := Lib.hid lp'
        replace ll' := Lib.hid ll'
        have Bc : Below X.heap.size X wc := B1.trans (M.out.below.mono B1.size)
        have zc := Bc.size
        have pc := fun i => (Bc.cell (p := ⟨w.heap.size + 1, i, none⟩) mX).trans (P.out i)
        have mc := Nat.lt_of_lt_of_le mX zc
        obtain ⟨hokb, hw0, hw8⟩ := okBk_of lpI.out llI.out HCK.out
        have HOK := Lib.hid hokb
        have c0' := M.out.c0
        have c1' := M.out.c1
        have c2' := M.out.c2
        have u' := M.out.fr
        have lg := M.out.lg
        have bg := M.out.bg
        have zM := M.out.below.size
        have hs1 : IntKind.i64.wrap (wrg + yr) = wrg + yr := IntWalk.i64_in _ (by omega)
        clear hM hW hokb M4 d4 p4 hmn hmx hmx1
        go_wp2_with fail
        have sp0 : SpsAt (wc.setCell ⟨w2.heap.size, 2, none⟩ (.int .i64 (wrg + yr))) A1 np pl' := sps_iff.2 (sl_of_own encS_len (own_set M.out.own.hp (fun k hk => M.out.n1 k hk)) lp'.out)
        have sl0 : LnsAt (wc.setCell ⟨w2.heap.size, 2, none⟩ (.int .i64 (wrg + yr))) A2 nl ls' := lns_iff.2 (sl_of_own encL_len (own_set M.out.own.hl (fun k hk => M.out.n2 k hk)) ll'.out)
        have bz0 : Below w.heap.size w (wc.setCell ⟨w2.heap.size, 2, none⟩ (.int .i64 (wrg + yr))) := by
          have := BW.trans (Bc.mono zX)
          (repeat first | with_reducible assumption | with_reducible exact Below.refl _ _ | (with_reducible refine Below.alloc ?_ ?side _; case side => (first | omega | (with_reducible exact Below.size (by assumption)) | (simp; done) | (simp; omega))) | (with_reducible refine Below.setCell ?_ ?side _; case side => (first | omega | (with_reducible exact Below.size (by assumption)) | (simp; done) | (simp; omega))) | with_reducible refine Below.drew ?_ | with_reducible refine below_drewN ?_ _ | (with_reducible refine below_step (by assumption) ?side ?_; case side => (first | omega | (with_reducible exact Below.size (by assumption)) | (simp; done) | (simp; omega))))
        have dz0 := fun i => (World.cell?_setCell_other wc ⟨w2.heap.size, 2, none⟩ ⟨w.heap.size, i, none⟩ (.int .i64 (wrg + yr)) (by first | omega | (simp; done) | (simp; omega))).trans ((Bc.cell (p := ⟨w.heap.size, i, none⟩) nX).trans (D.out i))
        have cz0 := (World.cell?_setCell_other wc ⟨w2.heap.size, 2, none⟩ ⟨w2.heap.size, 0, none⟩ (.int .i64 (wrg + yr)) (by simp)).trans c0'
        have cz1 := (World.cell?_setCell_other wc ⟨w2.heap.size, 2, none⟩ ⟨w2.heap.size, 1, none⟩ (.int .i64 (wrg + yr)) (by simp)).trans c1'
        have cz2 := World.cell?_setCell_same wc ⟨w2.heap.size, 2, none⟩ (.int .i64 (wrg + yr)) c2'
        obtain ⟨Z, hZ⟩ : ∃ Z, wc.setCell ⟨w2.heap.size, 2, none⟩ (.int .i64 (wrg + yr)) = Z := ⟨_, rfl⟩
        have sZ : Z.heap.size = wc.heap.size := by rw [← hZ]; simp
        rw [hZ] at sp0 sl0 bz0 cz0 cz1 cz2 ⊢
        simp only [hZ] at dz0
        have SP := Lib.hid sp0
        have SL := Lib.hid sl0
        have DZ := Lib.hid dz0
        have C0 := Lib.hid cz0
        have C1 := Lib.hid cz1
        have C2 := Lib.hid cz2
        have BWZ := bz0
        have zZ := BWZ.size
        have nZ : w.heap.size < Z.heap.size := by omega
        have gZ : w2.heap.size < Z.heap.size := by omega
        have Z0 : Below Z.heap.size Z Z := Below.refl _ _
        clear hZ sZ sp0 sl0 bz0 dz0 cz0 cz1 cz2 c0' c1' c2' u' pc hs1
        go_at_call 11
        cases hro : rdyB np nl pl' ls' (wrg + yr)
        · refine (ready_c A1 A2 np k1 nl k2 (wrg + yr) pl' ls' Z hp40 hl40 SP.out SL.out).mono ?_
          rw [hro]
          rintro e w5 ⟨rfl, hb5⟩
          go_wp2_with (go_at_call 13; refine (works_c _).mono ?_; (rintro e w10 ⟨rfl, hb10⟩))
          go_ret
          exact ⟨rfl, BWZ.trans (Below.mono (hb5.trans (hb10.mono hb5.size)) zZ)⟩
        obtain ⟨hck', -, -⟩ := rdyB_yes hro
        have HOK' := Lib.hid (okBk_of lp'.out ll'.out hck').1
        have HV := Lib.hid (more_vals HWd.out HOK.out HOK'.out HCK.out hck' hw0 c3)
        refine (ready_c A1 A2 np k1 nl k2 (wrg + yr) pl' ls' Z hp40 hl40 SP.out SL.out).mono ?_
        rw [hro]
        rintro e w5 ⟨rfl, hb5⟩
        have d0 := DZ.out
        have f00 := C0.out
        have f10 := C1.out
        have f20 := C2.out
        have Z5 : Below Z.heap.size Z w5 := Z0.trans (hb5.mono Z0.size)
        have zz5 := Z5.size
        have d5 := fun i => (Z5.cell (p := ⟨w.heap.size, i, none⟩) nZ).trans (DZ.out i)
        have f05 := (Z5.cell (p := ⟨w2.heap.size, 0, none⟩) gZ).trans C0.out
        have f15 := (Z5.cell (p := ⟨w2.heap.size, 1, none⟩) gZ).trans C1.out
        have f25 := (Z5.cell (p := ⟨w2.heap.size, 2, none⟩) gZ).trans C2.out
        have nn5 := Nat.lt_of_lt_of_le nZ zz5
        have gg5 := Nat.lt_of_lt_of_le gZ zz5
        clear hb5 d0 f00 f10 f20
        clear hro hck'
        go_wp2_with fail
        rcases HV.out with ⟨m, n, F1, F2, hnm, (⟨hm, G1⟩ | ⟨hm, G1⟩), (⟨hn, G2⟩ | ⟨hn, G2⟩)⟩ | ⟨F1, G1, (⟨F2, G2⟩ | ⟨n, F2, (⟨hn, G2⟩ | ⟨hn, G2⟩)⟩)⟩
        · replace F1 := Lib.hid F1
          replace F2 := Lib.hid F2
          replace G1 := Lib.hid G1
          replace G2 := Lib.hid G2
          have hT : truthSets np nl pl ls wrg ≠ [] := fun e => by
            obtain ⟨-, -, h⟩ := askZ_zero G1.out
            rw [e] at h; cases h
          have EM := Lib.hid (fun (i : Nat) (hi : i < 2 * nl + np + 1) => ends_more HWd.out HOK.out HOK'.out hw0 (show wrg ≤ wrg + yr by omega) hT hi)
          clear hT
          as_aux_lemma =>
            refine (fewest_c Ap Al np cp nl cl wrg pl ls w5 hp40 hl40 (HPI.out.later (BWZ.trans (Z5.mono zZ))) (HLI.out.later (BWZ.trans (Z5.mono zZ)))).mono ?_
            rw [F1.out]
            rintro e w6 ⟨rfl, hb6⟩
            have Z6 : Below Z.heap.size Z w6 := Z5.trans (hb6.mono Z5.size)
            have zz6 := Z6.size
            have d6 := fun i => (Z6.cell (p := ⟨w.heap.size, i, none⟩) nZ).trans (DZ.out i)
            have f06 := (Z6.cell (p := ⟨w2.heap.size, 0, none⟩) gZ).trans C0.out
            have f16 := (Z6.cell (p := ⟨w2.heap.size, 1, none⟩) gZ).trans C1.out
            have f26 := (Z6.cell (p := ⟨w2.heap.size, 2, none⟩) gZ).trans C2.out
            have nn6 := Nat.lt_of_lt_of_le nZ zz6
            have gg6 := Nat.lt_of_lt_of_le gZ zz6
            clear hb6 d5 f05 f15 f25
            go_wp2_with fail
            refine (fewest_c A1 A2 np k1 nl k2 (wrg + yr) pl' ls' w6 hp40 hl40 (SP.out.later Z6) (SL.out.later Z6)).mono ?_
            rw [F2.out]
            rintro e w7 ⟨rfl, hb7⟩
            have Z7 : Below Z.heap.size Z w7 := Z6.trans (hb7.mono Z6.size)
            have zz7 := Z7.size
            have d7 := fun i => (Z7.cell (p := ⟨w.heap.size, i, none⟩) nZ).trans (DZ.out i)
            have f07 := (Z7.cell (p := ⟨w2.heap.size, 0, none⟩) gZ).trans C0.out
            have f17 := (Z7.cell (p := ⟨w2.heap.size, 1, none⟩) gZ).trans C1.out
            have f27 := (Z7.cell (p := ⟨w2.heap.size, 2, none⟩) gZ).trans C2.out
            have nn7 := Nat.lt_of_lt_of_le nZ zz7
            have gg7 := Nat.lt_of_lt_of_le gZ zz7
            clear hb7 d6 f06 f16 f26
            go_wp2_with fail
            refine (Strange_z Ap Al np cp nl cl wrg _ pl ls w7 hp40 hl40 (HPI.out.later (BWZ.trans (Z7.mono zZ))) (HLI.out.later (BWZ.trans (Z7.mono zZ))) G1.out).mono ?_
            rintro e w8 ⟨⟨q1, q2, q3, rfl⟩, hb8⟩
            have Z8 : Below Z.heap.size Z w8 := Z7.trans (hb8.mono Z7.size)
            have zz8 := Z8.size
            have d8 := fun i => (Z8.cell (p := ⟨w.heap.size, i, none⟩) nZ).trans (DZ.out i)
            have f08 := (Z8.cell (p := ⟨w2.heap.size, 0, none⟩) gZ).trans C0.out
            have f18 := (Z8.cell (p := ⟨w2.heap.size, 1, none⟩) gZ).trans C1.out
            have f28 := (Z8.cell (p := ⟨w2.heap.size, 2, none⟩) gZ).trans C2.out
            have nn8 := Nat.lt_of_lt_of_le nZ zz8
            have gg8 := Nat.lt_of_lt_of_le gZ zz8
            clear hb8 d7 f07 f17 f27
            go_wp2_with fail
            refine (Strange_z A1 A2 np k1 nl k2 (wrg + yr) _ pl' ls' w8 hp40 hl40 (SP.out.later Z8) (SL.out.later Z8) G2.out).mono ?_
            rintro e w9 ⟨⟨q4, q5, q6, rfl⟩, hb9⟩
            have Z9 : Below Z.heap.size Z w9 := Z8.trans (hb9.mono Z8.size)
            have zz9 := Z9.size
            have d9 := fun i => (Z9.cell (p := ⟨w.heap.size, i, none⟩) nZ).trans (DZ.out i)
            have f09 := (Z9.cell (p := ⟨w2.heap.size, 0, none⟩) gZ).trans C0.out
            have f19 := (Z9.cell (p := ⟨w2.heap.size, 1, none⟩) gZ).trans C1.out
            have f29 := (Z9.cell (p := ⟨w2.heap.size, 2, none⟩) gZ).trans C2.out
            have nn9 := Nat.lt_of_lt_of_le nZ zz9
            have gg9 := Nat.lt_of_lt_of_le gZ zz9
            clear hb9 d8 f08 f18 f28
            have hk0 : isKn 0 = true := rfl
            have hk3 : isKn 3 = true := rfl
            have e1 : decide (m < n) = false := by simp; omega
            have e2 : decide ((m : Int) ≤ wrg) = true := by simp; omega
            have e3 : decide ((n : Int) ≤ wrg + yr) = true := by simp; omega
            go_wp2_with (go_at_call 16; refine (isKnown_c _ _).mono ?_; rintro e w' ⟨rfl, rfl⟩)
            clear d9 f09 f19 f29
            go_loopw [16] (fun i (wr : World) => ∃ j : Nat, j ≤ nl ∧ i = .int .i64 j ∧ Below Z.heap.size Z wr) (fun i _ => nl - (intOf i).toNat)
            case atStart => exact ⟨0, by omega, rfl, Z9⟩
            case round =>
              obtain ⟨j, hj, rfl, hb⟩ := hrel
              have zb := hb.size
              have dd := fun i => (hb.cell (p := ⟨w.heap.size, i, none⟩) nZ).trans (DZ.out i)
              have f0 := (hb.cell (p := ⟨w2.heap.size, 0, none⟩) gZ).trans C0.out
              have f1 := (hb.cell (p := ⟨w2.heap.size, 1, none⟩) gZ).trans C1.out
              have f2 := (hb.cell (p := ⟨w2.heap.size, 2, none⟩) gZ).trans C2.out
              have nn := Nat.lt_of_lt_of_le nZ (hb.size)
              have gg := Nat.lt_of_lt_of_le gZ (hb.size)
              by_cases hlt : j < nl
              · have hB : decide ((j : Int) < nl) = true := by simp; omega
                have hin := EM.out (2 * j) (by omega)
                go_wp2_with fail
                refine (Line_c Ap Al np cp _ cl wrg (j : Int) pl ls wr hp40 hl40 (HPI.out.later (BWZ.trans (hb.mono zZ))) (HLI.out.later (BWZ.trans (hb.mono zZ)))).mono ?_
                rw [ans_ok G1.out (isNo_nat hlt), show 2 * (j : Int).toNat = 2 * j from rfl]
                rintro e v1 ⟨rfl, hv1⟩
                obtain ⟨s1, hs1⟩ : ∃ s1, endsB np nl pl ls wrg (2 * j) = s1 := ⟨_, rfl⟩
                obtain ⟨s2, hs2⟩ : ∃ s2, endsB np nl pl' ls' (wrg + yr) (2 * j) = s2 := ⟨_, rfl⟩
                rw [hs1, hs2] at hin
                rw [hs1]
                have HIN := Lib.hid hin
                have HS2 := Lib.hid hs2
                have V1 : Below Z.heap.size Z v1 := hb.trans (hv1.mono zb)
                have zv1 := V1.size
                clear dd f0 f1 f2 nn gg hs1 hs2 hin hv1
                have dd := fun i => (V1.cell (p := ⟨w.heap.size, i, none⟩) nZ).trans (DZ.out i)
                have f0 := (V1.cell (p := ⟨w2.heap.size, 0, none⟩) gZ).trans C0.out
                have f1 := (V1.cell (p := ⟨w2.heap.size, 1, none⟩) gZ).trans C1.out
                have f2 := (V1.cell (p := ⟨w2.heap.size, 2, none⟩) gZ).trans C2.out
                have nn := Nat.lt_of_lt_of_le nZ (V1.size)
                have gg := Nat.lt_of_lt_of_le gZ (V1.size)
                unfold vSp
                go_wp2_with fail
                have V1a : Below Z.heap.size Z (v1.alloc (.cells #[.int .i64 s1.lo, .int .i64 s1.hi] 31)) := V1.alloc zv1 _
                refine (Line_c A1 A2 np k1 _ k2 (wrg + yr) (j : Int) pl' ls' _ hp40 hl40 (SP.out.later V1a) (SL.out.later V1a)).mono ?_
                rw [ans_ok G2.out (isNo_nat hlt), show 2 * (j : Int).toNat = 2 * j from rfl, HS2.out]
                rintro e v2 ⟨rfl, hv2⟩
                have V2 : Below Z.heap.size Z v2 := V1a.trans (hv2.mono (by simp; omega))
                have zv2 := V2.size
                have ss := fun i => (hv2.cell (p := ⟨v1.heap.size, i, none⟩) (by simp)).trans ((al1_0 rfl).2.1 i)
                have ll : v1.heap.size < v2.heap.size := by have := hv2.size; simp only [World.size_alloc] at this; omega
                clear dd f0 f1 f2 nn gg hv2
                unfold vSp
                go_wp2_with fail
                refine (inside_c _ _ _ _ _).mono ?_
                rw [HIN.out]
                rintro e v3 ⟨rfl, hv3⟩
                go_wp2
                go_roundw
                case rel => exact ⟨j + 1, by omega, by go_num, Below.trans (V2.alloc zv2 _) (hv3.mono (by simp; omega))⟩
                case measure => simp [intOf]; omega
              · obtain rfl : j = nl := by omega
                have hB : decide (((j : Nat) : Int) < j) = false := by simp
                go_wp2_with fail
                obtain ⟨wo, rfl⟩ : ∃ wo : World, wo = wr := ⟨_, rfl⟩
                clear dd f0 f1 f2 nn gg
                go_loopw [21] (fun i (wr : World) => ∃ q : Nat, q ≤ np ∧ i = .int .i64 q ∧ Below Z.heap.size Z wr) (fun i _ => np - (intOf i).toNat)
                case atStart => exact ⟨0, by omega, rfl, hb⟩
                case round =>
                  obtain ⟨q, hq, rfl, hb⟩ := hrel
                  have zb := hb.size
                  have dd := fun i => (hb.cell (p := ⟨w.heap.size, i, none⟩) nZ).trans (DZ.out i)
                  have f0 := (hb.cell (p := ⟨w2.heap.size, 0, none⟩) gZ).trans C0.out
                  have f1 := (hb.cell (p := ⟨w2.heap.size, 1, none⟩) gZ).trans C1.out
                  have f2 := (hb.cell (p := ⟨w2.heap.size, 2, none⟩) gZ).trans C2.out
                  have nn := Nat.lt_of_lt_of_le nZ (hb.size)
                  have gg := Nat.lt_of_lt_of_le gZ (hb.size)
                  by_cases hlt : q < np
                  · have hB : decide ((q : Int) < np) = true := by simp; omega
                    have hin := EM.out (2 * j + q) (by omega)
                    go_wp2_with fail
                    refine (Stock_c Ap Al np cp _ cl wrg (q : Int) pl ls wr hp40 hl40 (HPI.out.later (BWZ.trans (hb.mono zZ))) (HLI.out.later (BWZ.trans (hb.mono zZ)))).mono ?_
                    rw [ans_ok G1.out (isNo_nat hlt), show 2 * j + (q : Int).toNat = 2 * j + q from rfl]
                    rintro e v1 ⟨rfl, hv1⟩
                    obtain ⟨s1, hs1⟩ : ∃ s1, endsB np j pl ls wrg (2 * j + q) = s1 := ⟨_, rfl⟩
                    obtain ⟨s2, hs2⟩ : ∃ s2, endsB np j pl' ls' (wrg + yr) (2 * j + q) = s2 := ⟨_, rfl⟩
                    rw [hs1, hs2] at hin
                    rw [hs1]
                    have HIN := Lib.hid hin
                    have HS2 := Lib.hid hs2
                    have V1 : Below Z.heap.size Z v1 := hb.trans (hv1.mono zb)
                    have zv1 := V1.size
                    clear dd f0 f1 f2 nn gg hs1 hs2 hin hv1
                    have dd := fun i => (V1.cell (p := ⟨w.heap.size, i, none⟩) nZ).trans (DZ.out i)
                    have f0 := (V1.cell (p := ⟨w2.heap.size, 0, none⟩) gZ).trans C0.out
                    have f1 := (V1.cell (p := ⟨w2.heap.size, 1, none⟩) gZ).trans C1.out
                    have f2 := (V1.cell (p := ⟨w2.heap.size, 2, none⟩) gZ).trans C2.out
                    have nn := Nat.lt_of_lt_of_le nZ (V1.size)
                    have gg := Nat.lt_of_lt_of_le gZ (V1.size)
                    unfold vSp
                    go_wp2_with fail
                    have V1a : Below Z.heap.size Z (v1.alloc (.cells #[.int .i64 s1.lo, .int .i64 s1.hi] 31)) := V1.alloc zv1 _
                    refine (Stock_c A1 A2 np k1 _ k2 (wrg + yr) (q : Int) pl' ls' _ hp40 hl40 (SP.out.later V1a) (SL.out.later V1a)).mono ?_
                    rw [ans_ok G2.out (isNo_nat hlt), show 2 * j + (q : Int).toNat = 2 * j + q from rfl, HS2.out]
                    rintro e v2 ⟨rfl, hv2⟩
                    have V2 : Below Z.heap.size Z v2 := V1a.trans (hv2.mono (by simp; omega))
                    have zv2 := V2.size
                    have ss := fun i => (hv2.cell (p := ⟨v1.heap.size, i, none⟩) (by simp)).trans ((al1_0 rfl).2.1 i)
                    have ll : v1.heap.size < v2.heap.size := by have := hv2.size; simp only [World.size_alloc] at this; omega
                    clear dd f0 f1 f2 nn gg hv2
                    unfold vSp
                    go_wp2_with fail
                    refine (inside_c _ _ _ _ _).mono ?_
                    rw [HIN.out]
                    rintro e v3 ⟨rfl, hv3⟩
                    go_wp2
                    go_roundw
                    case rel => exact ⟨q + 1, by omega, by go_num, Below.trans (V2.alloc zv2 _) (hv3.mono (by simp; omega))⟩
                    case measure => simp [intOf]; omega
                  · obtain rfl : q = np := by omega
                    have hB : decide (((q : Nat) : Int) < q) = false := by simp
                    go_wp2_with (go_at_call 13; refine (works_c _).mono ?_; (rintro e w10 ⟨rfl, hb10⟩))
                    go_ret
                    exact ⟨rfl, BWZ.trans (Below.mono (hb.trans (hb10.mono zb)) zZ)⟩
        · exfalso; omega
        all_goals
          replace F1 := Lib.hid F1
          replace F2 := Lib.hid F2
          replace G1 := Lib.hid G1
          replace G2 := Lib.hid G2
          as_aux_lemma =>
            refine (fewest_c Ap Al np cp nl cl wrg pl ls w5 hp40 hl40 (HPI.out.later (BWZ.trans (Z5.mono zZ))) (HLI.out.later (BWZ.trans (Z5.mono zZ)))).mono ?_
            rw [F1.out]
            rintro e w6 ⟨rfl, hb6⟩
            have Z6 : Below Z.heap.size Z w6 := Z5.trans (hb6.mono Z5.size)
            have zz6 := Z6.size
            have d6 := fun i => (Z6.cell (p := ⟨w.heap.size, i, none⟩) nZ).trans (DZ.out i)
            have f06 := (Z6.cell (p := ⟨w2.heap.size, 0, none⟩) gZ).trans C0.out
            have f16 := (Z6.cell (p := ⟨w2.heap.size, 1, none⟩) gZ).trans C1.out
            have f26 := (Z6.cell (p := ⟨w2.heap.size, 2, none⟩) gZ).trans C2.out
            have nn6 := Nat.lt_of_lt_of_le nZ zz6
            have gg6 := Nat.lt_of_lt_of_le gZ zz6
            clear hb6 d5 f05 f15 f25
            go_wp2_with fail
            refine (fewest_c A1 A2 np k1 nl k2 (wrg + yr) pl' ls' w6 hp40 hl40 (SP.out.later Z6) (SL.out.later Z6)).mono ?_
            rw [F2.out]
            rintro e w7 ⟨rfl, hb7⟩
            have Z7 : Below Z.heap.size Z w7 := Z6.trans (hb7.mono Z6.size)
            have zz7 := Z7.size
            have d7 := fun i => (Z7.cell (p := ⟨w.heap.size, i, none⟩) nZ).trans (DZ.out i)
            have f07 := (Z7.cell (p := ⟨w2.heap.size, 0, none⟩) gZ).trans C0.out
            have f17 := (Z7.cell (p := ⟨w2.heap.size, 1, none⟩) gZ).trans C1.out
            have f27 := (Z7.cell (p := ⟨w2.heap.size, 2, none⟩) gZ).trans C2.out
            have nn7 := Nat.lt_of_lt_of_le nZ zz7
            have gg7 := Nat.lt_of_lt_of_le gZ zz7
            clear hb7 d6 f06 f16 f26
            go_wp2_with fail
            refine (Strange_z Ap Al np cp nl cl wrg _ pl ls w7 hp40 hl40 (HPI.out.later (BWZ.trans (Z7.mono zZ))) (HLI.out.later (BWZ.trans (Z7.mono zZ))) G1.out).mono ?_
            rintro e w8 ⟨⟨q1, q2, q3, rfl⟩, hb8⟩
            have Z8 : Below Z.heap.size Z w8 := Z7.trans (hb8.mono Z7.size)
            have zz8 := Z8.size
            have d8 := fun i => (Z8.cell (p := ⟨w.heap.size, i, none⟩) nZ).trans (DZ.out i)
            have f08 := (Z8.cell (p := ⟨w2.heap.size, 0, none⟩) gZ).trans C0.out
            have f18 := (Z8.cell (p := ⟨w2.heap.size, 1, none⟩) gZ).trans C1.out
            have f28 := (Z8.cell (p := ⟨w2.heap.size, 2, none⟩) gZ).trans C2.out
            have nn8 := Nat.lt_of_lt_of_le nZ zz8
            have gg8 := Nat.lt_of_lt_of_le gZ zz8
            clear hb8 d7 f07 f17 f27
            go_wp2_with fail
            refine (Strange_z A1 A2 np k1 nl k2 (wrg + yr) _ pl' ls' w8 hp40 hl40 (SP.out.later Z8) (SL.out.later Z8) G2.out).mono ?_
            rintro e w9 ⟨⟨q4, q5, q6, rfl⟩, hb9⟩
            have Z9 : Below Z.heap.size Z w9 := Z8.trans (hb9.mono Z8.size)
            have zz9 := Z9.size
            have d9 := fun i => (Z9.cell (p := ⟨w.heap.size, i, none⟩) nZ).trans (DZ.out i)
            have f09 := (Z9.cell (p := ⟨w2.heap.size, 0, none⟩) gZ).trans C0.out
            have f19 := (Z9.cell (p := ⟨w2.heap.size, 1, none⟩) gZ).trans C1.out
            have f29 := (Z9.cell (p := ⟨w2.heap.size, 2, none⟩) gZ).trans C2.out
            have nn9 := Nat.lt_of_lt_of_le nZ zz9
            have gg9 := Nat.lt_of_lt_of_le gZ zz9
            clear hb9 d8 f08 f18 f28
            have hk0 : isKn 0 = true := rfl
            have hk3 : isKn 3 = true := rfl
            go_wp2_with (first | (go_at_call 16; refine (isKnown_c _ _).mono ?_; rintro e w' ⟨rfl, rfl⟩) | (go_at_call 13; refine (works_c _).mono ?_; (rintro e w10 ⟨rfl, hb10⟩)))
            go_ret
            exact ⟨rfl, BWZ.trans (Below.mono (Z9.trans (hb10.mono Z9.size)) zZ)⟩

end Go.Proofs.Ytoehifincdflhaa
