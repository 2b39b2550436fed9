/- A sawing in memory; fits, bars and isWrong of bars (layer 1); A sawing while one more piece is laid (layer 1). -/
import Derived.Deep.DrawnRows
import Derived.Deep.DeepCutAuto
import Derived.Test.YtdhlnlmhdacblaaTs05
import Derived.Test.YtdhlnlmhdacblaaTs06
namespace Go.Proofs.Ytdhlnlmhdacblaa
open Go.RowKit
open Go.Sort (grow)
set_option linter.unusedVariables false
set_option linter.unusedSimpArgs false

attribute [local go_sem ↓] Go.wp_at_zero Go.wp_at_succ
/-- the block b holds a sawing, its slices lie from B on, in other blocks -/
structure SawM (B b nb : Nat) (st : Sw) (W : World) : Prop where
  rl : st.rests.length = nb
  cl : st.cuts.length = nb
  ex : ∃ A1 c1 A2 c2 A3 c3, Blk W b 124 #[.slice A1 st.of.length c1, .slice A2 nb c2, .slice A3 nb c3, .int .i64 st.wrong] ∧ st.of.length ≤ c1 ∧ (A1 = none → c1 = 0) ∧
    (IntsAt W A1 st.of.length st.of ∧ ∀ a, A1 = some a → B ≤ a.block ∧ a.block ≠ b ∧ a.block < W.heap.size) ∧ (IntsAt W A2 nb st.rests ∧ ∀ a, A2 = some a → B ≤ a.block ∧ a.block ≠ b ∧ a.block < W.heap.size) ∧ (IntsAt W A3 nb st.cuts ∧ ∀ a, A3 = some a → B ≤ a.block ∧ a.block ≠ b ∧ a.block < W.heap.size)
section
variable {B B' b nb : Nat} {st : Sw} {W W' : World}
theorem SawM.keep (h : SawM B b nb st W) (hk : KeepC B' W W') (hB : B' ≤ B) (hb : B' ≤ b) : SawM B b nb st W' := by
  obtain ⟨A1, c1, A2, c2, A3, c3, h0, h1, h1', ⟨h2, h3⟩, ⟨h4, h5⟩, h6, h7⟩ := h.ex
  have up : ∀ {A : Option Addr}, (∀ a, A = some a → B ≤ a.block ∧ a.block ≠ b ∧ a.block < W.heap.size) → ∀ a, A = some a → B ≤ a.block ∧ a.block ≠ b ∧ a.block < W'.heap.size := fun h a e => ⟨(h a e).1, (h a e).2.1, Nat.lt_of_lt_of_le (h a e).2.2 hk.1⟩
  exact ⟨h.rl, h.cl, A1, c1, A2, c2, A3, c3, hk.blk h0 hb, h1, h1', ⟨hk.ints h2 fun a e => Nat.le_trans hB (h3 a e).1, up h3⟩, ⟨hk.ints h4 fun a e => Nat.le_trans hB (h5 a e).1, up h5⟩, hk.ints h6 fun a e => Nat.le_trans hB (h7 a e).1, up h7⟩
theorem SawM.less (h : SawM B b nb st W) (hB : B' ≤ B) : SawM B' b nb st W := by
  obtain ⟨A1, c1, A2, c2, A3, c3, h0, h1, h1', ⟨h2, h3⟩, ⟨h4, h5⟩, h6, h7⟩ := h.ex
  have up : ∀ {A : Option Addr}, (∀ a, A = some a → B ≤ a.block ∧ a.block ≠ b ∧ a.block < W.heap.size) → ∀ a, A = some a → B' ≤ a.block ∧ a.block ≠ b ∧ a.block < W.heap.size := fun h a e => ⟨by have := (h a e).1; omega, (h a e).2⟩
  exact ⟨h.rl, h.cl, A1, c1, A2, c2, A3, c3, h0, h1, h1', ⟨h2, up h3⟩, ⟨h4, up h5⟩, h6, up h7⟩
theorem SawM.later (h : SawM B b nb st W) (hb : Below W.heap.size W W') : SawM B b nb st W' := by
  obtain ⟨A1, c1, A2, c2, A3, c3, h0, -⟩ := h.ex
  exact h.keep (B' := 0) (.of_below hb) (Nat.zero_le _) (Nat.zero_le _)
end
set_option maxRecDepth 100000 in
set_option maxHeartbeats 1600000 in
theorem fits_c (b nb bar : Nat) (kf lg : Int) (st : Sw) (w : World) (hb : bar < nb) (H : SawM 0 b nb st w) (hk : 0 ≤ kf ∧ kf ≤ 20) (hl : 0 ≤ lg ∧ lg ≤ 1000) :
    Calls Try.prog 111 #[.pointer (some ⟨b, 0, none⟩), .int .i64 kf, .int .i64 bar, .int .i64 lg] w fun e w' => e = .returned (.bool (fitS kf st bar lg)) ∧ w = w' := by
  obtain ⟨A1, c1, A2, c2, A3, c3, h0, -, -, -, ⟨h4, -⟩, h6, -⟩ := H.ex
  obtain ⟨b2, o2, rfl, hb2, x2⟩ := h4.get hb
  obtain ⟨b3, o3, rfl, hb3, x3⟩ := h6.get hb
  have hB := h0.cell
  have hlt := h0.lt
  have hs : IntKind.i64.wrap (lg + kf) = lg + kf := IntWalk.i64_in _ (by omega)
  obtain ⟨R, hR⟩ : ∃ R, fitS kf st bar lg = R := ⟨_, rfl⟩
  rw [hR]
  unfold fitS at hR
  obtain ⟨v, hv⟩ : ∃ v, iAt st.cuts bar = v := ⟨_, rfl⟩
  obtain ⟨r, hr⟩ : ∃ v, iAt st.rests bar = v := ⟨_, rfl⟩
  rw [hv, hr] at hR
  rw [hv] at x3
  rw [hr] at x2
  have HR := Lib.hid hR
  clear hv hr hR h4 h6 h0 H
  by_cases hc : 0 < v
  · have hcB : decide (0 < v) = true := by simpa using hc
    have HC := Lib.hid hcB
    go_enter Try.func111, Try.ntmps111
    go_wp2
    go_ret
    exact ⟨by rw [← HR.out, HC.out]; rfl, rfl⟩
  · have hcB : decide (0 < v) = false := by simpa using hc
    have HC := Lib.hid hcB
    go_enter Try.func111, Try.ntmps111
    go_wp2
    go_ret
    exact ⟨by rw [← HR.out, HC.out]; rfl, rfl⟩
set_option maxRecDepth 100000 in
set_option maxHeartbeats 1600000 in
theorem isWrong_c (Ab Ap : Option Addr) (nb cb np cp : Nat) (kf wrg : Int) (bs : List Br) (ms : List Pm) (ps : List Pc) (piece bar : Nat) (w : World) (HB : BrsAt w Ab nb bs) (HP : PcsAt w Ap np ms ps) (hp : piece < np) (hb : bar < nb) (hh : (pcAt ps piece).hs.length ≤ 40) :
    Calls Try.prog 112 #[.agg #[.slice Ab nb cb, .int .i64 kf, .slice Ap np cp, .int .i64 wrg], .int .i64 piece, .int .i64 bar] w fun e w' => e = .returned (.bool (wrB bs ps piece bar)) ∧ Below w.heap.size w w' := by
  have hlen := HP.len hp
  obtain ⟨b1, o1, e1, hb1, x1, x2, hI⟩ := HP.get hp
  obtain ⟨b2, o2, e2, hb2, y1, y2⟩ := HB.get hb
  subst e1 e2
  obtain ⟨hd, hhd⟩ : ∃ h, (pmAt ms piece).h = h := ⟨_, rfl⟩
  rw [hhd] at x2 hI hlen
  have hcc : ∀ W, Below w.heap.size w W → Calls Try.prog 51 #[.slice hd.A hd.n hd.c, .int .i64 (brAt bs bar).heat] W fun e W' => e = .returned (.bool (hasI (pcAt ps piece).hs (brAt bs bar).heat)) ∧ Below W.heap.size W W' := fun W hW =>
    (contains_c hd.A hd.n hd.c _ _ W (by omega) (hI.later hW)).mono fun e w' ⟨h1, h2⟩ => ⟨h1, h2 ▸ Below.refl _ _⟩
  have e3 : wrB bs ps piece bar = !hasI (pcAt ps piece).hs (brAt bs bar).heat := rfl
  rw [e3]
  obtain ⟨R, hR⟩ : ∃ R, hasI (pcAt ps piece).hs (brAt bs bar).heat = R := ⟨_, rfl⟩
  rw [hR] at hcc ⊢
  replace hcc := Lib.hid hcc
  clear hR hhd e3 hI HP HB hlen
  go_enter Try.func112, Try.ntmps112
  go_upto_region 1 with (fail)
  go_name_world X hX
  have BX : Below w.heap.size w X := (al1 hX).1
  have zX : X.heap.size = w.heap.size + 1 := (al1 hX).2
  have P0 := (al1_0 hX).2.1
  have x2' := (BX.cell (p := ⟨b1, o1 + piece * 2 + 1, none⟩) hb1).trans x2
  have y1' := (BX.cell (p := ⟨b2, o2 + bar * 2, none⟩) hb2).trans y1
  have lX : w.heap.size < X.heap.size := by omega
  clear hX x1 x2 y1 y2
  go_region_held3 (fun w' => (∀ j, w'.cell? ⟨w.heap.size, j, none⟩ = #[Value.slice (some ⟨b2, o2, none⟩) nb cb, .int .i64 kf, .slice (some ⟨b1, o1, none⟩) np cp, .int .i64 wrg][j]?) ∧ w'.cell? ⟨b1, o1 + piece * 2 + 1, none⟩ = some (.slice hd.A hd.n hd.c) ∧ w'.cell? ⟨b2, o2 + bar * 2, none⟩ = some (.int .i64 (brAt bs bar).heat))
    (first | exact ⟨P0, x2', y1'⟩ | exact ⟨fun j => (kb.cell (p := ⟨w.heap.size, j, none⟩) lX).trans (P0 j), (kb.cell (p := ⟨b1, o1 + piece * 2 + 1, none⟩) (by show b1 < _; omega)).trans x2', (kb.cell (p := ⟨b2, o2 + bar * 2, none⟩) (by show b2 < _; omega)).trans y1'⟩ | go_keep)
    ((go_at_call 51; refine (hcc.out _ (by (repeat first | with_reducible assumption | with_reducible exact Below.refl _ _ | (with_reducible refine Below.alloc ?_ ?side _; case side => (first | omega | (with_reducible exact Below.size (by assumption)) | (simp; done) | (simp; omega))) | (with_reducible refine Below.setCell ?_ ?side _; case side => (first | omega | (with_reducible exact Below.size (by assumption)) | (simp; done) | (simp; omega))) | with_reducible refine Below.drew ?_ | with_reducible refine below_drewN ?_ _ | (with_reducible refine below_step (by assumption) ?side ?_; case side => (first | omega | (with_reducible exact Below.size (by assumption)) | (simp; done) | (simp; omega)))))).mono ?_; (rintro e w5 ⟨rfl, hb5⟩); have kb : Below X.heap.size X w5 := Below.trans (by (repeat first | with_reducible assumption | with_reducible exact Below.refl _ _ | (with_reducible refine Below.alloc ?_ ?side _; case side => (first | omega | (with_reducible exact Below.size (by assumption)) | (simp; done) | (simp; omega))) | (with_reducible refine Below.setCell ?_ ?side _; case side => (first | omega | (with_reducible exact Below.size (by assumption)) | (simp; done) | (simp; omega))) | with_reducible refine Below.drew ?_ | with_reducible refine below_drewN ?_ _ | (with_reducible refine below_step (by assumption) ?side ?_; case side => (first | omega | (with_reducible exact Below.size (by assumption)) | (simp; done) | (simp; omega))))) (hb5.mono (by simp))))
  go_wp2
  go_ret
  exact ⟨rfl, BX.trans (kb.mono (by omega))⟩

end Go.Proofs.Ytdhlnlmhdacblaa

namespace Go.Proofs.Ytdhlnlmhdacblaa
open Go.RowKit
open Go.Sort (grow)
set_option linter.unusedVariables false
set_option linter.unusedSimpArgs false

theorem own_int_set {w : World} {base : Nat} {e : TypeId} {g n c k : Nat} {xs : List Int} (h : w.ownsRow base e 1 (.slice (some ⟨g, 0, none⟩) n c) n (xs.flatMap encI)) (hl : xs.length = n) (hk : k < n) (v : Int) :
    (w.setCell ⟨g, k, none⟩ (.int .i64 v)).ownsRow base e 1 (.slice (some ⟨g, 0, none⟩) n c) n ((xs.set k v).flatMap encI) := by
  have a1 := (h.stored (k * 1 + 0) (.int .i64 v)).1
  rw [flat_set encI_len xs k 0 v (0 : Int) _ (by omega) (by omega) rfl] at a1
  simpa using a1
theorem own_int_get {w : World} {base : Nat} {e : TypeId} {g n c k : Nat} {xs : List Int} (h : w.ownsRow base e 1 (.slice (some ⟨g, 0, none⟩) n c) n (xs.flatMap encI)) (hl : xs.length = n) (hk : k < n) :
    w.cell? ⟨g, k, none⟩ = some (.int .i64 (iAt xs k)) := by
  have h1 := (h.cellAt (k * 1 + 0) (by omega)).trans (flat_get (d := (0 : Int)) encI_len xs k 0 (by omega) (by omega))
  simpa [encI, iAt] using h1
/-- the sawing with one more piece, under way; W0: the world ahead -/
structure Mid (b ob nb g1 c1 g2 c2 g3 c3 : Nat) (old : Array Value) (of rests cuts : List Int) (wr : Int) (W0 W : World) : Prop where
  blk : Blk W b 124 #[.slice (some ⟨g1, 0, none⟩) of.length c1, .slice (some ⟨g2, 0, none⟩) nb c2, .slice (some ⟨g3, 0, none⟩) nb c3, .int .i64 wr]
  obk : Blk W ob 124 old
  o1 : W.ownsRow W0.heap.size 3 1 (.slice (some ⟨g1, 0, none⟩) of.length c1) of.length (of.flatMap encI)
  o2 : W.ownsRow W0.heap.size 3 1 (.slice (some ⟨g2, 0, none⟩) nb c2) nb (rests.flatMap encI)
  o3 : W.ownsRow W0.heap.size 3 1 (.slice (some ⟨g3, 0, none⟩) nb c3) nb (cuts.flatMap encI)
  rl : rests.length = nb
  cl : cuts.length = nb
  lt : b < W0.heap.size
  lo : W0.heap.size ≤ ob
  ne : g1 ≠ g2 ∧ g1 ≠ g3 ∧ g2 ≠ g3 ∧ g1 ≠ ob ∧ g2 ≠ ob ∧ g3 ≠ ob
  bt : But b W0 W
section
variable {b ob nb g1 c1 g2 c2 g3 c3 : Nat} {old : Array Value} {of rests cuts : List Int} {wr : Int} {W0 W W' : World}
theorem Mid.ge (h : Mid b ob nb g1 c1 g2 c2 g3 c3 old of rests cuts wr W0 W) : W0.heap.size ≤ g1 ∧ W0.heap.size ≤ g2 ∧ W0.heap.size ≤ g3 := ⟨(own_addr h.o1 _ rfl).1, (own_addr h.o2 _ rfl).1, (own_addr h.o3 _ rfl).1⟩
theorem Mid.later (h : Mid b ob nb g1 c1 g2 c2 g3 c3 old of rests cuts wr W0 W) (hb : Below W.heap.size W W') : Mid b ob nb g1 c1 g2 c2 g3 c3 old of rests cuts wr W0 W' :=
  ⟨h.blk.below hb h.blk.lt, h.obk.below hb h.obk.lt, own_below h.o1 hb, own_below h.o2 hb, own_below h.o3 hb, h.rl, h.cl, h.lt, h.lo, h.ne, h.bt.trans (.of_below hb)⟩
theorem But.far {p : Addr} {u : Value} (h : But b W0 W) (hp : W0.heap.size ≤ p.block) : But b W0 (W.setCell p u) :=
  ⟨h.os, h.tape, h.output, by simpa using h.size, fun k h1 h2 => (Below.heap_setCell W p u k (by omega)).trans (h.same k h1 h2)⟩
theorem Mid.set2 (h : Mid b ob nb g1 c1 g2 c2 g3 c3 old of rests cuts wr W0 W) {k : Nat} (hk : k < nb) (v : Int) : Mid b ob nb g1 c1 g2 c2 g3 c3 old of (rests.set k v) cuts wr W0 (W.setCell ⟨g2, k, none⟩ (.int .i64 v)) := by
  obtain ⟨n1, n2, n3, n4, n5, n6⟩ := h.ne
  obtain ⟨e1, e2, e3⟩ := h.ge
  have hl := h.lt
  exact ⟨h.blk.far (by show b ≠ g2; omega) _, h.obk.far (fun e => n5 e.symm) _, own_set h.o1 (fun k hk => by cases hk; exact n1), own_int_set h.o2 h.rl hk v, own_set h.o3 (fun k hk => by cases hk; exact n3.symm), by rw [List.length_set]; exact h.rl, h.cl, h.lt, h.lo, h.ne, h.bt.far e2⟩
theorem Mid.set3 (h : Mid b ob nb g1 c1 g2 c2 g3 c3 old of rests cuts wr W0 W) {k : Nat} (hk : k < nb) (v : Int) : Mid b ob nb g1 c1 g2 c2 g3 c3 old of rests (cuts.set k v) wr W0 (W.setCell ⟨g3, k, none⟩ (.int .i64 v)) := by
  obtain ⟨n1, n2, n3, n4, n5, n6⟩ := h.ne
  obtain ⟨e1, e2, e3⟩ := h.ge
  have hl := h.lt
  exact ⟨h.blk.far (by show b ≠ g3; omega) _, h.obk.far (fun e => n6 e.symm) _, own_set h.o1 (fun k hk => by cases hk; exact n2), own_set h.o2 (fun k hk => by cases hk; exact n3), own_int_set h.o3 h.cl hk v, h.rl, by rw [List.length_set]; exact h.cl, h.lt, h.lo, h.ne, h.bt.far e3⟩
theorem Mid.setw (h : Mid b ob nb g1 c1 g2 c2 g3 c3 old of rests cuts wr W0 W) (v : Int) : Mid b ob nb g1 c1 g2 c2 g3 c3 old of rests cuts v W0 (W.setCell ⟨b, 3, none⟩ (.int .i64 v)) := by
  obtain ⟨e1, e2, e3⟩ := h.ge
  have hl := h.lt
  have ho := h.lo
  refine ⟨?_, h.obk.far (by show ob ≠ b; omega) _, own_set h.o1 (fun k hk => by cases hk; show g1 ≠ b; omega), own_set h.o2 (fun k hk => by cases hk; show g2 ≠ b; omega), own_set h.o3 (fun k hk => by cases hk; show g3 ≠ b; omega), h.rl, h.cl, h.lt, h.lo, h.ne, h.bt.trans (.set h.blk.lt 3 _)⟩
  have := h.blk.set_ 3 (.int .i64 v)
  simpa using this
theorem Mid.drew (h : Mid b ob nb g1 c1 g2 c2 g3 c3 old of rests cuts wr W0 W) : Mid b ob nb g1 c1 g2 c2 g3 c3 old of rests cuts wr W0 W.drew := h.later (Below.drew (Below.refl _ _))
theorem Mid.saw {B : Nat} (h : Mid b ob nb g1 c1 g2 c2 g3 c3 old of rests cuts wr W0 W) (hB : B ≤ W0.heap.size) : SawM B b nb ⟨of, rests, cuts, wr⟩ W := by
  obtain ⟨e1, e2, e3⟩ := h.ge
  have hl := h.lt
  obtain ⟨_, _, q1, hc1, i1⟩ := SlAt.of_own (d := (0 : Int)) encI_len h.o1 rfl
  obtain ⟨_, _, q2, -, i2⟩ := SlAt.of_own (d := (0 : Int)) encI_len h.o2 h.rl
  obtain ⟨_, _, q3, -, i3⟩ := SlAt.of_own (d := (0 : Int)) encI_len h.o3 h.cl
  cases q1
  cases q2
  cases q3
  have l1 : g1 < W.heap.size := (own_addr h.o1 _ rfl).2
  have l2 : g2 < W.heap.size := (own_addr h.o2 _ rfl).2
  have l3 : g3 < W.heap.size := (own_addr h.o3 _ rfl).2
  refine ⟨h.rl, h.cl, _, c1, _, c2, _, c3, h.blk, hc1, (fun e => by cases e), ⟨ints_iff.2 i1, fun a e => ?_⟩, ⟨ints_iff.2 i2, fun a e => ?_⟩, ints_iff.2 i3, fun a e => ?_⟩
  all_goals
    cases e
    simp only
    omega
end
/-- the old sawing is laid back -/
theorem but_back {b : Nat} {t : TypeId} {cs : Array Value} {B : Nat} {W0 W W' : World} (h0 : Blk W0 b t cs) (hb : But b W0 W) (h1 : Blk W' b t cs) (hb' : But b W W') : KeepC B W0 W' := by
  have h := hb.trans hb'
  refine ⟨h.size, fun k _ hk => ?_⟩
  by_cases e : k = b
  · subst e; exact Eq.trans h1 h0.symm
  · exact h.same k hk e
/-- moderate numbers in a sawing under way -/
structure OkSw (nb : Nat) (st : Sw) : Prop where
  rests : ∀ k, k < nb → 0 ≤ iAt st.rests k ∧ iAt st.rests k ≤ 999
  cuts : ∀ k, k < nb → 0 ≤ iAt st.cuts k ∧ iAt st.cuts k ≤ st.of.length
  wrong : 0 ≤ st.wrong ∧ st.wrong ≤ st.of.length
/-- moderate numbers in a store, as a valid one has them -/
structure OkSt (bs : List Br) (ps : List Pc) (kf : Int) (nb np : Nat) : Prop where
  hb : nb ≤ 6
  hp : np ≤ 8
  bl : bs.length = nb
  pl : ps.length = np
  kf : 0 ≤ kf ∧ kf ≤ 20
  br : ∀ k, k < nb → 1 ≤ (brAt bs k).long ∧ (brAt bs k).long ≤ 999
  pc : ∀ k, k < np → 1 ≤ (pcAt ps k).long ∧ (pcAt ps k).long ≤ 999 ∧ (pcAt ps k).hs.length ≤ 40
theorem iAt_set {l : List Int} {i k : Nat} {v : Int} (hk : k < l.length) : iAt (l.set k v) i = if i = k then v else iAt l i := by
  unfold iAt
  rw [List.getD_eq_getElem?_getD, List.getElem?_set]
  by_cases e : k = i
  · subst e; simp [hk]
  · rw [if_neg e, if_neg (fun h => e h.symm), List.getD_eq_getElem?_getD]
theorem OkSw.step {bs : List Br} {ps : List Pc} {kf : Int} {nb np bar : Nat} {st : Sw} (h : OkSw nb st) (ok : OkSt bs ps kf nb np) (hr : st.rests.length = nb) (hc : st.cuts.length = nb) (hb : bar < nb) (hp : st.of.length < np) (hf : fitS kf st bar (pcAt ps st.of.length).long = true) : OkSw nb (stS bs ps kf st bar) := by
  have h1 := h.rests bar hb
  have h2 := h.cuts bar hb
  have h3 := h.wrong
  have h4 := (ok.pc _ hp).1
  have h5 := ok.kf
  unfold fitS at hf
  refine ⟨fun k hk => ?_, fun k hk => ?_, ?_⟩
  · simp only [stS]
    rw [iAt_set (by omega)]
    split
    · cases hc : decide (0 < iAt st.cuts bar) <;> rw [hc] at hf <;> simp at hf ⊢ <;> omega
    · exact h.rests k hk
  · simp only [stS]
    rw [iAt_set (by omega)]
    have := h.cuts k hk
    split <;> simp <;> omega
  · simp only [stS]
    cases wrB bs ps st.of.length bar <;> simp <;> omega

theorem mid_cloned {b nb c5 d2 d3 L pb po np : Nat} {q : Int} {cb cp : Nat} {kf wrg : Int} {Ab G2 G3 : Option Addr} {old : Array Value} {st : Sw} {wr w W6 w7 w8 : World} {A2 A3 : Option Addr} {c2 c3 : Nat}
    (hB7 : Below W6.heap.size W6 w7) (hB8 : Below w7.heap.size w7 w8)
    (ho7 : w7.ownsRow W6.heap.size 3 1 (.slice G2 nb d2) nb (st.rests.flatMap encI)) (ho8 : w8.ownsRow w7.heap.size 3 1 (.slice G3 nb d3) nb (st.cuts.flatMap encI))
    (ho6 : W6.ownsRow wr.heap.size 3 1 (.slice (some ⟨wr.heap.size + 1 + 1, 0, none⟩) (L + 1) c5) (L + 1) ((st.of ++ [q]).flatMap encI))
    (hbk : Blk W6 b 124 #[.slice (some ⟨wr.heap.size + 1 + 1, 0, none⟩) (L + 1) c5, .slice A2 nb c2, .slice A3 nb c3, .int .i64 st.wrong])
    (hob : Blk W6 wr.heap.size 124 old) (hbt : But b wr W6)
    (hp : ∀ j, W6.cell? ⟨w.heap.size, j, none⟩ = #[Value.slice Ab nb cb, .int .i64 kf, .slice (some ⟨pb, po, none⟩) np cp, .int .i64 wrg][j]?)
    (hL : st.of.length = L) (hrl : st.rests.length = nb) (hcl : st.cuts.length = nb) (hlt : b < wr.heap.size) (n6 : b < W6.heap.size) (hltp : w.heap.size < wr.heap.size) (hbw : b < w.heap.size) (hnb0 : 0 < nb) :
    ∃ g2 d2' g3 d3', Hid (Mid b wr.heap.size nb (wr.heap.size + 1 + 1) c5 g2 d2' g3 d3' old (st.of ++ [q]) st.rests st.cuts st.wrong wr ((w8.setCell ⟨b, 1, none⟩ (.slice G2 nb d2)).setCell ⟨b, 2, none⟩ (.slice G3 nb d3))) ∧
      Hid (∀ j, ((w8.setCell ⟨b, 1, none⟩ (.slice G2 nb d2)).setCell ⟨b, 2, none⟩ (.slice G3 nb d3)).cell? ⟨w.heap.size, j, none⟩ = #[Value.slice Ab nb cb, .int .i64 kf, .slice (some ⟨pb, po, none⟩) np cp, .int .i64 wrg][j]?) := by
  obtain ⟨g2, d2', eg2, hg2, hg2'⟩ := ho7.form hnb0
  obtain ⟨g3, d3', eg3, hg3, hg3'⟩ := ho8.form hnb0
  injection eg2 with eg2a eg2b eg2c
  injection eg3 with eg3a eg3b eg3c
  subst eg2a eg2c eg3a eg3c
  have z6 := hbt.size
  have z7 := hB7.size
  have z8 := hB8.size
  have nw6 : wr.heap.size + 1 + 1 < W6.heap.size := (own_addr ho6 _ rfl).2
  have hbs : Below W6.heap.size W6 w8 := hB7.trans (hB8.mono z7)
  have hfar : ∀ {v : Value} {e : TypeId} {m : Nat} {ys : List Value}, w8.ownsRow wr.heap.size e 1 v m ys → ((w8.setCell ⟨b, 1, none⟩ (.slice (some ⟨g2, 0, none⟩) nb d2)).setCell ⟨b, 2, none⟩ (.slice (some ⟨g3, 0, none⟩) nb d3)).ownsRow wr.heap.size e 1 v m ys := fun {v} {e} {m} {ys} h => by
    have hn : ∀ k, v.ownBlock = some k → k ≠ b := fun k hk e => by have := (h.lt k hk).1; omega
    exact own_set (own_set h hn) hn
  have hlen : (st.of ++ [q]).length = L + 1 := by rw [List.length_append, hL]; rfl
  refine ⟨g2, d2, g3, d3, Lib.hid ⟨?_, ?_, ?_, hfar (own_mono (own_below ho7 hB8) (by omega)), hfar (own_mono ho8 (by omega)), hrl, hcl, hlt, Nat.le_refl _, ⟨by omega, by omega, by omega, by omega, by omega, by omega⟩, ?_⟩, Lib.hid fun j => ?_⟩
  · rw [hlen]
    have h := ((hbk.below hbs n6).set_ 1 (.slice (some ⟨g2, 0, none⟩) nb d2)).set_ 2 (.slice (some ⟨g3, 0, none⟩) nb d3)
    simpa using h
  · exact ((hob.below hbs (by omega)).far (by show wr.heap.size ≠ b; omega) _).far (by show wr.heap.size ≠ b; omega) _
  · rw [hlen]; exact hfar (own_below ho6 hbs)
  · exact ((hbt.trans (.of_below hbs)).trans (.set (by omega) 1 _)).trans (.set (by simp; omega) 2 _)
  · exact (World.cell?_setCell_other _ _ _ _ (by intro h; simp only [Addr.mk.injEq] at h; omega)).trans ((World.cell?_setCell_other _ _ _ _ (by intro h; simp only [Addr.mk.injEq] at h; omega)).trans ((hbs.cell (p := ⟨w.heap.size, j, none⟩) (by show w.heap.size < _; omega)).trans (hp j)))
theorem back4 {b : Nat} {t : TypeId} {x0 x1 x2 x3 : Value} {W : World} (v0 v1 v2 v3 : Value) (h : Blk W b t #[x0, x1, x2, x3]) :
    Blk ((((W.setCell ⟨b, 0, none⟩ v0).setCell ⟨b, 1, none⟩ v1).setCell ⟨b, 2, none⟩ v2).setCell ⟨b, 3, none⟩ v3) b t #[v0, v1, v2, v3] ∧ But b W ((((W.setCell ⟨b, 0, none⟩ v0).setCell ⟨b, 1, none⟩ v1).setCell ⟨b, 2, none⟩ v2).setCell ⟨b, 3, none⟩ v3) := by
  refine ⟨?_, ?_⟩
  · have := (((h.set_ 0 v0).set_ 1 v1).set_ 2 v2).set_ 3 v3
    simpa using this
  · have hl := h.lt
    exact (((But.set hl 0 v0).trans (.set (by simpa using hl) 1 v1)).trans (.set (by simpa using hl) 2 v2)).trans (.set (by simpa using hl) 3 v3)
theorem keep_back {b : Nat} {t : TypeId} {cs : Array Value} {B : Nat} {W0 W W1 W' : World} (h0 : Blk W0 b t cs) (hb : But b W0 W) (hk : KeepC B W W1) (h1 : Blk W' b t cs) (hb' : But b W1 W') : KeepC B W0 W' := by
  refine ⟨Nat.le_trans hb.size (Nat.le_trans hk.1 hb'.size), fun k hB hl => ?_⟩
  by_cases e : k = b
  · subst e; exact Eq.trans h1 h0.symm
  · have := hb.size
    have := hk.1
    exact (hb'.same k (by omega) e).trans ((hk.2 k hB (by omega)).trans (hb.same k hl e))
theorem hx_step {bs : List Br} {ps : List Pc} {kf most : Int} {nb p q k : Nat} {st : Sw} {xs : List Sw} (hx : ∀ (i : Nat) (x : Sw), (swK bs ps kf most nb p st nb)[i]? = some x → xs[k + i]? = some x) (ht : tkS bs ps kf most st q = true) (hq : q < nb) :
    ∀ (i : Nat) (x : Sw), (swL bs ps kf most nb p (stS bs ps kf st q))[i]? = some x → xs[k + (swK bs ps kf most nb p st q).length + i]? = some x := by
  intro i x h
  rw [Nat.add_assoc]
  refine hx _ x ?_
  obtain ⟨r, hr⟩ := swK_pre (bs := bs) (ps := ps) (kerf := kf) (most := most) (p := p) (st := st) (show q + 1 ≤ nb from hq)
  rw [← hr, swK_yes ht, List.append_assoc, List.getElem?_append_right (by omega), Nat.add_sub_cancel_left]
  rcases Nat.lt_or_ge i (swL bs ps kf most nb p (stS bs ps kf st q)).length with hi | hi
  · rw [List.getElem?_append_left hi]; exact h
  · rw [List.getElem?_eq_none hi] at h; cases h

end Go.Proofs.Ytdhlnlmhdacblaa
