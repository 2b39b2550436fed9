/- A sawing in memory; fits, bars and isWrong of bars (layer 1). -/
import Derived.Deep.DrawnRows
import Derived.Deep.DeepCutAuto
import Derived.Test.YtdhlnlmhdacblaaSj04
import Derived.Test.YtdhlnlmhdacblaaSj06
namespace Go.Proofs.Ytdhlnlmhdacblaa
open Go.RowKit
open Go.Sort (grow)
set_option linter.unusedVariables false
set_option linter.unusedSimpArgs false

attribute [local go_sem ↓] Go.wp_at_zero Go.wp_at_succ
/-- the block b holds a sawing, its slices lie from B on, in other blocks -/
structure SawM (B b nb : Nat) (st : Sw) (W : World) : Prop where
  rl : st.rests.length = nb
  cl : st.cuts.length = nb
  ex : ∃ A1 c1 A2 c2 A3 c3, Blk W b 124 #[.slice A1 st.of.length c1, .slice A2 nb c2, .slice A3 nb c3, .int .i64 st.wrong] ∧ st.of.length ≤ c1 ∧ (A1 = none → c1 = 0) ∧
    (IntsAt W A1 st.of.length st.of ∧ ∀ a, A1 = some a → B ≤ a.block ∧ a.block ≠ b ∧ a.block < W.heap.size) ∧ (IntsAt W A2 nb st.rests ∧ ∀ a, A2 = some a → B ≤ a.block ∧ a.block ≠ b ∧ a.block < W.heap.size) ∧ (IntsAt W A3 nb st.cuts ∧ ∀ a, A3 = some a → B ≤ a.block ∧ a.block ≠ b ∧ a.block < W.heap.size)
section
variable {B B' b nb : Nat} {st : Sw} {W W' : World}
theorem SawM.keep (h : SawM B b nb st W) (hk : KeepC B' W W') (hB : B' ≤ B) (hb : B' ≤ b) : SawM B b nb st W' := by
  obtain ⟨A1, c1, A2, c2, A3, c3, h0, h1, h1', ⟨h2, h3⟩, ⟨h4, h5⟩, h6, h7⟩ := h.ex
  have up : ∀ {A : Option Addr}, (∀ a, A = some a → B ≤ a.block ∧ a.block ≠ b ∧ a.block < W.heap.size) → ∀ a, A = some a → B ≤ a.block ∧ a.block ≠ b ∧ a.block < W'.heap.size := fun h a e => ⟨(h a e).1, (h a e).2.1, Nat.lt_of_lt_of_le (h a e).2.2 hk.1⟩
  exact ⟨h.rl, h.cl, A1, c1, A2, c2, A3, c3, hk.blk h0 hb, h1, h1', ⟨hk.ints h2 fun a e => Nat.le_trans hB (h3 a e).1, up h3⟩, ⟨hk.ints h4 fun a e => Nat.le_trans hB (h5 a e).1, up h5⟩, hk.ints h6 fun a e => Nat.le_trans hB (h7 a e).1, up h7⟩
theorem SawM.less (h : SawM B b nb st W) (hB : B' ≤ B) : SawM B' b nb st W := by
  obtain ⟨A1, c1, A2, c2, A3, c3, h0, h1, h1', ⟨h2, h3⟩, ⟨h4, h5⟩, h6, h7⟩ := h.ex
  have up : ∀ {A : Option Addr}, (∀ a, A = some a → B ≤ a.block ∧ a.block ≠ b ∧ a.block < W.heap.size) → ∀ a, A = some a → B' ≤ a.block ∧ a.block ≠ b ∧ a.block < W.heap.size := fun h a e => ⟨by have := (h a e).1; omega, (h a e).2⟩
  exact ⟨h.rl, h.cl, A1, c1, A2, c2, A3, c3, h0, h1, h1', ⟨h2, up h3⟩, ⟨h4, up h5⟩, h6, up h7⟩
theorem SawM.later (h : SawM B b nb st W) (hb : Below W.heap.size W W') : SawM B b nb st W' := by
  obtain ⟨A1, c1, A2, c2, A3, c3, h0, -⟩ := h.ex
  exact h.keep (B' := 0) (.of_below hb) (Nat.zero_le _) (Nat.zero_le _)
end
set_option maxRecDepth 100000 in
set_option maxHeartbeats 1600000 in
theorem fits_c (b nb bar : Nat) (kf lg : Int) (st : Sw) (w : World) (hb : bar < nb) (H : SawM 0 b nb st w) (hk : 0 ≤ kf ∧ kf ≤ 20) (hl : 0 ≤ lg ∧ lg ≤ 1000) :
    Calls Try.prog 111 #[.pointer (some ⟨b, 0, none⟩), .int .i64 kf, .int .i64 bar, .int .i64 lg] w fun e w' => e = .returned (.bool (fitS kf st bar lg)) ∧ w = w' := by
  obtain ⟨A1, c1, A2, c2, A3, c3, h0, -, -, -, ⟨h4, -⟩, h6, -⟩ := H.ex
  obtain ⟨b2, o2, rfl, hb2, x2⟩ := h4.get hb
  obtain ⟨b3, o3, rfl, hb3, x3⟩ := h6.get hb
  have hB := h0.cell
  have hlt := h0.lt
  have hs : IntKind.i64.wrap (lg + kf) = lg + kf := IntWalk.i64_in _ (by omega)
  obtain ⟨R, hR⟩ : ∃ R, fitS kf st bar lg = R := ⟨_, rfl⟩
  rw [hR]
  unfold fitS at hR
  obtain ⟨v, hv⟩ : ∃ v, iAt st.cuts bar = v := ⟨_, rfl⟩
  obtain ⟨r, hr⟩ : ∃ v, iAt st.rests bar = v := ⟨_, rfl⟩
  rw [hv, hr] at hR
  rw [hv] at x3
  rw [hr] at x2
  have HR := Lib.hid hR
  clear hv hr hR h4 h6 h0 H
  by_cases hc : 0 < v
  · have hcB : decide (0 < v) = true := by simpa using hc
    have HC := Lib.hid hcB
    go_enter Try.func111, Try.ntmps111
    go_wp2
    go_ret
    exact ⟨by rw [← HR.out, HC.out]; rfl, rfl⟩
  · have hcB : decide (0 < v) = false := by simpa using hc
    have HC := Lib.hid hcB
    go_enter Try.func111, Try.ntmps111
    go_wp2
    go_ret
    exact ⟨by rw [← HR.out, HC.out]; rfl, rfl⟩
set_option maxRecDepth 100000 in
set_option maxHeartbeats 1600000 in
theorem isWrong_c (Ab Ap : Option Addr) (nb cb np cp : Nat) (kf wrg : Int) (bs : List Br) (ms : List Pm) (ps : List Pc) (piece bar : Nat) (w : World) (HB : BrsAt w Ab nb bs) (HP : PcsAt w Ap np ms ps) (hp : piece < np) (hb : bar < nb) (hh : (pcAt ps piece).hs.length ≤ 40) :
    Calls Try.prog 112 #[.agg #[.slice Ab nb cb, .int .i64 kf, .slice Ap np cp, .int .i64 wrg], .int .i64 piece, .int .i64 bar] w fun e w' => e = .returned (.bool (wrB bs ps piece bar)) ∧ Below w.heap.size w w' := by
  have hlen := HP.len hp
  obtain ⟨b1, o1, e1, hb1, x1, x2, hI⟩ := HP.get hp
  obtain ⟨b2, o2, e2, hb2, y1, y2⟩ := HB.get hb
  subst e1 e2
  obtain ⟨hd, hhd⟩ : ∃ h, (pmAt ms piece).h = h := ⟨_, rfl⟩
  rw [hhd] at x2 hI hlen
  have hcc : ∀ W, Below w.heap.size w W → Calls Try.prog 51 #[.slice hd.A hd.n hd.c, .int .i64 (brAt bs bar).heat] W fun e W' => e = .returned (.bool (hasI (pcAt ps piece).hs (brAt bs bar).heat)) ∧ Below W.heap.size W W' := fun W hW =>
    (contains_c hd.A hd.n hd.c _ _ W (by omega) (hI.later hW)).mono fun e w' ⟨h1, h2⟩ => ⟨h1, h2 ▸ Below.refl _ _⟩
  have e3 : wrB bs ps piece bar = !hasI (pcAt ps piece).hs (brAt bs bar).heat := rfl
  rw [e3]
  obtain ⟨R, hR⟩ : ∃ R, hasI (pcAt ps piece).hs (brAt bs bar).heat = R := ⟨_, rfl⟩
  rw [hR] at hcc ⊢
  replace hcc := Lib.hid hcc
  clear hR hhd e3 hI HP HB hlen
  go_enter Try.func112, Try.ntmps112
  go_upto_region 1 with (fail)
  go_name_world X hX
  have BX : Below w.heap.size w X := (al1 hX).1
  have zX : X.heap.size = w.heap.size + 1 := (al1 hX).2
  have P0 := (al1_0 hX).2.1
  have x2' := (BX.cell (p := ⟨b1, o1 + piece * 2 + 1, none⟩) hb1).trans x2
  have y1' := (BX.cell (p := ⟨b2, o2 + bar * 2, none⟩) hb2).trans y1
  have lX : w.heap.size < X.heap.size := by omega
  clear hX x1 x2 y1 y2
  go_region_held3 (fun w' => (∀ j, w'.cell? ⟨w.heap.size, j, none⟩ = #[Value.slice (some ⟨b2, o2, none⟩) nb cb, .int .i64 kf, .slice (some ⟨b1, o1, none⟩) np cp, .int .i64 wrg][j]?) ∧ w'.cell? ⟨b1, o1 + piece * 2 + 1, none⟩ = some (.slice hd.A hd.n hd.c) ∧ w'.cell? ⟨b2, o2 + bar * 2, none⟩ = some (.int .i64 (brAt bs bar).heat))
    (first | exact ⟨P0, x2', y1'⟩ | exact ⟨fun j => (kb.cell (p := ⟨w.heap.size, j, none⟩) lX).trans (P0 j), (kb.cell (p := ⟨b1, o1 + piece * 2 + 1, none⟩) (by show b1 < _; omega)).trans x2', (kb.cell (p := ⟨b2, o2 + bar * 2, none⟩) (by show b2 < _; omega)).trans y1'⟩ | go_keep)
    ((go_at_call 51; refine (hcc.out _ (by (repeat first | with_reducible assumption | with_reducible exact Below.refl _ _ | (with_reducible refine Below.alloc ?_ ?side _; case side => (first | omega | (with_reducible exact Below.size (by assumption)) | (simp; done) | (simp; omega))) | (with_reducible refine Below.setCell ?_ ?side _; case side => (first | omega | (with_reducible exact Below.size (by assumption)) | (simp; done) | (simp; omega))) | with_reducible refine Below.drew ?_ | with_reducible refine below_drewN ?_ _ | (with_reducible refine below_step (by assumption) ?side ?_; case side => (first | omega | (with_reducible exact Below.size (by assumption)) | (simp; done) | (simp; omega)))))).mono ?_; (rintro e w5 ⟨rfl, hb5⟩); have kb : Below X.heap.size X w5 := Below.trans (by (repeat first | with_reducible assumption | with_reducible exact Below.refl _ _ | (with_reducible refine Below.alloc ?_ ?side _; case side => (first | omega | (with_reducible exact Below.size (by assumption)) | (simp; done) | (simp; omega))) | (with_reducible refine Below.setCell ?_ ?side _; case side => (first | omega | (with_reducible exact Below.size (by assumption)) | (simp; done) | (simp; omega))) | with_reducible refine Below.drew ?_ | with_reducible refine below_drewN ?_ _ | (with_reducible refine below_step (by assumption) ?side ?_; case side => (first | omega | (with_reducible exact Below.size (by assumption)) | (simp; done) | (simp; omega))))) (hb5.mono (by simp))))
  go_wp2
  go_ret
  exact ⟨rfl, BX.trans (kb.mono (by omega))⟩

end Go.Proofs.Ytdhlnlmhdacblaa
