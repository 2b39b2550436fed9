/- Cheapest of repairs (layer 7): its closure. -/
import Derived.Test.YthjjakhmbgnnnaaSd7
namespace Go.Proofs.Ythjjakhmbgnnnaa
open Go.RowKit
open Go.Sort (grow)
set_option linter.unusedVariables false

theorem keep3 {wr w' : World} {p0 p1 p2 : Addr} {v0 v1 v2 : Value} (hb : Below wr.heap.size wr w') (h0 : wr.cell? p0 = some v0) (h1 : wr.cell? p1 = some v1) (h2 : wr.cell? p2 = some v2)
    (l0 : p0.block < wr.heap.size) (l1 : p1.block < wr.heap.size) (l2 : p2.block < wr.heap.size) : w'.cell? p0 = some v0 ∧ w'.cell? p1 = some v1 ∧ w'.cell? p2 = some v2 :=
  ⟨(hb.cell l0).trans h0, (hb.cell l1).trans h1, (hb.cell l2).trans h2⟩
/-- what the closure of Cheapest reads -/
structure ChM (bl bc bs bb : Nat) (A : Option Addr) (n c : Nat) (link shackle best : Int) (W : World) : Prop where
  b : Blk W bb 3 #[.int .i64 best]
  l : W.cell? ⟨bl, 0, none⟩ = some (.int .i64 link)
  s : W.cell? ⟨bs, 0, none⟩ = some (.int .i64 shackle)
  c : W.cell? ⟨bc, 0, none⟩ = some (.slice A n c)
  ne : bb ≠ bl ∧ bb ≠ bs ∧ bb ≠ bc
section
variable {bl bc bs bb : Nat} {A : Option Addr} {n c : Nat} {link shackle best : Int} {W W' : World}
theorem ChM.below (h : ChM bl bc bs bb A n c link shackle best W) (hb : Below W.heap.size W W') : ChM bl bc bs bb A n c link shackle best W' :=
  ⟨h.b.below hb h.b.lt, (hb.cell (World.block_lt_of_cell? _ _ h.l)).trans h.l, (hb.cell (World.block_lt_of_cell? _ _ h.s)).trans h.s, (hb.cell (World.block_lt_of_cell? _ _ h.c)).trans h.c, h.ne⟩
theorem ChM.set (h : ChM bl bc bs bb A n c link shackle best W) (k : Int) : ChM bl bc bs bb A n c link shackle k (W.setCell ⟨bb, 0, none⟩ (.int .i64 k)) := by
  have hw : ∀ {p : Addr} {u : Value}, W.cell? p = some u → bb ≠ p.block → (W.setCell ⟨bb, 0, none⟩ (.int .i64 k)).cell? p = some u := fun {p u} hc hn =>
    (World.cell?_of_block (Below.heap_setCell W _ _ p.block (fun e => hn e.symm))).trans hc
  refine ⟨?_, hw h.l h.ne.1, hw h.s h.ne.2.1, hw h.c h.ne.2.2, h.ne⟩
  have := h.b.set_ 0 (.int .i64 k)
  simpa using this
end
theorem prc_bd {link shackle : Int} (h1 : 0 ≤ link) (h2 : link ≤ 999) (h3 : 0 ≤ shackle) (h4 : shackle ≤ 999) {n : Nat} (hn : n ≤ 12) (x : Nat) :
    (0 ≤ link * (cntN x n : Int) ∧ link * (cntN x n : Int) ≤ 11988) ∧ 0 ≤ shackle * shk x n ∧ shackle * shk x n ≤ 11988 := by
  have a : cntN x n ≤ n := by
    unfold cntN
    have := selN_len x n true
    rwa [selN_true] at this
  have b : shk x n ≤ 12 := by
    have := pcs_len x n
    unfold shk; omega
  have c := shk_nonneg x n
  have d : link * (cntN x n : Int) ≤ 999 * 12 := Int.mul_le_mul h2 (by omega) (by omega) (by omega)
  have e : shackle * shk x n ≤ 999 * 12 := Int.mul_le_mul h4 b c (by omega)
  exact ⟨⟨Int.mul_nonneg h1 (by omega), by omega⟩, Int.mul_nonneg h3 c, by omega⟩
set_option maxRecDepth 100000 in
set_option maxHeartbeats 3200000 in
theorem cheap1_c (bl bc bs bb x n c : Nat) (A : Option Addr) (link shackle best : Int) (w : World) (hx : x < 4096) (hn : n ≤ 12) (h1 : 0 ≤ link) (h2 : link ≤ 999) (h3 : 0 ≤ shackle) (h4 : shackle ≤ 999)
    (h5 : -1 ≤ best) (h6 : best ≤ 100000) (h : ChM bl bc bs bb A n c link shackle best w) :
    Calls Try.prog 47 #[.int .u64 x, .pointer (some ⟨bl, 0, none⟩), .pointer (some ⟨bc, 0, none⟩), .pointer (some ⟨bs, 0, none⟩), .pointer (some ⟨bb, 0, none⟩)] w
      fun e w' => e = .returned (.bool true) ∧ ChM bl bc bs bb A n c link shackle (chStep link shackle n best x) w' ∧ Fr bb w.heap.size w w' := by
  have hl : (selN x n true).length = cntN x n := by rw [selN_true]; rfl
  have hlc : ∀ W, Calls Try.prog 48 #[.int .u64 x, .int .i64 n, .bool true] W fun e W' => ∃ A c, e = .returned (.slice A (cntN x n) c) ∧ Below W.heap.size W W' := fun W => by
    have := list_c x n true W (by omega) (by omega)
    rw [hl] at this
    exact this.mono fun e W' ⟨A, c, h, _, hb⟩ => ⟨A, c, h, hb⟩
  have hsc := fun W => shackles_c x n W (by omega) (by omega)
  have hbd := prc_bd h1 h2 h3 h4 hn x
  have hst : Hid (chStep link shackle n best x = if best < 0 ∨ link * (cntN x n : Int) + shackle * shk x n < best then link * (cntN x n : Int) + shackle * shk x n else best) := rfl
  have hsn := shk_nonneg x n
  obtain ⟨k, hk⟩ : ∃ k, cntN x n = k := ⟨_, rfl⟩
  obtain ⟨s, hs⟩ : ∃ s, shk x n = s := ⟨_, rfl⟩
  rw [hk] at hlc
  rw [hs] at hsc hsn
  rw [hk, hs] at hbd hst
  obtain ⟨a, ha⟩ : ∃ a, link * (k : Int) = a := ⟨_, rfl⟩
  obtain ⟨b, hb⟩ : ∃ b, shackle * s = b := ⟨_, rfl⟩
  rw [ha, hb] at hbd hst
  obtain ⟨⟨b1, b2⟩, b3, b4⟩ := hbd
  have hw1 : IntKind.i64.wrap (link * (k : Int)) = a := by rw [ha, IntKind.wrap_i64]; omega
  have hw2 : IntKind.i64.wrap (shackle * s) = b := by rw [hb, IntKind.wrap_i64]; omega
  obtain ⟨p, hp⟩ : ∃ p, a + b = p := ⟨_, rfl⟩
  have hw3 : IntKind.i64.wrap (a + b) = p := by rw [hp, IntKind.wrap_i64]; omega
  rw [hp] at hst
  have H := Lib.hid h
  have hb0 := h.b.cell 0
  have nb := h.b.lt
  have hl0 := h.l
  have hs0 := h.s
  have hc0 := h.c
  have nl := World.block_lt_of_cell? _ _ hl0
  have ns := World.block_lt_of_cell? _ _ hs0
  have nc := World.block_lt_of_cell? _ _ hc0
  simp only at nl ns nc
  replace hlc := Lib.hid hlc
  replace hsc := Lib.hid hsc
  clear h hl hk hs ha hb hp h1 h2 h3 h4 h5 h6 b1 b2 b3 b4 hsn hx
  go_enter Try.func47, Try.ntmps47
  go_wp2_with fail
  go_region_held3 (fun w' => w'.cell? ⟨bl, 0, none⟩ = some (.int .i64 link) ∧ w'.cell? ⟨bs, 0, none⟩ = some (.int .i64 shackle) ∧ w'.cell? ⟨bc, 0, none⟩ = some (.slice A n c))
    (exact keep3 (wr := w) (by (repeat first | with_reducible assumption | with_reducible exact Below.refl _ _ | (with_reducible refine Below.alloc ?_ ?side _; case side => (first | omega | (with_reducible exact Below.size (by assumption)) | (simp; done) | (simp; omega))) | (with_reducible refine Below.setCell ?_ ?side _; case side => (first | omega | (with_reducible exact Below.size (by assumption)) | (simp; done) | (simp; omega))) | with_reducible refine Below.drew ?_ | with_reducible refine below_drewN ?_ _ | (with_reducible refine below_step (by assumption) ?side ?_; case side => (first | omega | (with_reducible exact Below.size (by assumption)) | (simp; done) | (simp; omega))))) hl0 hs0 hc0 nl ns nc)
    (first
      | (go_at_call 48; refine (hlc.out _).mono ?_; (rintro e w2 ⟨G2, c2, rfl, hb2⟩); have z2 := hb2.size; (try simp only [World.size_drew] at z2))
      | (go_at_call 49; refine (hsc.out _).mono ?_; (rintro e w3 ⟨rfl, hb3⟩); have z3 := hb3.size; (try simp only [World.size_drew] at z3)))
  all_goals
    have B3 : Below w.heap.size w w3 := by (repeat first | with_reducible assumption | with_reducible exact Below.refl _ _ | (with_reducible refine Below.alloc ?_ ?side _; case side => (first | omega | (with_reducible exact Below.size (by assumption)) | (simp; done) | (simp; omega))) | (with_reducible refine Below.setCell ?_ ?side _; case side => (first | omega | (with_reducible exact Below.size (by assumption)) | (simp; done) | (simp; omega))) | with_reducible refine Below.drew ?_ | with_reducible refine below_drewN ?_ _ | (with_reducible refine below_step (by assumption) ?side ?_; case side => (first | omega | (with_reducible exact Below.size (by assumption)) | (simp; done) | (simp; omega))))
    have H3 := Lib.hid (H.out.below B3)
    have y0 : w3.cell? ⟨bb, 0, none⟩ = some (.int .i64 best) := H3.out.b.cell 0
    have y1 := H3.out.b.frozen 0
    have y2 : bb < w3.heap.size := H3.out.b.lt
    have F3 : Fr bb w.heap.size w w3 := Fr.of_below B3
    clear H hb0 hl0 hs0 hc0 hb2 hb3 B3 hlc hsc hw1 hw2 hw3
    cases e1 : decide (best < 0)
    · cases e2 : decide (p < best)
      · have hr : chStep link shackle n best x = best := by
          rw [hst.out, if_neg (by simp at e1 e2; omega)]
        go_wp2_with fail
        go_ret
        exact ⟨rfl, by rw [hr]; exact H3.out, F3⟩
      · have hr : chStep link shackle n best x = p := by
          rw [hst.out, if_pos (by simp at e1 e2; omega)]
        go_wp2_with fail
        go_ret
        exact ⟨rfl, by rw [hr]; exact H3.out.set p, F3.trans (Fr.set y2 _)⟩
    · have hr : chStep link shackle n best x = p := by
        rw [hst.out, if_pos (by simp at e1; omega)]
      go_wp2_with fail
      go_ret
      exact ⟨rfl, by rw [hr]; exact H3.out.set p, F3.trans (Fr.set y2 _)⟩

end Go.Proofs.Ythjjakhmbgnnnaa
