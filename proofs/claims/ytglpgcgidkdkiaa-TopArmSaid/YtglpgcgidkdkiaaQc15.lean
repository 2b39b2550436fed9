/- The small functions of stretch (layer 4): within, isWhen, right, wrong. -/
import Derived.Test.YtglpgcgidkdkiaaChecked
import Derived.Test.YtglpgcgidkdkiaaQc14
import Derived.Test.YtglpgcgidkdkiaaQc03
import Derived.Shelf.Abstract
import Derived.Laws.EntriesVeiled
import Derived.Handy
import Derived.Deep.DrawnRows
import Derived.Deep.DeepCutAuto
namespace Go.Proofs.Ytglpgcgidkdkiaa
open Go.RowKit
open Go.Sort (grow)
set_option linter.unusedVariables false
set_option linter.unusedSimpArgs false

set_option maxHeartbeats 400000 in
theorem within4_c (n a b : Int) (w : World) :
    Calls Try.prog 73 #[.int .i64 n, .int .i64 a, .int .i64 b] w fun e w' => e = .returned (.bool (wn n a b)) ∧ w = w' := by
  go_enter Try.func73, Try.ntmps73
  go_wp2
  all_goals
    go_ret
    exact ⟨ret_bool (by simp [wn, *] <;> omega), rfl⟩
def when4 (n : Int) : Bool := (n == 1) || (n == 2)
set_option maxHeartbeats 400000 in
theorem isWhen4_c (n : Int) (w : World) :
    Calls Try.prog 32 #[.int .i64 n] w fun e w' => e = .returned (.bool (when4 n)) ∧ w = w' := by
  unfold when4
  cases e1 : (n == 1) <;> cases e2 : (n == 2)
  all_goals
    go_enter Try.func32, Try.ntmps32
    go_wp2
    go_ret
    exact ⟨rfl, rfl⟩
/-- how a bundle lies in memory: the lengths of the rods, and two groups -/
structure Hb where
  u : W4
  bw : Int
  b : Hd
  aw : Int
  a : Hd
def encB4 (x : Hb) : List Value := [.int .i64 x.u.w0, .int .i64 x.u.w1, .int .i64 x.u.w2, .int .i64 x.u.w3, .int .i64 x.bw, .slice x.b.A x.b.n x.b.c, .int .i64 x.aw, .slice x.a.A x.a.n x.a.c]
theorem encB4_len (x : Hb) : (encB4 x).length = 8 := rfl
theorem encB4_one (x : Hb) : ∀ u ∈ encB4 x, u.oneCell' = true := by
  intro u hu; simp only [encB4, List.mem_cons, List.not_mem_nil, or_false] at hu; rcases hu with rfl | rfl | rfl | rfl | rfl | rfl | rfl | rfl <;> rfl
set_option maxHeartbeats 400000 in
theorem wrong4_c (x : Hb) (hx : 0 ≤ x.bw ∧ x.bw ≤ 8 ∧ 0 ≤ x.aw ∧ x.aw ≤ 8) (w : World) :
    Calls Try.prog 79 #[.agg (encB4 x).toArray] w fun e w' => e = .returned (.int .i64 (x.bw + x.aw)) ∧ Below w.heap.size w w' := by
  obtain ⟨⟨w0, w1, w2, w3⟩, bw, ⟨bA, bn, bc⟩, aw, ⟨aA, an, ac⟩⟩ := x
  simp only [encB4] at hx ⊢
  have wr1 : IntKind.i64.wrap (bw + aw) = bw + aw := IntWalk.i64_in _ (by omega)
  go_enter Try.func79, Try.ntmps79
  go_wp2_with fail
  go_ret
  exact ⟨rfl, by (repeat first | with_reducible assumption | with_reducible exact Below.refl _ _ | (with_reducible refine Below.alloc ?_ ?side _; case side => (first | omega | (with_reducible exact Below.size (by assumption)) | (simp; done) | (simp; omega))) | (with_reducible refine Below.setCell ?_ ?side _; case side => (first | omega | (with_reducible exact Below.size (by assumption)) | (simp; done) | (simp; omega))) | with_reducible refine Below.drew ?_ | with_reducible refine below_drewN ?_ _ | (with_reducible refine below_step (by assumption) ?side ?_; case side => (first | omega | (with_reducible exact Below.size (by assumption)) | (simp; done) | (simp; omega))))⟩
theorem mul_bd {a b A B : Int} (h1 : 0 ≤ a ∧ a ≤ A) (h2 : 0 ≤ b ∧ b ≤ B) : 0 ≤ a * b ∧ a * b ≤ A * B :=
  ⟨Int.mul_nonneg h1.1 h2.1, Int.mul_le_mul h1.2 h2.2 h2.1 (by omega)⟩
theorem mul_bd2 {a b A B : Int} (h1 : 0 ≤ a ∧ a ≤ A) (h2 : -B ≤ b ∧ b ≤ B) (hB : 0 ≤ B) : -(A * B) ≤ a * b ∧ a * b ≤ A * B := by
  rcases Int.le_total 0 b with h | h
  · have := mul_bd h1 ⟨h, h2.2⟩
    have h3 : 0 ≤ A * B := Int.mul_nonneg (by omega) hB
    omega
  · have := mul_bd h1 (b := -b) (B := B) ⟨by omega, by omega⟩
    rw [Int.mul_neg] at this
    omega
theorem rt4_some {ir gr : Int} {x : Re4} {len rod : Int} {j : Nat} (hj : x.lo + j ≤ x.hi) (h : ok4t ir gr len (sy4 x rod) x.of (x.lo + j) = true) : rt4 ir gr x len rod = true := by
  unfold rt4
  rw [List.any_eq_true]
  exact ⟨_, ups_mem.2 ⟨by omega, hj⟩, h⟩
theorem rt4_none {ir gr : Int} {x : Re4} {len rod : Int} (h : ∀ j : Nat, x.lo + j ≤ x.hi → ok4t ir gr len (sy4 x rod) x.of (x.lo + j) = false) : rt4 ir gr x len rod = false := by
  unfold rt4
  rw [List.any_eq_false]
  intro t ht
  obtain ⟨h1, h2⟩ := ups_mem.1 ht
  have := h (t - x.lo).toNat (by omega)
  rw [show x.lo + ((t - x.lo).toNat : Int) = t by omega] at this
  rw [this]; simp
/-- a reading as it comes in -/
structure OkX (nr : Nat) (x : Re4) : Prop where
  rd : 0 ≤ x.rd ∧ x.rd < nr
  ct : 0 ≤ x.ct ∧ x.ct ≤ 99
  rs : 0 ≤ x.rs ∧ x.rs ≤ 9999
  of : 0 ≤ x.of ∧ x.of ≤ 99
  wm : -50 ≤ x.lo ∧ x.lo ≤ x.hi ∧ x.hi ≤ 50
set_option maxRecDepth 100000 in
set_option maxHeartbeats 1600000 in
theorem right4_c (Ar : Option Addr) (nr cr : Nat) (Ad : Option Addr) (nd cd : Nat) (ir glo ghi wrg : Int) (rods : List Ro4) (x : Re4) (len rod : Int) (w : World) (HR : RosAt w Ar nr rods) (hir : 0 ≤ ir ∧ ir ≤ 50) (hgr : 0 ≤ (roAt rods x.rd.toNat).gr ∧ (roAt rods x.rd.toNat).gr ≤ 50) (hx : OkX nr x)
    (hln : 0 ≤ len ∧ len ≤ 99999) (hrod : 0 ≤ rod ∧ rod ≤ 9999) :
    Calls Try.prog 135 #[.agg #[.int .i64 ir, .int .i64 glo, .int .i64 ghi, .slice Ar nr cr, .slice Ad nd cd, .int .i64 wrg], .agg #[.int .i64 x.wh, .int .i64 x.rd, .int .i64 x.ct, .int .i64 x.rs, .int .i64 x.of, .int .i64 x.lo, .int .i64 x.hi], .int .i64 len, .int .i64 rod] w
      fun e w' => e = .returned (.bool (rt4 ir (roAt rods x.rd.toNat).gr x len rod)) ∧ Below w.heap.size w w' := by
  obtain ⟨gr, hg⟩ : ∃ g, (roAt rods x.rd.toNat).gr = g := ⟨_, rfl⟩
  rw [hg] at hgr ⊢
  obtain ⟨q, hq⟩ : ∃ q : Nat, x.rd = q := ⟨x.rd.toNat, by have := hx.rd; omega⟩
  have hqn : q < nr := by have := hx.rd; omega
  rw [hq, Int.toNat_natCast] at hg
  obtain ⟨b, off, hA, hbl, y0, y1, y2⟩ := HR.get hqn
  subst hA
  rw [hg] at y2
  have HP1 := Lib.hid (fun (j : Nat) h h' => rt4_some (ir := ir) (gr := gr) (x := x) (len := len) (rod := rod) (j := j) h h')
  have HP0 := Lib.hid (fun h => rt4_none (ir := ir) (gr := gr) (x := x) (len := len) (rod := rod) h)
  obtain ⟨R, hR⟩ : ∃ R, rt4 ir gr x len rod = R := ⟨_, rfl⟩
  rw [hR] at HP1 HP0 ⊢
  obtain ⟨xw, xr, xc, xs, xo, lo, hi⟩ := x
  obtain ⟨-, hct, hrs, hof, hwm⟩ := hx
  simp only [sy4] at *
  subst hq
  have m1 := mul_bd hct hrod
  have ws1 : IntKind.i64.wrap (xc * rod) = xc * rod := IntWalk.i64_in _ (by omega)
  have ws2 : IntKind.i64.wrap (xc * rod + xs) = xc * rod + xs := IntWalk.i64_in _ (by omega)
  have hsy : 0 ≤ xc * rod + xs ∧ xc * rod + xs ≤ 999900 := by omega
  clear HR hg m1 hR
  go_enter Try.func135, Try.ntmps135
  go_upto_region 1 with (fail)
  go_name_world W hW
  obtain ⟨hB, hz⟩ := al2 hW
  obtain ⟨l_0, q_0, f_0⟩ := al2_0 hW
  obtain ⟨l_1, q_1, f_1⟩ := al2_1 hW
  have HZ := Lib.hid hz
  have zs := hB.size
  clear hW hz
  go_wp2_with fail
  obtain ⟨sy, hsy'⟩ : ∃ s, xc * rod + xs = s := ⟨_, rfl⟩
  rw [hsy'] at HP1 HP0 hsy ⊢
  clear ws1 ws2 hsy' f_0 f_1
  go_loopw [10] (fun i (wr : World) => ∃ j : Nat, lo + j ≤ hi + 1 ∧ i = .int .i64 (lo + j) ∧ Hid (∀ k : Nat, k < j → ok4t ir gr len sy xo (lo + k) = false) ∧ Hid (Below W.heap.size W wr)) (fun i _ => (hi + 1 - intOf i).toNat)
  case atStart => exact ⟨0, by omega, by simp, Lib.hid (fun k h => absurd h (by omega)), Lib.hid (Below.refl _ _)⟩
  case round =>
    obtain ⟨j, hj, rfl, HN, HBr⟩ := hrel
    have hb := HBr.out
    obtain ⟨hc, hf⟩ := bcell hb
    have zb := hb.size
    have m0 := Nat.lt_of_lt_of_le l_0 zb
    have m1 := Nat.lt_of_lt_of_le l_1 zb
    have cx := fun i => (hc _ i l_0).trans (q_0 i)
    have cy := fun i => (hc _ i l_1).trans (q_1 i)
    have yr := (hb.cell (p := ⟨b, off + q * 3 + 2, none⟩) (Nat.lt_of_lt_of_le hbl zs)).trans ((hB.cell (p := ⟨b, off + q * 3 + 2, none⟩) hbl).trans y2)
    clear hc hf
    by_cases hle : lo + j ≤ hi
    · have hqB : decide (lo + (j : Int) ≤ hi) = true := decide_eq_true hle
      obtain ⟨t, ht⟩ : ∃ t, lo + (j : Int) = t := ⟨_, rfl⟩
      rw [ht] at hle hqB ⊢
      have ht2 : -50 ≤ t ∧ t ≤ 50 := by omega
      have b1 := mul_bd2 hir ht2 (by omega)
      have b2 := mul_bd2 hgr ht2 (by omega)
      obtain ⟨e1, hm1⟩ : ∃ m, ir * t = m := ⟨_, rfl⟩
      obtain ⟨e2, hm2⟩ : ∃ m, gr * t = m := ⟨_, rfl⟩
      have HD := Lib.hid (show dt4 ir gr len sy t = len * (1000000 + e1) - sy * (1000000 + e2) by unfold dt4; rw [hm1, hm2])
      have b3 := mul_bd hln (b := 1000000 + e1) (B := 1002500) (by omega)
      have b4 := mul_bd hsy (b := 1000000 + e2) (B := 1002500) (by omega)
      obtain ⟨n1, hn1⟩ : ∃ m, len * (1000000 + e1) = m := ⟨_, rfl⟩
      obtain ⟨n2, hn2⟩ : ∃ m, sy * (1000000 + e2) = m := ⟨_, rfl⟩
      have b5 := mul_bd hof (b := 1000000) (B := 1000000) (by omega)
      have v1 : IntKind.i64.wrap (ir * t) = e1 := by rw [← hm1]; exact IntWalk.i64_in _ (by omega)
      have v2 : IntKind.i64.wrap (gr * t) = e2 := by rw [← hm2]; exact IntWalk.i64_in _ (by omega)
      have v3 : IntKind.i64.wrap (1000000 + e1) = 1000000 + e1 := IntWalk.i64_in _ (by omega)
      have v4 : IntKind.i64.wrap (1000000 + e2) = 1000000 + e2 := IntWalk.i64_in _ (by omega)
      have v5 : IntKind.i64.wrap (len * (1000000 + e1)) = n1 := by rw [← hn1]; exact IntWalk.i64_in _ (by omega)
      have v6 : IntKind.i64.wrap (sy * (1000000 + e2)) = n2 := by rw [← hn2]; exact IntWalk.i64_in _ (by omega)
      have v8 : IntKind.i64.wrap (xo * 1000000) = xo * 1000000 := IntWalk.i64_in _ (by omega)
      have v9 : IntKind.i64.wrap (t + 1) = t + 1 := IntWalk.i64_in _ (by omega)
      have HD2 := Lib.hid (HD.out.trans (by rw [hn1, hn2]))
      rw [hn1] at b3
      rw [hn2] at b4
      clear hm1 hm2 hn1 hn2 HD
      obtain ⟨d, hd⟩ : ∃ d, n1 - n2 = d := ⟨_, rfl⟩
      have v7 : IntKind.i64.wrap (n1 - n2) = d := by rw [IntWalk.i64_in _ (by omega)]; exact hd
      have v10 : IntKind.i64.wrap (-d) = -d := IntWalk.i64_in _ (by omega)
      have HD3 := Lib.hid (HD2.out.trans hd)
      have hdb : -200000000000000 ≤ d ∧ d ≤ 200000000000000 := by omega
      clear hd HD2 b1 b2 b3 b4
      have HT := Lib.hid ht
      clear ht
      go_upto_region 5 with (fail)
      have lb : b < wr.heap.size := by omega
      have hcq := fun p : Regrown => (bcell (below_regrown wr p.d p.os)).1
      refine wp_region_quiet_below (by kernel_rfl) (by kernel_rfl) ?_
      repeat (go_big_quiet_step ((fail)))
      refine wpQuiet_nil ?_
      intro wq hq
      obtain ⟨pq, hq⟩ := hq
      have hbq : Below wr.heap.size wr wq := by rw [hq]; exact below_regrown _ _ _
      clear hq hcq pq
      obtain ⟨hcq, hfq⟩ := bcell hbq
      have zq := hbq.size
      have dy := fun i => (hcq _ i m1).trans (cy i)
      have BQ := Lib.hid (hb.trans (hbq.mono zb))
      clear hcq hfq hbq cx cy yr
      have HOK := Lib.hid (fun (h : d ≤ xo * 1000000 ∧ -d ≤ xo * 1000000) => HP1.out j (by have := HT.out; omega) (by rw [HT.out]; unfold ok4t; rw [HD3.out]; simp [h.1, h.2]))
      have HNO := Lib.hid (fun (h : ¬ (d ≤ xo * 1000000 ∧ -d ≤ xo * 1000000)) => show ok4t ir gr len sy xo (lo + j) = false from by rw [HT.out]; unfold ok4t; rw [HD3.out]; simp only [Bool.and_eq_false_iff, decide_eq_false_iff_not]; omega)
      go_wp2_with fail
      all_goals first
        | (go_ret; exact ⟨ret_bool (HOK.out (by omega)).symm, by have := BQ.out; (repeat first | with_reducible assumption | with_reducible exact Below.refl _ _ | (with_reducible refine Below.alloc ?_ ?side _; case side => (first | omega | (with_reducible exact Below.size (by assumption)) | (simp; done) | (simp; omega))) | (with_reducible refine Below.setCell ?_ ?side _; case side => (first | omega | (with_reducible exact Below.size (by assumption)) | (simp; done) | (simp; omega))) | with_reducible refine Below.drew ?_ | with_reducible refine below_drewN ?_ _ | (with_reducible refine below_step (by assumption) ?side ?_; case side => (first | omega | (with_reducible exact Below.size (by assumption)) | (simp; done) | (simp; omega))))⟩)
        | (go_roundw
           case rel =>
             refine ⟨j + 1, (by have := HT.out; omega), (by have := HT.out; simp; omega), Lib.hid (fun k hk => ?_), Lib.hid (by have := BQ.out; (repeat first | with_reducible assumption | with_reducible exact Below.refl _ _ | (with_reducible refine Below.alloc ?_ ?side _; case side => (first | omega | (with_reducible exact Below.size (by assumption)) | (simp; done) | (simp; omega))) | (with_reducible refine Below.setCell ?_ ?side _; case side => (first | omega | (with_reducible exact Below.size (by assumption)) | (simp; done) | (simp; omega))) | with_reducible refine Below.drew ?_ | with_reducible refine below_drewN ?_ _ | (with_reducible refine below_step (by assumption) ?side ?_; case side => (first | omega | (with_reducible exact Below.size (by assumption)) | (simp; done) | (simp; omega)))))⟩
             by_cases hkj : k = j
             · subst hkj; exact HNO.out (by omega)
             · exact HN.out k (by omega)
           case measure => (simp [intOf]; omega))
    · have hqB : decide (lo + (j : Int) ≤ hi) = false := decide_eq_false hle
      go_wp2_with fail
      go_ret
      exact ⟨ret_bool (HP0.out fun k hk => HN.out k (by omega)).symm, by (repeat first | with_reducible assumption | with_reducible exact Below.refl _ _ | (with_reducible refine Below.alloc ?_ ?side _; case side => (first | omega | (with_reducible exact Below.size (by assumption)) | (simp; done) | (simp; omega))) | (with_reducible refine Below.setCell ?_ ?side _; case side => (first | omega | (with_reducible exact Below.size (by assumption)) | (simp; done) | (simp; omega))) | with_reducible refine Below.drew ?_ | with_reducible refine below_drewN ?_ _ | (with_reducible refine below_step (by assumption) ?side ?_; case side => (first | omega | (with_reducible exact Below.size (by assumption)) | (simp; done) | (simp; omega))))⟩

end Go.Proofs.Ytglpgcgidkdkiaa
