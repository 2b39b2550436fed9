/- Small functions of the specification and of the statements (layer 4): In, subset, IsRight, Wrongs, Held. -/
import Derived.Test.YtmmgkmdfecnkdaaQa33
import Derived.Shelf.Abstract
import Derived.Laws.EntriesVeiled
import Derived.Handy
import Derived.Deep.DrawnRows
import Derived.Deep.DeepCutAuto
namespace Go.Proofs.Ytmmgkmdfecnkdaa
open Go.RowKit
open Go.Sort (grow)
set_option linter.unusedVariables false
set_option linter.unusedSimpArgs false

theorem run_max24 {P : Program} {w : World} (ts : Array TypeId) (t : TypeId) (x y : Int) : (Builtin.max_ ts t #[.int .i64 x, .int .i64 y]).run P w = .ok (.int .i64 (max x y)) w := by
  simp [Builtin.max_, Builtin.max2]
  omega
attribute [local go_sem high] run_max24
/-- a slice of numbers contains one -/
def ic4 (xs : List Int) (n : Nat) (x : Int) : Bool := anyN n fun k => iAt xs k == x
theorem ic4_mem {xs : List Int} {x : Int} : ic4 xs xs.length x = true ↔ x ∈ xs := by
  unfold ic4
  rw [any_nat4 (f := fun y => y == x), List.any_eq_true]
  constructor
  · rintro ⟨y, hy, h⟩; rw [← (by simpa using h : y = x)]; exact hy
  · intro h; exact ⟨x, h, by simp⟩
set_option maxHeartbeats 400000 in
theorem refIn4_c (A : Option Addr) (n c : Nat) (x : Int) (xs : List Int) (w : World) (hn : n ≤ 100000) (HX : IntsAt w A n xs) :
    Calls Try.prog 73 #[.slice A n c, .int .i64 x] w fun e w' => e = .returned (.bool (ic4 xs n x)) ∧ w = w' := by
  unfold ic4
  go_enter Try.func73, Try.ntmps73
  go_wp2
  go_loopw [5] (fun i (wr : World) => ∃ k : Nat, k ≤ n ∧ i = .int .i64 k ∧ Hid (∀ j, j < k → (iAt xs j == x) = false) ∧ wr = w) (fun i _ => n - (intOf i).toNat)
  case atStart => exact ⟨0, by omega, rfl, fun j hj => absurd hj (by omega), rfl⟩
  case round =>
    obtain ⟨k, hk, rfl, H, rfl⟩ := hrel
    by_cases hlt : k < n
    · obtain ⟨b, o, rfl, hb, x0⟩ := HX.get hlt
      have hB : decide ((k : Int) < n) = true := by simp; omega
      cases e1 : (iAt xs k == x)
      · go_wp2
        go_roundw
        case rel => exact ⟨k + 1, by omega, by go_num, fun j hj => by
          rcases Nat.lt_succ_iff_lt_or_eq.1 hj with h | rfl
          · exact H.out j h
          · exact e1, trivial⟩
        case measure => simp [intOf]; omega
      · have hA := anyN_yes (p := fun k => iAt xs k == x) hlt e1
        go_wp2
        go_ret
        exact ⟨ret_bool hA.symm, rfl⟩
    · obtain rfl : n = k := by omega
      have hA := anyN_no (p := fun k => iAt xs k == x) H.out
      have hB : decide (((n : Nat) : Int) < n) = false := by simp
      clear H
      go_wp2
      go_ret
      exact ⟨ret_bool hA.symm, rfl⟩
/-- one slice of numbers lies within another -/
def sub4 (xs ys : List Int) : Bool := decide (xs.length ≤ ys.length) && (decide (ys.length ≤ 400) && allN xs.length fun k => ic4 ys ys.length (iAt xs k))
theorem sub4_true {xs ys : List Int} : sub4 xs ys = true ↔ xs.length ≤ ys.length ∧ ys.length ≤ 400 ∧ ∀ x ∈ xs, x ∈ ys := by
  unfold sub4
  simp only [Bool.and_eq_true, decide_eq_true_eq]
  rw [allN_iff]
  constructor
  · rintro ⟨h1, h2, h3⟩
    refine ⟨h1, h2, fun x hx => ?_⟩
    obtain ⟨i, hi, e⟩ := List.getElem_of_mem hx
    have := ic4_mem.1 (h3 i hi)
    unfold iAt at this
    rw [List.getD_eq_getElem?_getD, List.getElem?_eq_getElem hi, Option.getD_some, e] at this
    exact this
  · rintro ⟨h1, h2, h3⟩
    exact ⟨h1, h2, fun k hk => ic4_mem.2 (h3 _ (iAt_mem hk))⟩
set_option maxHeartbeats 400000 in
theorem abs4_c (n : Int) (w : World) (hn : -1000000000000000 ≤ n ∧ n ≤ 1000000000000000) :
    Calls Try.prog 75 #[.int .i64 n] w fun e w' => e = .returned (.int .i64 (max n (-n))) ∧ Below w.heap.size w w' := by
  have v1 : IntKind.i64.wrap (-n) = -n := IntWalk.i64_in _ (by omega)
  go_enter Try.func75, Try.ntmps75
  go_wp2
  go_ret
  exact ⟨rfl, Below.refl _ _⟩
set_option maxRecDepth 100000 in
set_option maxHeartbeats 3200000 in
theorem refRight4_c (Ar : Option Addr) (nr cr : Nat) (Ad : Option Addr) (nd cd : Nat) (ir glo ghi wrg : Int) (rods : List Ro4) (x : Re4) (T : Option Addr) (nt ct : Nat) (us : List Int) (bb aa : Int) (w : World) (HR : RosAt w Ar nr rods) (HT : IntsAt w T nt us) (hir : 0 ≤ ir ∧ ir ≤ 50) (hgr : 0 ≤ (roAt rods x.rd.toNat).gr ∧ (roAt rods x.rd.toNat).gr ≤ 50) (hx : OkX nr x)
    (hlb : 0 ≤ bb ∧ bb ≤ 99999) (hla : 0 ≤ aa ∧ aa ≤ 99999) (hrt : x.rd < nt) (hrod : 0 ≤ iAt us x.rd.toNat ∧ iAt us x.rd.toNat ≤ 9999) :
    Calls Try.prog 53 #[.agg #[.int .i64 ir, .int .i64 glo, .int .i64 ghi, .slice Ar nr cr, .slice Ad nd cd, .int .i64 wrg], .agg #[.int .i64 x.wh, .int .i64 x.rd, .int .i64 x.ct, .int .i64 x.rs, .int .i64 x.of, .int .i64 x.lo, .int .i64 x.hi], .agg #[.int .i64 bb, .int .i64 aa, .slice T nt ct]] w
      fun e w' => e = .returned (.bool (rt4 ir (roAt rods x.rd.toNat).gr x (if x.wh = 2 then aa else bb) (iAt us x.rd.toNat))) ∧ Below w.heap.size w w' := by
  obtain ⟨gr, hg⟩ : ∃ g, (roAt rods x.rd.toNat).gr = g := ⟨_, rfl⟩
  rw [hg] at hgr ⊢
  obtain ⟨q, hq⟩ : ∃ q : Nat, x.rd = q := ⟨x.rd.toNat, by have := hx.rd; omega⟩
  have hqn : q < nr := by have := hx.rd; omega
  have hqt : q < nt := by omega
  rw [hq, Int.toNat_natCast] at hg hrod ⊢
  obtain ⟨b, off, hA, hbl, y0, y1, y2⟩ := HR.get hqn
  subst hA
  rw [hg] at y2
  obtain ⟨bt, ot, hA, hbt, t0⟩ := HT.get hqt
  subst hA
  obtain ⟨rod, hrd⟩ : ∃ r, iAt us q = r := ⟨_, rfl⟩
  rw [hrd] at t0 hrod ⊢
  by_cases hw : x.wh = 2
  · rw [if_pos hw]
    have HP1 := Lib.hid (fun (j : Nat) h h' => rt4_some (ir := ir) (gr := gr) (x := x) (len := aa) (rod := rod) (j := j) h h')
    have HP0 := Lib.hid (fun h => rt4_none (ir := ir) (gr := gr) (x := x) (len := aa) (rod := rod) h)
    obtain ⟨R, hR⟩ : ∃ R, rt4 ir gr x aa rod = R := ⟨_, rfl⟩
    rw [hR] at HP1 HP0 ⊢
    obtain ⟨xw, xr, xc, xs, xo, lo, hi⟩ := x
    obtain ⟨-, hct, hrs, hof, hwm⟩ := hx
    simp only [sy4] at *
    subst hq hw
    have m1 := mul_bd hct hrod
    have ws1 : IntKind.i64.wrap (xc * rod) = xc * rod := IntWalk.i64_in _ (by omega)
    have ws2 : IntKind.i64.wrap (xc * rod + xs) = xc * rod + xs := IntWalk.i64_in _ (by omega)
    have hsy : 0 ≤ xc * rod + xs ∧ xc * rod + xs ≤ 999900 := by omega
    have hln := hla
    clear HR hg m1 hR HT hrd hlb hla hrt
    go_enter Try.func53, Try.ntmps53
    go_upto_region 1 with (fail)
    go_name_world W hW
    obtain ⟨hB, hz⟩ := al3 hW
    obtain ⟨l_0, q_0, f_0⟩ := al3_0 hW
    obtain ⟨l_1, q_1, f_1⟩ := al3_1 hW
    obtain ⟨l_2, q_2, f_2⟩ := al3_2 hW
    have HZ := Lib.hid hz
    have zs := hB.size
    clear hW hz
    have cqT := (hB.cell (p := ⟨bt, ot + q, none⟩) hbt).trans t0
    have lbt := Nat.lt_of_lt_of_le hbt zs
    go_upto_region 4 with (fail)
    have hcq := fun p : Regrown => (bcell (below_regrown W p.d p.os)).1
    refine wp_region_quiet_below (by kernel_rfl) (by kernel_rfl) ?_
    repeat (go_big_quiet_step ((fail)))
    refine wpQuiet_nil ?_
    intro wq hq
    obtain ⟨pq, hq⟩ := hq
    have hbq : Below W.heap.size W wq := by rw [hq]; exact below_regrown _ _ _
    clear hq hcq pq
    obtain ⟨hcq, hfq⟩ := bcell hbq
    have zq := hbq.size
    have c0q := fun i => (hcq _ i l_0).trans (q_0 i)
    have c1q := fun i => (hcq _ i l_1).trans (q_1 i)
    have c2q := fun i => (hcq _ i l_2).trans (q_2 i)
    have lq0 : w.heap.size < wq.heap.size := by omega
    have lq1 : w.heap.size + 1 < wq.heap.size := by omega
    have yq := (hbq.cell (p := ⟨b, off + q * 3 + 2, none⟩) (Nat.lt_of_lt_of_le hbl zs)).trans ((hB.cell (p := ⟨b, off + q * 3 + 2, none⟩) hbl).trans y2)
    have lb : b < wq.heap.size := by omega
    have BWQ := Lib.hid (hB.trans (hbq.mono zs))
    clear hcq hfq f_0 f_1 f_2 q_0 q_1 q_2 cqT hbq
    go_wp2_with fail
    obtain ⟨sy, hsy'⟩ : ∃ s, xc * rod + xs = s := ⟨_, rfl⟩
    rw [hsy'] at HP1 HP0 hsy ⊢
    clear ws1 ws2 hsy'
    go_loopw [9] (fun i (wr : World) => ∃ j : Nat, lo + j ≤ hi + 1 ∧ i = .int .i64 (lo + j) ∧ Hid (∀ k : Nat, k < j → ok4t ir gr aa sy xo (lo + k) = false) ∧ Hid (Below wq.heap.size wq wr)) (fun i _ => (hi + 1 - intOf i).toNat)
    case atStart => exact ⟨0, by omega, by simp, Lib.hid (fun k h => absurd h (by omega)), Lib.hid (Below.refl _ _)⟩
    case round =>
      obtain ⟨j, hj, rfl, HN, HBr⟩ := hrel
      have hb := HBr.out
      have zb := hb.size
      have cx := fun i => (hb.cell (p := ⟨w.heap.size, i, none⟩) lq0).trans (c0q i)
      have cy := fun i => (hb.cell (p := ⟨w.heap.size + 1, i, none⟩) lq1).trans (c1q i)
      have yr := (hb.cell (p := ⟨b, off + q * 3 + 2, none⟩) lb).trans yq
      have lr0 : w.heap.size < wr.heap.size := by omega
      have lr1 : w.heap.size + 1 < wr.heap.size := by omega
      have lbr : b < wr.heap.size := by omega
      by_cases hle : lo + j ≤ hi
      · have hqB : decide (lo + (j : Int) ≤ hi) = true := decide_eq_true hle
        obtain ⟨t, ht⟩ : ∃ t, lo + (j : Int) = t := ⟨_, rfl⟩
        rw [ht] at hle hqB ⊢
        have ht2 : -50 ≤ t ∧ t ≤ 50 := by omega
        have b1 := mul_bd2 hir ht2 (by omega)
        have b2 := mul_bd2 hgr ht2 (by omega)
        obtain ⟨e1, hm1⟩ : ∃ m, ir * t = m := ⟨_, rfl⟩
        obtain ⟨e2, hm2⟩ : ∃ m, gr * t = m := ⟨_, rfl⟩
        have HD := Lib.hid (show dt4 ir gr aa sy t = aa * (1000000 + e1) - sy * (1000000 + e2) by unfold dt4; rw [hm1, hm2])
        have b3 := mul_bd hln (b := 1000000 + e1) (B := 1002500) (by omega)
        have b4 := mul_bd hsy (b := 1000000 + e2) (B := 1002500) (by omega)
        obtain ⟨n1, hn1⟩ : ∃ m, aa * (1000000 + e1) = m := ⟨_, rfl⟩
        obtain ⟨n2, hn2⟩ : ∃ m, sy * (1000000 + e2) = m := ⟨_, rfl⟩
        have b5 := mul_bd hof (b := 1000000) (B := 1000000) (by omega)
        have v1 : IntKind.i64.wrap (ir * t) = e1 := by rw [← hm1]; exact IntWalk.i64_in _ (by omega)
        have v2 : IntKind.i64.wrap (gr * t) = e2 := by rw [← hm2]; exact IntWalk.i64_in _ (by omega)
        have v3 : IntKind.i64.wrap (1000000 + e1) = 1000000 + e1 := IntWalk.i64_in _ (by omega)
        have v4 : IntKind.i64.wrap (1000000 + e2) = 1000000 + e2 := IntWalk.i64_in _ (by omega)
        have v5 : IntKind.i64.wrap (aa * (1000000 + e1)) = n1 := by rw [← hn1]; exact IntWalk.i64_in _ (by omega)
        have v6 : IntKind.i64.wrap (sy * (1000000 + e2)) = n2 := by rw [← hn2]; exact IntWalk.i64_in _ (by omega)
        have v8 : IntKind.i64.wrap (xo * 1000000) = xo * 1000000 := IntWalk.i64_in _ (by omega)
        have v9 : IntKind.i64.wrap (t + 1) = t + 1 := IntWalk.i64_in _ (by omega)
        have HD2 := Lib.hid (HD.out.trans (by rw [hn1, hn2]))
        rw [hn1] at b3
        rw [hn2] at b4
        clear hm1 hm2 hn1 hn2 HD
        obtain ⟨d, hd⟩ : ∃ d, n1 - n2 = d := ⟨_, rfl⟩
        have v7 : IntKind.i64.wrap (n1 - n2) = d := by rw [IntWalk.i64_in _ (by omega)]; exact hd
        have HD3 := Lib.hid (HD2.out.trans hd)
        have hdb : -200000000000000 ≤ d ∧ d ≤ 200000000000000 := by omega
        have HAB := Lib.hid (fun V => abs4_c d V (by omega))
        obtain ⟨mx, hmx⟩ : ∃ m, max d (-d) = m := ⟨_, rfl⟩
        rw [hmx] at HAB
        have HOT : Hid (ok4t ir gr aa sy xo (lo + j) = decide (mx ≤ xo * 1000000)) := Lib.hid (by rw [ht]; unfold ok4t; rw [HD3.out, Bool.eq_iff_iff, Bool.and_eq_true, decide_eq_true_eq, decide_eq_true_eq, decide_eq_true_eq]; omega)
        have HJ : Hid (lo + (j : Int) ≤ hi) := Lib.hid (by omega)
        have HT := Lib.hid ht
        clear hd HD2 b1 b2 b3 b4 ht hmx
        cases eB : decide (mx ≤ xo * 1000000)
        · rw [eB] at HOT
          go_upto_region 8 with (fail)
          have hcq := fun p : Regrown => (bcell (below_regrown wr p.d p.os)).1
          refine wp_region_quiet_below (by kernel_rfl) (by kernel_rfl) ?_
          repeat (go_big_quiet_step ((go_at_call 75; exact Calls.regrown_of (HAB.out _))))
          refine wpQuiet_nil ?_
          intro wq2 hq
          obtain ⟨pq, hq⟩ := hq
          have hbq2 : Below wr.heap.size wr wq2 := by rw [hq]; exact below_regrown _ _ _
          clear hq hcq pq
          obtain ⟨hcq2, hfq2⟩ := bcell hbq2
          have zq2 := hbq2.size
          have BQ := Lib.hid (hb.trans (hbq2.mono zb))
          clear hcq2 hfq2 hbq2 cx cy yr
          go_wp2_with fail
          go_roundw
          case rel =>
            refine ⟨j + 1, (by have := HJ.out; omega), (by have := HT.out; simp; omega), Lib.hid (fun k hk => ?_), BQ⟩
            by_cases hkj : k = j
            · subst hkj; exact HOT.out
            · exact HN.out k (by omega)
          case measure => (simp [intOf]; omega)
        · rw [eB] at HOT
          go_upto_region 8 with (fail)
          have hcq := fun p : Regrown => (bcell (below_regrown wr p.d p.os)).1
          refine wp_region_quiet_below (by kernel_rfl) (by kernel_rfl) ?_
          repeat (go_big_quiet_step ((go_at_call 75; exact Calls.regrown_of (HAB.out _))))
          refine wpQuiet_nil ?_
          intro wq2 hq
          obtain ⟨pq, hq⟩ := hq
          have hbq2 : Below wr.heap.size wr wq2 := by rw [hq]; exact below_regrown _ _ _
          clear hq hcq pq
          obtain ⟨hcq2, hfq2⟩ := bcell hbq2
          have zq2 := hbq2.size
          have BQ := Lib.hid (hb.trans (hbq2.mono zb))
          clear hcq2 hfq2 hbq2 cx cy yr
          go_wp2_with fail
          go_ret
          exact ⟨ret_bool (HP1.out j HJ.out HOT.out).symm, BWQ.out.trans (BQ.out.mono BWQ.out.size)⟩
      · have hqB : decide (lo + (j : Int) ≤ hi) = false := decide_eq_false hle
        go_wp2_with fail
        go_ret
        exact ⟨ret_bool (HP0.out fun k hk => HN.out k (by omega)).symm, BWQ.out.trans (hb.mono BWQ.out.size)⟩
  · rw [if_neg hw]
    have HP1 := Lib.hid (fun (j : Nat) h h' => rt4_some (ir := ir) (gr := gr) (x := x) (len := bb) (rod := rod) (j := j) h h')
    have HP0 := Lib.hid (fun h => rt4_none (ir := ir) (gr := gr) (x := x) (len := bb) (rod := rod) h)
    obtain ⟨R, hR⟩ : ∃ R, rt4 ir gr x bb rod = R := ⟨_, rfl⟩
    rw [hR] at HP1 HP0 ⊢
    obtain ⟨xw, xr, xc, xs, xo, lo, hi⟩ := x
    obtain ⟨-, hct, hrs, hof, hwm⟩ := hx
    simp only [sy4] at *
    subst hq
    have hwB : (xw == 2) = false := by simpa using hw
    have m1 := mul_bd hct hrod
    have ws1 : IntKind.i64.wrap (xc * rod) = xc * rod := IntWalk.i64_in _ (by omega)
    have ws2 : IntKind.i64.wrap (xc * rod + xs) = xc * rod + xs := IntWalk.i64_in _ (by omega)
    have hsy : 0 ≤ xc * rod + xs ∧ xc * rod + xs ≤ 999900 := by omega
    have hln := hlb
    clear HR hg m1 hR HT hrd hlb hla hrt hw
    go_enter Try.func53, Try.ntmps53
    go_upto_region 1 with (fail)
    go_name_world W hW
    obtain ⟨hB, hz⟩ := al3 hW
    obtain ⟨l_0, q_0, f_0⟩ := al3_0 hW
    obtain ⟨l_1, q_1, f_1⟩ := al3_1 hW
    obtain ⟨l_2, q_2, f_2⟩ := al3_2 hW
    have HZ := Lib.hid hz
    have zs := hB.size
    clear hW hz
    have cqT := (hB.cell (p := ⟨bt, ot + q, none⟩) hbt).trans t0
    have lbt := Nat.lt_of_lt_of_le hbt zs
    go_upto_region 4 with (fail)
    have hcq := fun p : Regrown => (bcell (below_regrown W p.d p.os)).1
    refine wp_region_quiet_below (by kernel_rfl) (by kernel_rfl) ?_
    repeat (go_big_quiet_step ((fail)))
    refine wpQuiet_nil ?_
    intro wq hq
    obtain ⟨pq, hq⟩ := hq
    have hbq : Below W.heap.size W wq := by rw [hq]; exact below_regrown _ _ _
    clear hq hcq pq
    obtain ⟨hcq, hfq⟩ := bcell hbq
    have zq := hbq.size
    have c0q := fun i => (hcq _ i l_0).trans (q_0 i)
    have c1q := fun i => (hcq _ i l_1).trans (q_1 i)
    have c2q := fun i => (hcq _ i l_2).trans (q_2 i)
    have lq0 : w.heap.size < wq.heap.size := by omega
    have lq1 : w.heap.size + 1 < wq.heap.size := by omega
    have yq := (hbq.cell (p := ⟨b, off + q * 3 + 2, none⟩) (Nat.lt_of_lt_of_le hbl zs)).trans ((hB.cell (p := ⟨b, off + q * 3 + 2, none⟩) hbl).trans y2)
    have lb : b < wq.heap.size := by omega
    have BWQ := Lib.hid (hB.trans (hbq.mono zs))
    clear hcq hfq f_0 f_1 f_2 q_0 q_1 q_2 cqT hbq
    go_wp2_with fail
    obtain ⟨sy, hsy'⟩ : ∃ s, xc * rod + xs = s := ⟨_, rfl⟩
    rw [hsy'] at HP1 HP0 hsy ⊢
    clear ws1 ws2 hsy'
    go_loopw [9] (fun i (wr : World) => ∃ j : Nat, lo + j ≤ hi + 1 ∧ i = .int .i64 (lo + j) ∧ Hid (∀ k : Nat, k < j → ok4t ir gr bb sy xo (lo + k) = false) ∧ Hid (Below wq.heap.size wq wr)) (fun i _ => (hi + 1 - intOf i).toNat)
    case atStart => exact ⟨0, by omega, by simp, Lib.hid (fun k h => absurd h (by omega)), Lib.hid (Below.refl _ _)⟩
    case round =>
      obtain ⟨j, hj, rfl, HN, HBr⟩ := hrel
      have hb := HBr.out
      have zb := hb.size
      have cx := fun i => (hb.cell (p := ⟨w.heap.size, i, none⟩) lq0).trans (c0q i)
      have cy := fun i => (hb.cell (p := ⟨w.heap.size + 1, i, none⟩) lq1).trans (c1q i)
      have yr := (hb.cell (p := ⟨b, off + q * 3 + 2, none⟩) lb).trans yq
      have lr0 : w.heap.size < wr.heap.size := by omega
      have lr1 : w.heap.size + 1 < wr.heap.size := by omega
      have lbr : b < wr.heap.size := by omega
      by_cases hle : lo + j ≤ hi
      · have hqB : decide (lo + (j : Int) ≤ hi) = true := decide_eq_true hle
        obtain ⟨t, ht⟩ : ∃ t, lo + (j : Int) = t := ⟨_, rfl⟩
        rw [ht] at hle hqB ⊢
        have ht2 : -50 ≤ t ∧ t ≤ 50 := by omega
        have b1 := mul_bd2 hir ht2 (by omega)
        have b2 := mul_bd2 hgr ht2 (by omega)
        obtain ⟨e1, hm1⟩ : ∃ m, ir * t = m := ⟨_, rfl⟩
        obtain ⟨e2, hm2⟩ : ∃ m, gr * t = m := ⟨_, rfl⟩
        have HD := Lib.hid (show dt4 ir gr bb sy t = bb * (1000000 + e1) - sy * (1000000 + e2) by unfold dt4; rw [hm1, hm2])
        have b3 := mul_bd hln (b := 1000000 + e1) (B := 1002500) (by omega)
        have b4 := mul_bd hsy (b := 1000000 + e2) (B := 1002500) (by omega)
        obtain ⟨n1, hn1⟩ : ∃ m, bb * (1000000 + e1) = m := ⟨_, rfl⟩
        obtain ⟨n2, hn2⟩ : ∃ m, sy * (1000000 + e2) = m := ⟨_, rfl⟩
        have b5 := mul_bd hof (b := 1000000) (B := 1000000) (by omega)
        have v1 : IntKind.i64.wrap (ir * t) = e1 := by rw [← hm1]; exact IntWalk.i64_in _ (by omega)
        have v2 : IntKind.i64.wrap (gr * t) = e2 := by rw [← hm2]; exact IntWalk.i64_in _ (by omega)
        have v3 : IntKind.i64.wrap (1000000 + e1) = 1000000 + e1 := IntWalk.i64_in _ (by omega)
        have v4 : IntKind.i64.wrap (1000000 + e2) = 1000000 + e2 := IntWalk.i64_in _ (by omega)
        have v5 : IntKind.i64.wrap (bb * (1000000 + e1)) = n1 := by rw [← hn1]; exact IntWalk.i64_in _ (by omega)
        have v6 : IntKind.i64.wrap (sy * (1000000 + e2)) = n2 := by rw [← hn2]; exact IntWalk.i64_in _ (by omega)
        have v8 : IntKind.i64.wrap (xo * 1000000) = xo * 1000000 := IntWalk.i64_in _ (by omega)
        have v9 : IntKind.i64.wrap (t + 1) = t + 1 := IntWalk.i64_in _ (by omega)
        have HD2 := Lib.hid (HD.out.trans (by rw [hn1, hn2]))
        rw [hn1] at b3
        rw [hn2] at b4
        clear hm1 hm2 hn1 hn2 HD
        obtain ⟨d, hd⟩ : ∃ d, n1 - n2 = d := ⟨_, rfl⟩
        have v7 : IntKind.i64.wrap (n1 - n2) = d := by rw [IntWalk.i64_in _ (by omega)]; exact hd
        have HD3 := Lib.hid (HD2.out.trans hd)
        have hdb : -200000000000000 ≤ d ∧ d ≤ 200000000000000 := by omega
        have HAB := Lib.hid (fun V => abs4_c d V (by omega))
        obtain ⟨mx, hmx⟩ : ∃ m, max d (-d) = m := ⟨_, rfl⟩
        rw [hmx] at HAB
        have HOT : Hid (ok4t ir gr bb sy xo (lo + j) = decide (mx ≤ xo * 1000000)) := Lib.hid (by rw [ht]; unfold ok4t; rw [HD3.out, Bool.eq_iff_iff, Bool.and_eq_true, decide_eq_true_eq, decide_eq_true_eq, decide_eq_true_eq]; omega)
        have HJ : Hid (lo + (j : Int) ≤ hi) := Lib.hid (by omega)
        have HT := Lib.hid ht
        clear hd HD2 b1 b2 b3 b4 ht hmx
        cases eB : decide (mx ≤ xo * 1000000)
        · rw [eB] at HOT
          go_upto_region 8 with (fail)
          have hcq := fun p : Regrown => (bcell (below_regrown wr p.d p.os)).1
          refine wp_region_quiet_below (by kernel_rfl) (by kernel_rfl) ?_
          repeat (go_big_quiet_step ((go_at_call 75; exact Calls.regrown_of (HAB.out _))))
          refine wpQuiet_nil ?_
          intro wq2 hq
          obtain ⟨pq, hq⟩ := hq
          have hbq2 : Below wr.heap.size wr wq2 := by rw [hq]; exact below_regrown _ _ _
          clear hq hcq pq
          obtain ⟨hcq2, hfq2⟩ := bcell hbq2
          have zq2 := hbq2.size
          have BQ := Lib.hid (hb.trans (hbq2.mono zb))
          clear hcq2 hfq2 hbq2 cx cy yr
          go_wp2_with fail
          go_roundw
          case rel =>
            refine ⟨j + 1, (by have := HJ.out; omega), (by have := HT.out; simp; omega), Lib.hid (fun k hk => ?_), BQ⟩
            by_cases hkj : k = j
            · subst hkj; exact HOT.out
            · exact HN.out k (by omega)
          case measure => (simp [intOf]; omega)
        · rw [eB] at HOT
          go_upto_region 8 with (fail)
          have hcq := fun p : Regrown => (bcell (below_regrown wr p.d p.os)).1
          refine wp_region_quiet_below (by kernel_rfl) (by kernel_rfl) ?_
          repeat (go_big_quiet_step ((go_at_call 75; exact Calls.regrown_of (HAB.out _))))
          refine wpQuiet_nil ?_
          intro wq2 hq
          obtain ⟨pq, hq⟩ := hq
          have hbq2 : Below wr.heap.size wr wq2 := by rw [hq]; exact below_regrown _ _ _
          clear hq hcq pq
          obtain ⟨hcq2, hfq2⟩ := bcell hbq2
          have zq2 := hbq2.size
          have BQ := Lib.hid (hb.trans (hbq2.mono zb))
          clear hcq2 hfq2 hbq2 cx cy yr
          go_wp2_with fail
          go_ret
          exact ⟨ret_bool (HP1.out j HJ.out HOT.out).symm, BWQ.out.trans (BQ.out.mono BWQ.out.size)⟩
      · have hqB : decide (lo + (j : Int) ≤ hi) = false := decide_eq_false hle
        go_wp2_with fail
        go_ret
        exact ⟨ret_bool (HP0.out fun k hk => HN.out k (by omega)).symm, BWQ.out.trans (hb.mono BWQ.out.size)⟩
/-- how many of the first k are not so -/
def cw4 (f : Nat → Bool) (k : Nat) : Nat := ((List.range k).filter fun j => !f j).length
theorem cw4_succ {f : Nat → Bool} {k : Nat} : cw4 f (k + 1) = cw4 f k + (bif f k then 0 else 1) := by
  unfold cw4
  rw [List.range_succ, List.filter_append, List.length_append]
  cases h : f k <;> simp [h]
theorem cw4_le {f : Nat → Bool} {k : Nat} : cw4 f k ≤ k := by
  unfold cw4
  exact Nat.le_trans (List.length_filter_le _ _) (by simp)
/-- reading j is right with some lengths -/
def rgT4 (p : P4) (us : List Int) (bb aa : Int) (j : Nat) : Bool := rt4 p.ir (roAt p.rods (reAt p.res j).rd.toNat).gr (reAt p.res j) (if (reAt p.res j).wh = 2 then aa else bb) (iAt us (reAt p.res j).rd.toNat)
set_option maxRecDepth 100000 in
set_option maxHeartbeats 1600000 in
theorem refWrongs4_c (Ar : Option Addr) (nr cr : Nat) (Ad : Option Addr) (nd cd : Nat) (p : P4) (T : Option Addr) (ct : Nat) (us : List Int) (bb aa : Int) (w : World) (ok : Ok4 nr nd p) (HM : MemP Ar nr Ad nd p w) (HT : IntsAt w T nr us)
    (hlb : 0 ≤ bb ∧ bb ≤ 99999) (hla : 0 ≤ aa ∧ aa ≤ 99999) (hrod : ∀ q, q < nr → 0 ≤ iAt us q ∧ iAt us q ≤ 9999) :
    Calls Try.prog 43 #[.agg #[.int .i64 p.ir, .int .i64 p.glo, .int .i64 p.ghi, .slice Ar nr cr, .slice Ad nd cd, .int .i64 p.wr], .agg #[.int .i64 bb, .int .i64 aa, .slice T nr ct]] w
      fun e w' => e = .returned (.int .i64 (cw4 (rgT4 p us bb aa) nd : Nat)) ∧ Below w.heap.size w w' := by
  have HRT := Lib.hid (fun k (hk : k < nd) V (hV : Below w.heap.size w V) => refRight4_c Ar nr cr Ad nd cd p.ir p.glo p.ghi p.wr p.rods (reAt p.res k) T nr ct us bb aa V (HM.hr.later hV) (HT.later hV) ok.ir (ok.ro _ (by have := (ok.re k hk).2.1; omega)).2.2 (okx_of ok hk) hlb hla (ok.re k hk).2.1.2 (hrod _ (by have := (ok.re k hk).2.1; omega)))
  have HMI := Lib.hid HM
  have hnd8 := ok.nd8
  have HF : Hid (∀ k, rt4 p.ir (roAt p.rods (reAt p.res k).rd.toNat).gr (reAt p.res k) (if (reAt p.res k).wh = 2 then aa else bb) (iAt us (reAt p.res k).rd.toNat) = rgT4 p us bb aa k) := Lib.hid fun k => rfl
  obtain ⟨f, hf⟩ : ∃ f, rgT4 p us bb aa = f := ⟨_, rfl⟩
  rw [hf] at HF ⊢
  clear HM HT ok hlb hla hrod hf
  obtain ⟨ir, glo, ghi, wrg, rods, res⟩ := p
  simp only at HRT HMI HF ⊢
  go_enter Try.func43, Try.ntmps43
  go_upto_region 1 with (fail)
  go_name_world W hW
  obtain ⟨hB, hz⟩ := al2 hW
  obtain ⟨l_0, q_0, f_0⟩ := al2_0 hW
  obtain ⟨l_1, q_1, f_1⟩ := al2_1 hW
  have HZ := Lib.hid hz
  have zs := hB.size
  clear hW hz
  go_wp2_with fail
  go_loopw [5, 6] (fun v i (wr : World) => ∃ k : Nat, k ≤ nd ∧ v = .int .i64 (cw4 f k : Nat) ∧ i = .int .i64 k ∧ Below W.heap.size W wr) (fun _ i _ => nd - (intOf i).toNat)
  case atStart => exact ⟨0, by omega, rfl, by simp, Below.refl _ _⟩
  case round =>
    obtain ⟨k, hk, rfl, rfl, hb⟩ := hrel
    have zb := hb.size
    have cx := fun i => (hb.cell (p := ⟨w.heap.size, i, none⟩) l_0).trans (q_0 i)
    have cy := fun i => (hb.cell (p := ⟨w.heap.size + 1, i, none⟩) l_1).trans (q_1 i)
    have lr0 : w.heap.size < wr.heap.size := by omega
    have lr1 : w.heap.size + 1 < wr.heap.size := by omega
    have hbw := hB.trans (hb.mono zs)
    have hc8 := cw4_le (f := f) (k := k)
    by_cases hlt : k < nd
    · have hqB : decide ((k : Int) < nd) = true := by simp; omega
      have vk : IntKind.i64.wrap ((k : Int) + 1) = (k : Int) + 1 := IntWalk.i64_in _ (by omega)
      obtain ⟨bd, od, hA, hbd, y0, y1, y2, y3, y4, y5, y6⟩ := (HMI.out.hd.later hbw).get hlt
      subst hA
      have HC := HRT.out k hlt
      have hfk := HF.out k
      have HS := cw4_succ (f := f) (k := k)
      rw [hfk] at HC
      clear hfk
      obtain ⟨x, hx⟩ : ∃ x, reAt res k = x := ⟨_, rfl⟩
      rw [hx] at y0 y1 y2 y3 y4 y5 y6 HC
      obtain ⟨c, hc⟩ : ∃ c, cw4 f k = c := ⟨_, rfl⟩
      rw [hc] at hc8 HS ⊢
      obtain ⟨xw, xr, xc, xs, xo, lo, hi⟩ := x
      simp only at HC
      have vc : IntKind.i64.wrap ((c : Int) + 1) = (c : Int) + 1 := IntWalk.i64_in _ (by omega)
      cases e1 : f k
      · rw [e1] at HC HS
        replace HC := Lib.hid HC
        replace HS := Lib.hid (show cw4 f (k + 1) = c + 1 by simpa using HS)
        clear e1 hx hc
        go_upto_region 5 with (fail)
        have hcq := fun p : Regrown => (bcell (below_regrown wr p.d p.os)).1
        refine wp_region_quiet_below (by kernel_rfl) (by kernel_rfl) ?_
        repeat (go_big_quiet_step ((go_at_call 53; exact Calls.regrown_of (HC.out _ (hbw.trans ((below_regrown _ _ _).mono hbw.size))))))
        refine wpQuiet_nil ?_
        intro wq hq
        obtain ⟨pq, hq⟩ := hq
        have hbq : Below wr.heap.size wr wq := by rw [hq]; exact below_regrown _ _ _
        clear hq hcq pq
        obtain ⟨hcq, hfq⟩ := bcell hbq
        have zq := hbq.size
        have BQ := Lib.hid (hb.trans (hbq.mono zb))
        clear hcq hfq hbq cx cy
        go_wp2_with fail
        go_roundw
        case rel => exact ⟨k + 1, by omega, by rw [HS.out]; go_num, by go_num, BQ.out⟩
        case measure => simp [intOf]; omega
      · rw [e1] at HC HS
        replace HC := Lib.hid HC
        replace HS := Lib.hid (show cw4 f (k + 1) = c by simpa using HS)
        clear e1 hx hc
        go_upto_region 5 with (fail)
        have hcq := fun p : Regrown => (bcell (below_regrown wr p.d p.os)).1
        refine wp_region_quiet_below (by kernel_rfl) (by kernel_rfl) ?_
        repeat (go_big_quiet_step ((go_at_call 53; exact Calls.regrown_of (HC.out _ (hbw.trans ((below_regrown _ _ _).mono hbw.size))))))
        refine wpQuiet_nil ?_
        intro wq hq
        obtain ⟨pq, hq⟩ := hq
        have hbq : Below wr.heap.size wr wq := by rw [hq]; exact below_regrown _ _ _
        clear hq hcq pq
        obtain ⟨hcq, hfq⟩ := bcell hbq
        have zq := hbq.size
        have BQ := Lib.hid (hb.trans (hbq.mono zb))
        clear hcq hfq hbq cx cy
        go_wp2_with fail
        go_roundw
        case rel => exact ⟨k + 1, by omega, by rw [HS.out], by go_num, BQ.out⟩
        case measure => simp [intOf]; omega
    · obtain rfl : nd = k := by omega
      have hqB : decide (((nd : Nat) : Int) < nd) = false := by simp
      go_wp2_with fail
      go_ret
      exact ⟨rfl, hbw⟩
set_option maxHeartbeats 800000 in
theorem held4_c (T : Option Addr) (nt ct : Nat) (bb aa pt : Int) (w : World) (hlb : 0 ≤ bb ∧ bb ≤ 99999) (hla : 0 ≤ aa ∧ aa ≤ 99999) (hp : 0 ≤ pt ∧ pt ≤ 1000) :
    Calls Try.prog 77 #[.agg #[.int .i64 bb, .int .i64 aa, .slice T nt ct], .int .i64 pt] w fun e w' => e = .returned (.bool (is4 pt bb aa)) ∧ Below w.heap.size w w' := by
  have hm := Int.mul_le_mul hp.2 hlb.2 hlb.1 (show (0 : Int) ≤ 1000 by omega)
  have hm0 := Int.mul_nonneg hp.1 hlb.1
  have v1 : IntKind.i64.wrap (aa - bb) = aa - bb := IntWalk.i64_in _ (by omega)
  have v2 : IntKind.i64.wrap (1000 * (aa - bb)) = 1000 * (aa - bb) := IntWalk.i64_in _ (by omega)
  have v3 : IntKind.i64.wrap (pt * bb) = pt * bb := IntWalk.i64_in _ (by omega)
  unfold is4
  obtain ⟨r, hr⟩ : ∃ r, decide (1000 * (aa - bb) ≤ pt * bb) = r := ⟨_, rfl⟩
  rw [hr]
  clear hm hm0
  go_enter Try.func77, Try.ntmps77
  go_wp2
  go_ret
  exact ⟨rfl, by (repeat first | with_reducible assumption | with_reducible exact Below.refl _ _ | (with_reducible refine Below.alloc ?_ ?side _; case side => (first | omega | (with_reducible exact Below.size (by assumption)) | (simp; done) | (simp; omega))) | (with_reducible refine Below.setCell ?_ ?side _; case side => (first | omega | (with_reducible exact Below.size (by assumption)) | (simp; done) | (simp; omega))) | with_reducible refine Below.drew ?_ | with_reducible refine below_drewN ?_ _ | (with_reducible refine below_step (by assumption) ?side ?_; case side => (first | omega | (with_reducible exact Below.size (by assumption)) | (simp; done) | (simp; omega))))⟩

end Go.Proofs.Ytmmgkmdfecnkdaa
