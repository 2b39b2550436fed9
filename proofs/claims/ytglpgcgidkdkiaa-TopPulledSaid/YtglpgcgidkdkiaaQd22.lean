/- The small functions of levers (layer 3): pull, isRight; How long a cable is; Check of links and of the specification (layer 2); Check of links and of the specification (layer 2); Far of its statements; Check of the specification and of links, whole (layer 2). -/
import Derived.Test.YtglpgcgidkdkiaaChecked
import Derived.Test.YtglpgcgidkdkiaaQd20
import Derived.Shelf.Abstract
import Derived.Laws.EntriesVeiled
import Derived.Handy
import Derived.Deep.DrawnRows
import Derived.Deep.DeepCutAuto
import Derived.Test.YtglpgcgidkdkiaaQd21
namespace Go.Proofs.Ytglpgcgidkdkiaa
open Go.RowKit
open Go.Sort (grow)
set_option linter.unusedVariables false
set_option linter.unusedSimpArgs false

set_option maxHeartbeats 400000 in
theorem within3_c (n a b : Int) (w : World) :
    Calls Try.prog 59 #[.int .i64 n, .int .i64 a, .int .i64 b] w fun e w' => e = .returned (.bool (wn n a b)) ∧ w = w' := by
  go_enter Try.func59, Try.ntmps59
  go_wp2
  all_goals
    go_ret
    exact ⟨ret_bool (by simp [wn, *] <;> omega), rfl⟩
set_option maxRecDepth 100000 in
set_option maxHeartbeats 1600000 in
theorem pull_c (gm : Nat) (Al : Option Addr) (nl cl : Nat) (wa l0 l1 : Int) (Ab : Option Addr) (nb cb : Nat) (wr ab : Int) (s : St3) (wt mi : Int) (w : World)
    (HK : Blk w gm 96 #[.slice Al nl cl, .int .i64 wa, .int .i64 l0, .int .i64 l1, .slice Ab nb cb, .int .i64 wr, .int .i64 ab]) (h1 : 0 ≤ wa ∧ wa ≤ 9999) (h2 : 0 ≤ s.lk ∧ s.lk ≤ 20) (h3 : 0 ≤ wt ∧ wt ≤ 9999) (h4 : 0 ≤ mi ∧ mi ≤ 99) :
    Calls Try.prog 37 #[.pointer (some ⟨gm, 0, none⟩), .agg #[.int .i64 s.s0, .int .i64 s.s1, .int .i64 s.s2, .int .i64 s.lk, .int .i64 s.bw], .int .i64 wt, .int .i64 mi] w
      fun e w' => e = .returned (.int .i64 (pl3 wa s.lk wt mi)) ∧ Below w.heap.size w w' := by
  obtain ⟨⟨b1, b2⟩, b3, b4⟩ := pl3_bd h1 h2 h3 h4
  obtain ⟨s0, s1, s2, lk, bw⟩ := s
  simp only at h2 b1 b2 b3 b4 ⊢
  unfold pl3
  obtain ⟨ml, hml⟩ : ∃ x, mi * lk = x := ⟨_, rfl⟩
  rw [hml] at b1 b2 ⊢
  obtain ⟨df, hdf⟩ : ∃ x, wa - ml = x := ⟨_, rfl⟩
  rw [hdf]
  obtain ⟨mx, hmx⟩ : ∃ x : Int, (if 0 < df then df else 0) = x := ⟨_, rfl⟩
  have hm2 : max (0 : Int) df = mx := by rw [← hmx]; split <;> omega
  rw [hmx]
  have hmb : 0 ≤ mx ∧ mx ≤ 9999 := by rw [← hmx]; split <;> omega
  have w1 : IntKind.i64.wrap (mi * lk) = ml := by rw [hml]; exact IntWalk.i64_in _ (by omega)
  have w2 : IntKind.i64.wrap (wa - ml) = df := by rw [hdf]; exact IntWalk.i64_in _ (by omega)
  have w3 : IntKind.i64.wrap (wt + mx) = wt + mx := IntWalk.i64_in _ (by omega)
  have c0 := HK.cell
  have lt0 := HK.lt
  clear HK b3 b4
  go_enter Try.func37, Try.ntmps37
  go_upto_region 1 with (fail)
  go_name_world X hX
  have BX : Below w.heap.size w X := (al1 hX).1
  have q0 := (al1_0 hX).2.1
  have l0' := (al1_0 hX).1
  have cx := fun j => (BX.cell (p := ⟨gm, j, none⟩) lt0).trans (c0 j)
  have ltx : gm < X.heap.size := Nat.lt_of_lt_of_le lt0 BX.size
  clear hX c0 hml hdf
  have hcq := fun p : Regrown => (bcell (below_regrown X p.d p.os)).1
  refine wp_region_quiet_below (by kernel_rfl) (by kernel_rfl) ?_
  repeat (go_big_quiet_step ((fail)))
  refine wpQuiet_nil ?_
  intro wq hq
  obtain ⟨pq, hq⟩ := hq
  have hbq : Below X.heap.size X wq := by rw [hq]; exact below_regrown _ _ _
  clear hq hcq pq
  obtain ⟨hcq, hfq⟩ := bcell hbq
  have zq := hbq.size
  go_wp2_with fail
  go_ret
  exact ⟨rfl, BX.trans (hbq.mono BX.size)⟩

end Go.Proofs.Ytglpgcgidkdkiaa

namespace Go.Proofs.Ytglpgcgidkdkiaa
open Go.RowKit
open Go.Sort (grow)
set_option linter.unusedVariables false
set_option linter.unusedSimpArgs false

set_option maxRecDepth 100000 in
set_option maxHeartbeats 1600000 in
theorem long2_c (A As : Option Addr) (n c ns cs : Nat) (wr : Int) (ds : List Dd) (w : World) (hn : n ≤ 12) (HD : DdsAt w A n ds) :
    Calls Try.prog 67 #[.agg #[.slice A n c, .slice As ns cs, .int .i64 wr]] w fun e w' => (∃ z : Int, e = .returned (.tuple #[.int .i64 (ln2 ds n), .int .i64 z])) ∧ Below w.heap.size w w' := by
  have HDI := Lib.hid HD
  clear HD
  go_enter Try.func67, Try.ntmps67
  go_wp2_with fail
  obtain ⟨W, hW⟩ : ∃ W, w.alloc (.cells #[.slice A n c, .slice As ns cs, .int .i64 wr] 112) = W := ⟨_, rfl⟩
  have B0 : Below w.heap.size w W := by rw [← hW]; exact (Below.refl _ _).alloc (Nat.le_refl _) _
  rw [hW]
  clear hW
  have z0 := B0.size
  go_loopw [2, 3, 9] (fun a b i (wr : World) => ∃ (k : Nat) (z : Int), k ≤ n ∧ a = .int .i64 (ln2 ds k) ∧ b = .int .i64 z ∧ i = .int .i64 k ∧ (0 ≤ z ∧ z ≤ k) ∧ Below w.heap.size w wr) (fun _ _ i _ => n - (intOf i).toNat)
  case atStart => exact ⟨0, 0, by omega, rfl, rfl, rfl, by omega, B0⟩
  case round =>
    obtain ⟨k, z, hk, rfl, rfl, rfl, hz, hb⟩ := hrel
    have zb := hb.size
    by_cases hlt : k < n
    · have hqB : decide ((k : Int) < n) = true := by simp; omega
      obtain ⟨b0, o0, rfl, hb0, y0, y1, y2, y3, y4⟩ := (HDI.out.later hb).get hlt
      have hbd := ln2_bd (ds := ds) k
      have hs := ln2_succ (ds := ds) (k := k)
      have hg := gr2_bd (d := ddAt ds k)
      obtain ⟨d, hd⟩ : ∃ d, ddAt ds k = d := ⟨_, rfl⟩
      rw [hd] at y0 y1 y2 y3 y4 hs hg
      have hgr := Lib.hid (fun V => grows_c d V)
      obtain ⟨g, hg2⟩ : ∃ g, gr2 d = g := ⟨_, rfl⟩
      obtain ⟨a, ha⟩ : ∃ g, ln2 ds k = g := ⟨_, rfl⟩
      obtain ⟨a', ha'⟩ : ∃ g, ln2 ds (k + 1) = g := ⟨_, rfl⟩
      rw [hg2] at hs hg hgr
      rw [ha] at hbd hs ⊢
      rw [ha'] at hs
      obtain ⟨mg, hmg⟩ : ∃ m : Int, (if 0 < g then g else 0) = m := ⟨_, rfl⟩
      have hmx : max (0 : Int) g = mg := by rw [← hmg]; split <;> omega
      have hw1 : IntKind.i64.wrap (a + g) = a' := by rw [hs]; exact IntWalk.i64_in _ (by omega)
      have hw2 : IntKind.i64.wrap (z + mg) = z + mg := IntWalk.i64_in _ (by omega)
      have HA := Lib.hid ha'
      have hmb : 0 ≤ mg ∧ mg ≤ 1 := by rw [← hmg]; split <;> omega
      clear ha ha' hg2 hd hs hg hbd
      go_upto_region 4 with (fail)
      go_name_world X hX
      have BX := (al1 hX).1
      have q0 := (al1_0 hX).2.1
      have lX := (al1_0 hX).1
      clear hX y0 y1 y2 y3 y4
      go_upto_region 5 with (go_at_call 94; refine (hgr.out _).mono ?_; rintro e w5 ⟨rfl, hb5⟩)
      have q5 := fun j => (hb5.cell (p := ⟨wr.heap.size, j, none⟩) lX).trans (q0 j)
      have z5 := hb5.size
      have l5 : wr.heap.size < w5.heap.size := by omega
      have B5 : Below w.heap.size w w5 := (hb.trans (BX.mono zb)).trans (hb5.mono (by have := BX.size; omega))
      clear q0 hb5
      go_upto_region 6 with (go_at_call 94; refine (hgr.out _).mono ?_; rintro e w6 ⟨rfl, hb6⟩)
      have B6 : Below w.heap.size w w6 := B5.trans (hb6.mono B5.size)
      clear q5 hb6
      go_wp2_with fail
      go_roundw
      case rel => exact ⟨k + 1, z + mg, by omega, by rw [HA.out], rfl, by go_num, by omega, B6⟩
      case measure => simp [intOf]; omega
    · obtain rfl : k = n := by omega
      have hqB : decide (((k : Nat) : Int) < k) = false := by simp
      go_wp2_with fail
      exact bodyPost_ret (v := .tuple #[.int .i64 (ln2 ds k), .int .i64 z]) (by simp [results, Try.results67, go_sem]) rfl ⟨⟨z, rfl⟩, hb⟩
/-- how long the cable is before each deed, and behind the last one -/
def lenL (ds : List Dd) (k : Nat) : List Int := (List.range (k + 1)).map (ln2 ds)
theorem lenL_len {ds : List Dd} {k : Nat} : (lenL ds k).length = k + 1 := by simp [lenL]
theorem lenL_succ {ds : List Dd} {k : Nat} : lenL ds (k + 1) = lenL ds k ++ [ln2 ds (k + 1)] := by
  unfold lenL
  rw [List.range_succ, List.map_append]; rfl
theorem lenL_at {ds : List Dd} {n k : Nat} (h : k ≤ n) : iAt (lenL ds n) k = ln2 ds k := by
  unfold iAt lenL
  rw [List.getD_eq_getElem?_getD, List.getElem?_map, List.getElem?_range (by omega)]; rfl
def LensRet (ds : List Dd) (n : Nat) (ok : Bool) (w : World) (e : Ending) (w' : World) : Prop :=
  ((ok = true ∧ ∃ A c, e = .returned (.tuple #[.slice A (n + 1) c, .bool true]) ∧ IntsAt w' A (n + 1) (lenL ds n)) ∨ (ok = false ∧ e = .returned (.tuple #[.slice none 0 0, .bool false]))) ∧ Below w.heap.size w w'

end Go.Proofs.Ytglpgcgidkdkiaa

namespace Go.Proofs.Ytglpgcgidkdkiaa
open Go.RowKit
open Go.Sort (grow)
set_option linter.unusedVariables false
set_option linter.unusedSimpArgs false

theorem wb2 {F : FuncId} (h : ∀ n a b V, Calls Try.prog F #[.int .i64 n, .int .i64 a, .int .i64 b] V fun e V' => e = .returned (.bool (wn n a b)) ∧ V = V') :
    ∀ n a b V, Calls Try.prog F #[.int .i64 n, .int .i64 a, .int .i64 b] V fun e V' => e = .returned (.bool (wn n a b)) ∧ Below V.heap.size V V' :=
  fun n a b V => (h n a b V).mono fun e w' k => ⟨k.1, k.2 ▸ Below.refl _ _⟩

end Go.Proofs.Ytglpgcgidkdkiaa

namespace Go.Proofs.Ytglpgcgidkdkiaa
open Go.RowKit
open Go.Sort (grow)
set_option linter.unusedVariables false
set_option linter.unusedSimpArgs false

def er2 (b : Bool) : Int := bif b then 0 else 20
theorem ck2_a {ds ss : List Dd} {nd ns : Nat} {wr : Int} (h : ¬ nd ≤ 12) : ck2 ds ss nd ns wr = false := by
  unfold ck2; rw [decide_eq_false h]; rfl
theorem ck2_b {ds ss : List Dd} {nd ns : Nat} {wr : Int} (h : ¬ ns ≤ 8) : ck2 ds ss nd ns wr = false := by
  unfold ck2; rw [decide_eq_false h]; simp
theorem ck2_c {ds ss : List Dd} {nd ns : Nat} {wr : Int} (h : wn wr 0 8 = false) : ck2 ds ss nd ns wr = false := by
  unfold ck2; rw [h]; simp
theorem ck2_d {ds ss : List Dd} {nd ns : Nat} {wr : Int} (h1 : nd ≤ 12) (h2 : ns ≤ 8) (h3 : wn wr 0 8 = true) :
    ck2 ds ss nd ns wr = (allN nd (fun k => dk2 (ddAt ds k) (ln2 ds k)) && allN ns (fun k => sk2 (ddAt ss k) nd ds)) := by
  unfold ck2; rw [decide_eq_true h1, decide_eq_true h2, h3]; rfl
set_option maxRecDepth 100000 in
set_option maxHeartbeats 1600000 in
theorem linkCheck2_no (A As : Option Addr) (n c ns cs : Nat) (wr : Int) (ds ss : List Dd) (w : World) (hn : n ≤ 40) (hs : ns ≤ 40) (h : ¬ (n ≤ 12 ∧ ns ≤ 8 ∧ wn wr 0 8 = true)) :
    Calls Try.prog 66 #[.agg #[.slice A n c, .slice As ns cs, .int .i64 wr]] w fun e w' => e = .returned (.int .i64 (er2 (ck2 ds ss n ns wr))) ∧ Below w.heap.size w w' := by
  have c1 := fun V => within2_c wr 0 8 V
  by_cases h1 : n ≤ 12
  · have hB1 : decide ((12 : Int) < n) = false := by simp; omega
    by_cases h2 : ns ≤ 8
    · have hB2 : decide ((8 : Int) < ns) = false := by simp; omega
      cases e1 : wn wr 0 8
      · rw [e1] at c1
        rw [ck2_c e1]
        replace c1 := Lib.hid c1
        go_enter Try.func66, Try.ntmps66
        go_wp2_with (go_at_call 92; refine (c1.out _).mono ?_; rintro e w' ⟨rfl, rfl⟩)
        go_ret
        exact ⟨rfl, by (repeat first | with_reducible assumption | with_reducible exact Below.refl _ _ | (with_reducible refine Below.alloc ?_ ?side _; case side => (first | omega | (with_reducible exact Below.size (by assumption)) | (simp; done) | (simp; omega))) | (with_reducible refine Below.setCell ?_ ?side _; case side => (first | omega | (with_reducible exact Below.size (by assumption)) | (simp; done) | (simp; omega))) | with_reducible refine Below.drew ?_ | with_reducible refine below_drewN ?_ _ | (with_reducible refine below_step (by assumption) ?side ?_; case side => (first | omega | (with_reducible exact Below.size (by assumption)) | (simp; done) | (simp; omega))))⟩
      · exact absurd ⟨h1, h2, e1⟩ h
    · have hB2 : decide ((8 : Int) < ns) = true := by simp; omega
      rw [ck2_b h2]
      go_enter Try.func66, Try.ntmps66
      go_wp2_with fail
      go_ret
      exact ⟨rfl, by (repeat first | with_reducible assumption | with_reducible exact Below.refl _ _ | (with_reducible refine Below.alloc ?_ ?side _; case side => (first | omega | (with_reducible exact Below.size (by assumption)) | (simp; done) | (simp; omega))) | (with_reducible refine Below.setCell ?_ ?side _; case side => (first | omega | (with_reducible exact Below.size (by assumption)) | (simp; done) | (simp; omega))) | with_reducible refine Below.drew ?_ | with_reducible refine below_drewN ?_ _ | (with_reducible refine below_step (by assumption) ?side ?_; case side => (first | omega | (with_reducible exact Below.size (by assumption)) | (simp; done) | (simp; omega))))⟩
  · have hB1 : decide ((12 : Int) < n) = true := by simp; omega
    rw [ck2_a h1]
    go_enter Try.func66, Try.ntmps66
    go_wp2_with fail
    go_ret
    exact ⟨rfl, by (repeat first | with_reducible assumption | with_reducible exact Below.refl _ _ | (with_reducible refine Below.alloc ?_ ?side _; case side => (first | omega | (with_reducible exact Below.size (by assumption)) | (simp; done) | (simp; omega))) | (with_reducible refine Below.setCell ?_ ?side _; case side => (first | omega | (with_reducible exact Below.size (by assumption)) | (simp; done) | (simp; omega))) | with_reducible refine Below.drew ?_ | with_reducible refine below_drewN ?_ _ | (with_reducible refine below_step (by assumption) ?side ?_; case side => (first | omega | (with_reducible exact Below.size (by assumption)) | (simp; done) | (simp; omega))))⟩

end Go.Proofs.Ytglpgcgidkdkiaa
