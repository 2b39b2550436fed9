/- The small functions of levers (layer 3): pull, isRight; isAsk and work of levers (layer 3). -/
import Derived.Test.YtglpgcgidkdkiaaChecked
import Derived.Test.YtglpgcgidkdkiaaQc03
import Derived.Shelf.Abstract
import Derived.Laws.EntriesVeiled
import Derived.Handy
import Derived.Deep.DrawnRows
import Derived.Deep.DeepCutAuto
namespace Go.Proofs.Ytglpgcgidkdkiaa
open Go.RowKit
open Go.Sort (grow)
set_option linter.unusedVariables false
set_option linter.unusedSimpArgs false

set_option maxHeartbeats 400000 in
theorem within3_c (n a b : Int) (w : World) :
    Calls Try.prog 59 #[.int .i64 n, .int .i64 a, .int .i64 b] w fun e w' => e = .returned (.bool (wn n a b)) ∧ w = w' := by
  go_enter Try.func59, Try.ntmps59
  go_wp2
  all_goals
    go_ret
    exact ⟨ret_bool (by simp [wn, *] <;> omega), rfl⟩
set_option maxRecDepth 100000 in
set_option maxHeartbeats 1600000 in
theorem pull_c (gm : Nat) (Al : Option Addr) (nl cl : Nat) (wa l0 l1 : Int) (Ab : Option Addr) (nb cb : Nat) (wr ab : Int) (s : St3) (wt mi : Int) (w : World)
    (HK : Blk w gm 96 #[.slice Al nl cl, .int .i64 wa, .int .i64 l0, .int .i64 l1, .slice Ab nb cb, .int .i64 wr, .int .i64 ab]) (h1 : 0 ≤ wa ∧ wa ≤ 9999) (h2 : 0 ≤ s.lk ∧ s.lk ≤ 20) (h3 : 0 ≤ wt ∧ wt ≤ 9999) (h4 : 0 ≤ mi ∧ mi ≤ 99) :
    Calls Try.prog 37 #[.pointer (some ⟨gm, 0, none⟩), .agg #[.int .i64 s.s0, .int .i64 s.s1, .int .i64 s.s2, .int .i64 s.lk, .int .i64 s.bw], .int .i64 wt, .int .i64 mi] w
      fun e w' => e = .returned (.int .i64 (pl3 wa s.lk wt mi)) ∧ Below w.heap.size w w' := by
  obtain ⟨⟨b1, b2⟩, b3, b4⟩ := pl3_bd h1 h2 h3 h4
  obtain ⟨s0, s1, s2, lk, bw⟩ := s
  simp only at h2 b1 b2 b3 b4 ⊢
  unfold pl3
  obtain ⟨ml, hml⟩ : ∃ x, mi * lk = x := ⟨_, rfl⟩
  rw [hml] at b1 b2 ⊢
  obtain ⟨df, hdf⟩ : ∃ x, wa - ml = x := ⟨_, rfl⟩
  rw [hdf]
  obtain ⟨mx, hmx⟩ : ∃ x : Int, (if 0 < df then df else 0) = x := ⟨_, rfl⟩
  have hm2 : max (0 : Int) df = mx := by rw [← hmx]; split <;> omega
  rw [hmx]
  have hmb : 0 ≤ mx ∧ mx ≤ 9999 := by rw [← hmx]; split <;> omega
  have w1 : IntKind.i64.wrap (mi * lk) = ml := by rw [hml]; exact IntWalk.i64_in _ (by omega)
  have w2 : IntKind.i64.wrap (wa - ml) = df := by rw [hdf]; exact IntWalk.i64_in _ (by omega)
  have w3 : IntKind.i64.wrap (wt + mx) = wt + mx := IntWalk.i64_in _ (by omega)
  have c0 := HK.cell
  have lt0 := HK.lt
  clear HK b3 b4
  go_enter Try.func37, Try.ntmps37
  go_upto_region 1 with (fail)
  go_name_world X hX
  have BX : Below w.heap.size w X := (al1 hX).1
  have q0 := (al1_0 hX).2.1
  have l0' := (al1_0 hX).1
  have cx := fun j => (BX.cell (p := ⟨gm, j, none⟩) lt0).trans (c0 j)
  have ltx : gm < X.heap.size := Nat.lt_of_lt_of_le lt0 BX.size
  clear hX c0 hml hdf
  have hcq := fun p : Regrown => (bcell (below_regrown X p.d p.os)).1
  refine wp_region_quiet_below (by kernel_rfl) (by kernel_rfl) ?_
  repeat (go_big_quiet_step ((fail)))
  refine wpQuiet_nil ?_
  intro wq hq
  obtain ⟨pq, hq⟩ := hq
  have hbq : Below X.heap.size X wq := by rw [hq]; exact below_regrown _ _ _
  clear hq hcq pq
  obtain ⟨hcq, hfq⟩ := bcell hbq
  have zq := hbq.size
  go_wp2_with fail
  go_ret
  exact ⟨rfl, BX.trans (hbq.mono BX.size)⟩

end Go.Proofs.Ytglpgcgidkdkiaa

namespace Go.Proofs.Ytglpgcgidkdkiaa
open Go.RowKit
open Go.Sort (grow)
set_option linter.unusedVariables false
set_option linter.unusedSimpArgs false

def ask3 (a b c : Int) : Bool := wn a 0 9999 && wn b 0 99 && wn c 0 999999999
set_option maxHeartbeats 800000 in
theorem isAsk3_c (a b c : Int) (w : World) :
    Calls Try.prog 35 #[.int .i64 a, .int .i64 b, .int .i64 c] w fun e w' => e = .returned (.bool (ask3 a b c)) ∧ w = w' := by
  unfold ask3
  have c1 := fun V => within3_c a 0 9999 V
  have c2 := fun V => within3_c b 0 99 V
  have c3 := fun V => within3_c c 0 999999999 V
  cases e1 : wn a 0 9999 <;> cases e2 : wn b 0 99 <;> cases e3 : wn c 0 999999999 <;> rw [e1] at c1 <;> rw [e2] at c2 <;> rw [e3] at c3 <;> replace c1 := Lib.hid c1 <;> replace c2 := Lib.hid c2 <;> replace c3 := Lib.hid c3 <;> clear e1 e2 e3
  all_goals
    go_enter Try.func35, Try.ntmps35
    go_wp2_with (go_at_call 59; (first | with_reducible refine (c1.out _).mono ?_ | with_reducible refine (c2.out _).mono ?_ | with_reducible refine (c3.out _).mono ?_); rintro e w' ⟨rfl, rfl⟩)
    go_ret
    exact ⟨rfl, rfl⟩
/-- the long arms multiplied -/
def abK (lv : List Lv) (k : Nat) : Int := ((lv.take k).map Lv.lg).foldl (· * ·) 1
theorem abK_succ {lv : List Lv} {k : Nat} (h : k < lv.length) : abK lv (k + 1) = abK lv k * (lvAt lv k).lg := by
  unfold abK lvAt
  rw [List.take_add_one, List.getD_eq_getElem?_getD, List.getElem?_eq_getElem h, List.map_append, List.foldl_append]
  simp
theorem abK_bd {lv : List Lv} (hl : lv.length ≤ 3) (hb : ∀ k, k < lv.length → 1 ≤ (lvAt lv k).lg ∧ (lvAt lv k).lg ≤ 1000) : ∀ k, k ≤ lv.length → 1 ≤ abK lv k ∧ abK lv k ≤ (1000 : Int) ^ k := by
  intro k
  induction k with
  | zero => intro _; exact ⟨Int.le_refl _, Int.le_refl _⟩
  | succ k ih =>
    intro hk
    obtain ⟨a1, a2⟩ := ih (by omega)
    obtain ⟨b1, b2⟩ := hb k (by omega)
    rw [abK_succ (by omega), Int.pow_succ]
    exact ⟨Int.le_trans (by omega) (Int.mul_le_mul a1 b1 (by omega) (by omega)), Int.mul_le_mul a2 b2 (by omega) (Int.pow_nonneg (by omega))⟩
set_option maxRecDepth 100000 in
set_option maxHeartbeats 1600000 in
theorem work_c (Al : Option Addr) (nl cl : Nat) (wa l0 l1 : Int) (Ab : Option Addr) (nb cb : Nat) (wrg : Int) (lv : List Lv) (bl : List Bal) (w : World) (hn : nl ≤ 3) (hlen : lv.length = nl) (hlg : ∀ k, k < lv.length → 1 ≤ (lvAt lv k).lg ∧ (lvAt lv k).lg ≤ 1000) (HL : LvsAt w Al nl lv) (HB : BasAt w Ab nb bl) :
    Calls Try.prog 58 #[.agg #[.slice Al nl cl, .int .i64 wa, .int .i64 l0, .int .i64 l1, .slice Ab nb cb, .int .i64 wrg]] w fun e w' => ∃ gm, e = .returned (.pointer (some ⟨gm, 0, none⟩)) ∧ w.heap.size ≤ gm ∧ MemM gm 96 Al nl cl wa l0 l1 Ab nb cb wrg (abK lv nl) lv bl w' ∧ Below w.heap.size w w' := by
  have HBD := Lib.hid (abK_bd (by omega) hlg)
  have HLG := Lib.hid hlg
  have HLI := Lib.hid HL
  have HBI := Lib.hid HB
  have HLEN := Lib.hid hlen
  clear HL HB hlg hlen
  go_enter Try.func58, Try.ntmps58
  go_upto_region 2 with (fail)
  go_name_world X hX
  have BX : Hid (Below w.heap.size w X) := (al2 hX).1
  have l1' := (al2_1 hX).1
  have HMX : Hid (Blk X (w.heap.size + 1) 96 #[.slice Al nl cl, .int .i64 wa, .int .i64 l0, .int .i64 l1, .slice Ab nb cb, .int .i64 wrg, .int .i64 (abK lv 0)]) := by
    rw [← hX]
    have := Blk.new (w.alloc (.cells #[.slice Al nl cl, .int .i64 wa, .int .i64 l0, .int .i64 l1, .slice Ab nb cb, .int .i64 wrg] 41)) 96 #[.slice Al nl cl, .int .i64 wa, .int .i64 l0, .int .i64 l1, .slice Ab nb cb, .int .i64 wrg, .int .i64 1]
    rw [World.size_alloc] at this
    exact this
  have q0 := (al2_0 hX).2.1
  have l0' := (al2_0 hX).1
  clear hX
  go_wp2_with fail
  go_loopw [12] (fun i (wr : World) => ∃ k : Nat, k ≤ nl ∧ i = .int .i64 k ∧ Hid (Below w.heap.size w wr) ∧ Hid (Blk wr (w.heap.size + 1) 96 #[.slice Al nl cl, .int .i64 wa, .int .i64 l0, .int .i64 l1, .slice Ab nb cb, .int .i64 wrg, .int .i64 (abK lv k)])) (fun i _ => nl - (intOf i).toNat)
  case atStart => exact ⟨0, by omega, rfl, BX, HMX⟩
  case round =>
    obtain ⟨k, hk, rfl, HBr, HMr⟩ := hrel
    have hb := HBr.out
    have zb := hb.size
    have cm := HMr.out.cell
    have fm := HMr.out.frozen
    have ltm := HMr.out.lt
    by_cases hkn : k < nl
    · have hkB : decide ((k : Int) < nl) = true := by simp; omega
      obtain ⟨b, o, hA, hbl, x0, x1, x2⟩ := (HLI.out.later hb).get hkn
      subst hA
      obtain ⟨g, hg⟩ : ∃ g, (lvAt lv k).lg = g := ⟨_, rfl⟩
      obtain ⟨a, ha⟩ : ∃ a, abK lv k = a := ⟨_, rfl⟩
      obtain ⟨a1, a2⟩ := HBD.out (k + 1) (by have := HLEN.out; omega)
      have hsu := abK_succ (lv := lv) (k := k) (by have := HLEN.out; omega)
      rw [ha, hg] at hsu
      rw [hsu] at a1 a2
      have hp : (1000 : Int) ^ (k + 1) ≤ 1000000000 := by
        match k, (show k < 3 by omega) with
        | 0, _ => decide
        | 1, _ => decide
        | 2, _ => decide
      have w1 : IntKind.i64.wrap (a * g) = a * g := IntWalk.i64_in _ (by omega)
      have w2 : IntKind.i64.wrap ((k : Int) + 1) = (k : Int) + 1 := IntWalk.i64_in _ (by omega)
      rw [hg] at x0
      rw [ha] at cm HMr
      have HSU := Lib.hid hsu
      clear hsu ha hg a1 a2 hp hb
      go_wp2_with fail
      go_region
      all_goals
        go_wp2_with fail
        go_roundw
        case rel =>
          refine ⟨k + 1, by omega, by go_num, Lib.hid ?_, Lib.hid ?_⟩
          · have hb := HBr.out
            (repeat first | with_reducible assumption | with_reducible exact Below.refl _ _ | (with_reducible refine Below.alloc ?_ ?side _; case side => (first | omega | (with_reducible exact Below.size (by assumption)) | (simp; done) | (simp; omega))) | (with_reducible refine Below.setCell ?_ ?side _; case side => (first | omega | (with_reducible exact Below.size (by assumption)) | (simp; done) | (simp; omega))) | with_reducible refine Below.drew ?_ | with_reducible refine below_drewN ?_ _ | (with_reducible refine below_step (by assumption) ?side ?_; case side => (first | omega | (with_reducible exact Below.size (by assumption)) | (simp; done) | (simp; omega))))
          · rw [HSU.out]
            have h6 := HMr.out.set_ 6 (.int .i64 (a * g))
            simpa using (h6.alloc (.cells #[.int .i64 g, .int .i64 (lvAt lv k).lo, .int .i64 (lvAt lv k).hi] 98)).drew
        case measure => simp [intOf]; omega
    · obtain rfl : k = nl := by omega
      have hkB : decide ((k : Int) < k) = false := by simp
      go_wp2_with fail
      go_ret
      exact ⟨w.heap.size + 1, rfl, by omega, ⟨HMr.out, HLI.out.later hb, HBI.out.later hb⟩, hb⟩

end Go.Proofs.Ytglpgcgidkdkiaa
