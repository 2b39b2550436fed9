/- The small functions of levers (layer 3): pull, isRight; isAsk and work of levers (layer 3); (*levers.machine).isRight (layer 3). -/
import Derived.Test.YtcinhibmohkeiaaChecked
import Derived.Test.YtcinhibmohkeiaaQy04
import Derived.Shelf.Abstract
import Derived.Laws.EntriesVeiled
import Derived.Handy
import Derived.Deep.DrawnRows
import Derived.Deep.DeepCutAuto
namespace Go.Proofs.Ytcinhibmohkeiaa
open Go.RowKit
open Go.Sort (grow)
set_option linter.unusedVariables false
set_option linter.unusedSimpArgs false

set_option maxHeartbeats 400000 in
theorem within3_c (n a b : Int) (w : World) :
    Calls Try.prog 39 #[.int .i64 n, .int .i64 a, .int .i64 b] w fun e w' => e = .returned (.bool (wn n a b)) ∧ w = w' := by
  go_enter Try.func39, Try.ntmps39
  go_wp2
  all_goals
    go_ret
    exact ⟨ret_bool (by simp [wn, *] <;> omega), rfl⟩
set_option maxRecDepth 100000 in
set_option maxHeartbeats 1600000 in
theorem pull_c (gm : Nat) (Al : Option Addr) (nl cl : Nat) (wa l0 l1 : Int) (Ab : Option Addr) (nb cb : Nat) (wr ab : Int) (s : St3) (wt mi : Int) (w : World)
    (HK : Blk w gm 95 #[.slice Al nl cl, .int .i64 wa, .int .i64 l0, .int .i64 l1, .slice Ab nb cb, .int .i64 wr, .int .i64 ab]) (h1 : 0 ≤ wa ∧ wa ≤ 9999) (h2 : 0 ≤ s.lk ∧ s.lk ≤ 20) (h3 : 0 ≤ wt ∧ wt ≤ 9999) (h4 : 0 ≤ mi ∧ mi ≤ 99) :
    Calls Try.prog 44 #[.pointer (some ⟨gm, 0, none⟩), .agg #[.int .i64 s.s0, .int .i64 s.s1, .int .i64 s.s2, .int .i64 s.lk, .int .i64 s.bw], .int .i64 wt, .int .i64 mi] w
      fun e w' => e = .returned (.int .i64 (pl3 wa s.lk wt mi)) ∧ Below w.heap.size w w' := by
  obtain ⟨⟨b1, b2⟩, b3, b4⟩ := pl3_bd h1 h2 h3 h4
  obtain ⟨s0, s1, s2, lk, bw⟩ := s
  simp only at h2 b1 b2 b3 b4 ⊢
  unfold pl3
  obtain ⟨ml, hml⟩ : ∃ x, mi * lk = x := ⟨_, rfl⟩
  rw [hml] at b1 b2 ⊢
  obtain ⟨df, hdf⟩ : ∃ x, wa - ml = x := ⟨_, rfl⟩
  rw [hdf]
  obtain ⟨mx, hmx⟩ : ∃ x : Int, (if 0 < df then df else 0) = x := ⟨_, rfl⟩
  have hm2 : max (0 : Int) df = mx := by rw [← hmx]; split <;> omega
  rw [hmx]
  have hmb : 0 ≤ mx ∧ mx ≤ 9999 := by rw [← hmx]; split <;> omega
  have w1 : IntKind.i64.wrap (mi * lk) = ml := by rw [hml]; exact IntWalk.i64_in _ (by omega)
  have w2 : IntKind.i64.wrap (wa - ml) = df := by rw [hdf]; exact IntWalk.i64_in _ (by omega)
  have w3 : IntKind.i64.wrap (wt + mx) = wt + mx := IntWalk.i64_in _ (by omega)
  have c0 := HK.cell
  have lt0 := HK.lt
  clear HK b3 b4
  go_enter Try.func44, Try.ntmps44
  go_upto_region 1 with (fail)
  go_name_world X hX
  have BX : Below w.heap.size w X := (al1 hX).1
  have q0 := (al1_0 hX).2.1
  have l0' := (al1_0 hX).1
  have cx := fun j => (BX.cell (p := ⟨gm, j, none⟩) lt0).trans (c0 j)
  have ltx : gm < X.heap.size := Nat.lt_of_lt_of_le lt0 BX.size
  clear hX c0 hml hdf
  have hcq := fun p : Regrown => (bcell (below_regrown X p.d p.os)).1
  refine wp_region_quiet_below (by kernel_rfl) (by kernel_rfl) ?_
  repeat (go_big_quiet_step ((fail)))
  refine wpQuiet_nil ?_
  intro wq hq
  obtain ⟨pq, hq⟩ := hq
  have hbq : Below X.heap.size X wq := by rw [hq]; exact below_regrown _ _ _
  clear hq hcq pq
  obtain ⟨hcq, hfq⟩ := bcell hbq
  have zq := hbq.size
  go_wp2_with fail
  go_ret
  exact ⟨rfl, BX.trans (hbq.mono BX.size)⟩

end Go.Proofs.Ytcinhibmohkeiaa

namespace Go.Proofs.Ytcinhibmohkeiaa
open Go.RowKit
open Go.Sort (grow)
set_option linter.unusedVariables false
set_option linter.unusedSimpArgs false

def ask3 (a b c : Int) : Bool := wn a 0 9999 && wn b 0 99 && wn c 0 999999999
set_option maxHeartbeats 800000 in
theorem isAsk3_c (a b c : Int) (w : World) :
    Calls Try.prog 41 #[.int .i64 a, .int .i64 b, .int .i64 c] w fun e w' => e = .returned (.bool (ask3 a b c)) ∧ w = w' := by
  unfold ask3
  have c1 := fun V => within3_c a 0 9999 V
  have c2 := fun V => within3_c b 0 99 V
  have c3 := fun V => within3_c c 0 999999999 V
  cases e1 : wn a 0 9999 <;> cases e2 : wn b 0 99 <;> cases e3 : wn c 0 999999999 <;> rw [e1] at c1 <;> rw [e2] at c2 <;> rw [e3] at c3 <;> replace c1 := Lib.hid c1 <;> replace c2 := Lib.hid c2 <;> replace c3 := Lib.hid c3 <;> clear e1 e2 e3
  all_goals
    go_enter Try.func41, Try.ntmps41
    go_wp2_with (go_at_call 39; (first | with_reducible refine (c1.out _).mono ?_ | with_reducible refine (c2.out _).mono ?_ | with_reducible refine (c3.out _).mono ?_); rintro e w' ⟨rfl, rfl⟩)
    go_ret
    exact ⟨rfl, rfl⟩
/-- the long arms multiplied -/
def abK (lv : List Lv) (k : Nat) : Int := ((lv.take k).map Lv.lg).foldl (· * ·) 1
theorem abK_succ {lv : List Lv} {k : Nat} (h : k < lv.length) : abK lv (k + 1) = abK lv k * (lvAt lv k).lg := by
  unfold abK lvAt
  rw [List.take_add_one, List.getD_eq_getElem?_getD, List.getElem?_eq_getElem h, List.map_append, List.foldl_append]
  simp
theorem abK_bd {lv : List Lv} (hl : lv.length ≤ 3) (hb : ∀ k, k < lv.length → 1 ≤ (lvAt lv k).lg ∧ (lvAt lv k).lg ≤ 1000) : ∀ k, k ≤ lv.length → 1 ≤ abK lv k ∧ abK lv k ≤ (1000 : Int) ^ k := by
  intro k
  induction k with
  | zero => intro _; exact ⟨Int.le_refl _, Int.le_refl _⟩
  | succ k ih =>
    intro hk
    obtain ⟨a1, a2⟩ := ih (by omega)
    obtain ⟨b1, b2⟩ := hb k (by omega)
    rw [abK_succ (by omega), Int.pow_succ]
    exact ⟨Int.le_trans (by omega) (Int.mul_le_mul a1 b1 (by omega) (by omega)), Int.mul_le_mul a2 b2 (by omega) (Int.pow_nonneg (by omega))⟩
set_option maxRecDepth 100000 in
set_option maxHeartbeats 1600000 in
theorem work_c (Al : Option Addr) (nl cl : Nat) (wa l0 l1 : Int) (Ab : Option Addr) (nb cb : Nat) (wrg : Int) (lv : List Lv) (bl : List Bal) (w : World) (hn : nl ≤ 3) (hlen : lv.length = nl) (hlg : ∀ k, k < lv.length → 1 ≤ (lvAt lv k).lg ∧ (lvAt lv k).lg ≤ 1000) (HL : LvsAt w Al nl lv) (HB : BasAt w Ab nb bl) :
    Calls Try.prog 56 #[.agg #[.slice Al nl cl, .int .i64 wa, .int .i64 l0, .int .i64 l1, .slice Ab nb cb, .int .i64 wrg]] w fun e w' => ∃ gm, e = .returned (.pointer (some ⟨gm, 0, none⟩)) ∧ w.heap.size ≤ gm ∧ MemM gm 95 Al nl cl wa l0 l1 Ab nb cb wrg (abK lv nl) lv bl w' ∧ Below w.heap.size w w' := by
  have HBD := Lib.hid (abK_bd (by omega) hlg)
  have HLG := Lib.hid hlg
  have HLI := Lib.hid HL
  have HBI := Lib.hid HB
  have HLEN := Lib.hid hlen
  clear HL HB hlg hlen
  go_enter Try.func56, Try.ntmps56
  go_upto_region 2 with (fail)
  go_name_world X hX
  have BX : Hid (Below w.heap.size w X) := (al2 hX).1
  have l1' := (al2_1 hX).1
  have HMX : Hid (Blk X (w.heap.size + 1) 95 #[.slice Al nl cl, .int .i64 wa, .int .i64 l0, .int .i64 l1, .slice Ab nb cb, .int .i64 wrg, .int .i64 (abK lv 0)]) := by
    rw [← hX]
    have := Blk.new (w.alloc (.cells #[.slice Al nl cl, .int .i64 wa, .int .i64 l0, .int .i64 l1, .slice Ab nb cb, .int .i64 wrg] 27)) 95 #[.slice Al nl cl, .int .i64 wa, .int .i64 l0, .int .i64 l1, .slice Ab nb cb, .int .i64 wrg, .int .i64 1]
    rw [World.size_alloc] at this
    exact this
  have q0 := (al2_0 hX).2.1
  have l0' := (al2_0 hX).1
  clear hX
  go_wp2_with fail
  go_loopw [12] (fun i (wr : World) => ∃ k : Nat, k ≤ nl ∧ i = .int .i64 k ∧ Hid (Below w.heap.size w wr) ∧ Hid (Blk wr (w.heap.size + 1) 95 #[.slice Al nl cl, .int .i64 wa, .int .i64 l0, .int .i64 l1, .slice Ab nb cb, .int .i64 wrg, .int .i64 (abK lv k)])) (fun i _ => nl - (intOf i).toNat)
  case atStart => exact ⟨0, by omega, rfl, BX, HMX⟩
  case round =>
    obtain ⟨k, hk, rfl, HBr, HMr⟩ := hrel
    have hb := HBr.out
    have zb := hb.size
    have cm := HMr.out.cell
    have fm := HMr.out.frozen
    have ltm := HMr.out.lt
    by_cases hkn : k < nl
    · have hkB : decide ((k : Int) < nl) = true := by simp; omega
      obtain ⟨b, o, hA, hbl, x0, x1, x2⟩ := (HLI.out.later hb).get hkn
      subst hA
      obtain ⟨g, hg⟩ : ∃ g, (lvAt lv k).lg = g := ⟨_, rfl⟩
      obtain ⟨a, ha⟩ : ∃ a, abK lv k = a := ⟨_, rfl⟩
      obtain ⟨a1, a2⟩ := HBD.out (k + 1) (by have := HLEN.out; omega)
      have hsu := abK_succ (lv := lv) (k := k) (by have := HLEN.out; omega)
      rw [ha, hg] at hsu
      rw [hsu] at a1 a2
      have hp : (1000 : Int) ^ (k + 1) ≤ 1000000000 := by
        match k, (show k < 3 by omega) with
        | 0, _ => decide
        | 1, _ => decide
        | 2, _ => decide
      have w1 : IntKind.i64.wrap (a * g) = a * g := IntWalk.i64_in _ (by omega)
      have w2 : IntKind.i64.wrap ((k : Int) + 1) = (k : Int) + 1 := IntWalk.i64_in _ (by omega)
      rw [hg] at x0
      rw [ha] at cm HMr
      have HSU := Lib.hid hsu
      clear hsu ha hg a1 a2 hp hb
      go_wp2_with fail
      go_region
      all_goals
        go_wp2_with fail
        go_roundw
        case rel =>
          refine ⟨k + 1, by omega, by go_num, Lib.hid ?_, Lib.hid ?_⟩
          · have hb := HBr.out
            (repeat first | with_reducible assumption | with_reducible exact Below.refl _ _ | (with_reducible refine Below.alloc ?_ ?side _; case side => (first | omega | (with_reducible exact Below.size (by assumption)) | (simp; done) | (simp; omega))) | (with_reducible refine Below.setCell ?_ ?side _; case side => (first | omega | (with_reducible exact Below.size (by assumption)) | (simp; done) | (simp; omega))) | with_reducible refine Below.drew ?_ | with_reducible refine below_drewN ?_ _ | (with_reducible refine below_step (by assumption) ?side ?_; case side => (first | omega | (with_reducible exact Below.size (by assumption)) | (simp; done) | (simp; omega))))
          · rw [HSU.out]
            have h6 := HMr.out.set_ 6 (.int .i64 (a * g))
            simpa using (h6.alloc (.cells #[.int .i64 g, .int .i64 (lvAt lv k).lo, .int .i64 (lvAt lv k).hi] 61)).drew
        case measure => simp [intOf]; omega
    · obtain rfl : k = nl := by omega
      have hkB : decide ((k : Int) < k) = false := by simp
      go_wp2_with fail
      go_ret
      exact ⟨w.heap.size + 1, rfl, by omega, ⟨HMr.out, HLI.out.later hb, HBI.out.later hb⟩, hb⟩

end Go.Proofs.Ytcinhibmohkeiaa

namespace Go.Proofs.Ytcinhibmohkeiaa
open Go.RowKit
open Go.Sort (grow)
set_option linter.unusedVariables false
set_option linter.unusedSimpArgs false

theorem dv3 {d b o : Int} (hd : 0 ≤ d) (hb : 1 ≤ b) : (d ≤ o * b ↔ d / b < o ∨ (d / b = o ∧ d % b = 0)) := by
  have e := Int.mul_ediv_add_emod d b
  have r1 := Int.emod_nonneg d (show b ≠ 0 by omega)
  have r2 := Int.emod_lt_of_pos d (show 0 < b by omega)
  obtain ⟨q, hq⟩ : ∃ q, d / b = q := ⟨_, rfl⟩
  obtain ⟨r, hr⟩ : ∃ r, d % b = r := ⟨_, rfl⟩
  rw [hq, hr] at e
  rw [hr] at r1 r2
  rw [hq, hr]
  constructor
  · intro h
    rcases Int.lt_trichotomy q o with h1 | h1 | h1
    · exact .inl h1
    · refine .inr ⟨h1, ?_⟩
      rw [h1, Int.mul_comm b o] at e
      omega
    · exfalso
      have := Int.mul_le_mul_of_nonneg_right (show o + 1 ≤ q by omega) (show 0 ≤ b by omega)
      rw [Int.add_mul, Int.mul_comm q b] at this
      omega
  · rintro (h | ⟨h, h2⟩)
    · have := Int.mul_le_mul_of_nonneg_right (show q + 1 ≤ o by omega) (show 0 ≤ b by omega)
      rw [Int.add_mul, Int.mul_comm q b] at this
      omega
    · rw [h, Int.mul_comm b o] at e
      omega
theorem isRight_tail {d b o : Int} (hd : 0 ≤ d) (hb : 1 ≤ b) : decide (d ≤ o * b) = (decide (d.tdiv b < o) || (decide (d.tdiv b = o) && decide (d.tmod b = 0))) := by
  rw [Int.tdiv_eq_ediv_of_nonneg hd, Int.tmod_eq_emod_of_nonneg hd]
  rw [Bool.eq_iff_iff]
  simp [dv3 hd hb]
set_option maxRecDepth 100000 in
set_option maxHeartbeats 1600000 in
theorem isRight_c (gm : Nat) (Al : Option Addr) (nl cl : Nat) (wa l0 l1 : Int) (Ab : Option Addr) (nb cb : Nat) (wr ab : Int) (s : St3) (b : Bal) (w : World)
    (HK : Blk w gm 95 #[.slice Al nl cl, .int .i64 wa, .int .i64 l0, .int .i64 l1, .slice Ab nb cb, .int .i64 wr, .int .i64 ab]) (h1 : 0 ≤ wa ∧ wa ≤ 9999) (h2 : 0 ≤ s.lk ∧ s.lk ≤ 20) (h3 : 0 ≤ b.wt ∧ b.wt ≤ 9999) (h4 : 0 ≤ b.mi ∧ b.mi ≤ 99)
    (h5 : 1 ≤ ab ∧ ab ≤ 1000000000) (h6 : 1 ≤ s.bw ∧ s.bw ≤ 1000000000) (h7 : 0 ≤ b.ld ∧ b.ld ≤ 999999999) (h8 : 0 ≤ b.of ∧ b.of ≤ 999999999) :
    Calls Try.prog 69 #[.pointer (some ⟨gm, 0, none⟩), .agg #[.int .i64 s.s0, .int .i64 s.s1, .int .i64 s.s2, .int .i64 s.lk, .int .i64 s.bw], .agg #[.int .i64 b.wt, .int .i64 b.mi, .int .i64 b.ld, .int .i64 b.of]] w
      fun e w' => e = .returned (.bool (rt3 wa ab s b)) ∧ Below w.heap.size w w' := by
  obtain ⟨_, p1, p2⟩ := pl3_bd h1 h2 h3 h4
  have HP := Lib.hid (fun W (hb : Below w.heap.size w W) => pull_c gm Al nl cl wa l0 l1 Ab nb cb wr ab s b.wt b.mi W (HK.below hb HK.lt) h1 h2 h3 h4)
  have c6 := (HK.cell) 6
  have lt0 := HK.lt
  obtain ⟨s0, s1, s2, lk, bw⟩ := s
  obtain ⟨wt, mi, ld, of⟩ := b
  simp only at h2 h3 h4 h6 h7 h8 HP p1 p2 ⊢
  unfold rt3 df3
  simp only
  obtain ⟨p, hp⟩ : ∃ x, pl3 wa lk wt mi = x := ⟨_, rfl⟩
  rw [hp] at p1 p2 ⊢
  have t1 : 0 ≤ p * ab := Int.mul_nonneg p1 (by omega)
  have t2 : p * ab ≤ 19998 * 1000000000 := Int.mul_le_mul p2 h5.2 (by omega) (by omega)
  have u1 : 0 ≤ ld * bw := Int.mul_nonneg h7.1 (by omega)
  have u2 : ld * bw ≤ 999999999 * 1000000000 := Int.mul_le_mul h7.2 h6.2 (by omega) (by omega)
  obtain ⟨T, hT⟩ : ∃ x, p * ab = x := ⟨_, rfl⟩
  obtain ⟨U, hU⟩ : ∃ x, ld * bw = x := ⟨_, rfl⟩
  rw [hT] at t1 t2 ⊢
  rw [hU] at u1 u2 ⊢
  obtain ⟨D, hD⟩ : ∃ x, T - U = x := ⟨_, rfl⟩
  have w1 : IntKind.i64.wrap (p * ab) = T := by rw [hT]; exact IntWalk.i64_in _ (by omega)
  have w2 : IntKind.i64.wrap (ld * bw) = U := by rw [hU]; exact IntWalk.i64_in _ (by omega)
  have w3 : IntKind.i64.wrap (T - U) = D := by rw [hD]; exact IntWalk.i64_in _ (by omega)
  have w4 : IntKind.i64.wrap (-D) = -D := IntWalk.i64_in _ (by omega)
  rw [hD]
  obtain ⟨E, hE⟩ : ∃ x, ab3 D = x := ⟨_, rfl⟩
  have e0 : 0 ≤ E := by rw [← hE]; unfold ab3; split <;> omega
  have e1 : E ≤ 1000000000000000000 := by rw [← hE]; unfold ab3; split <;> omega
  rw [hE, isRight_tail e0 h6.1]
  obtain ⟨q, hq⟩ : ∃ x, E.tdiv bw = x := ⟨_, rfl⟩
  obtain ⟨r, hr⟩ : ∃ x, E.tmod bw = x := ⟨_, rfl⟩
  have q1 : 0 ≤ q ∧ q ≤ 1000000000000000000 := by
    rw [← hq, Int.tdiv_eq_ediv_of_nonneg e0]
    exact ⟨Int.ediv_nonneg e0 (by omega), Int.le_trans (Int.ediv_le_self _ e0) e1⟩
  have hn0 : ¬ bw = 0 := by omega
  have w5 : IntKind.i64.wrap (E.tdiv bw) = q := by rw [hq]; exact IntWalk.i64_in _ (by omega)
  rw [hq, hr]
  clear HK hT hU
  go_enter Try.func69, Try.ntmps69
  go_upto_region 1 with (fail)
  go_name_world X hX
  have BX : Below w.heap.size w X := (al2 hX).1
  have q0 := (al2_0 hX).2.1
  have l0' := (al2_0 hX).1
  have q1' := (al2_1 hX).2.1
  have l1' := (al2_1 hX).1
  have cx := (BX.cell (p := ⟨gm, 6, none⟩) lt0).trans c6
  have ltx : gm < X.heap.size := Nat.lt_of_lt_of_le lt0 BX.size
  clear hX c6
  have hcq := fun p : Regrown => (bcell (below_regrown X p.d p.os)).1
  refine wp_region_quiet_below (by kernel_rfl) (by kernel_rfl) ?_
  repeat (go_big_quiet_step ((go_at_call 44; exact Calls.regrown_of (hp ▸ HP.out _ (BX.trans ((below_regrown _ _ _).mono BX.size))))))
  refine wpQuiet_nil ?_
  intro wq hq
  obtain ⟨pq, hq⟩ := hq
  have hbq : Below X.heap.size X wq := by rw [hq]; exact below_regrown _ _ _
  clear hq hcq pq
  obtain ⟨hcq, hfq⟩ := bcell hbq
  have zq := hbq.size
  go_wp2_with fail
  all_goals
    have q0w := fun j => (hcq _ j l0').trans (q0 j)
    have q1w := fun j => (hcq _ j l1').trans (q1' j)
    have l0w := Nat.lt_of_lt_of_le l0' zq
    have l1w := Nat.lt_of_lt_of_le l1' zq
    have bfin := BX.trans (hbq.mono BX.size)
    clear hcq hfq q0 q1' l0' l1' HP
  · have e : -D = E := by rw [← hE]; unfold ab3; rw [if_pos (by assumption)]
    rw [e]
    by_cases g1 : q < of
    · have hb1 : decide (q < of) = true := decide_eq_true g1
      have hcq := fun p : Regrown => (bcell (below_regrown wq p.d p.os)).1
      refine wp_region_quiet_below (by kernel_rfl) (by kernel_rfl) ?_
      repeat (go_big_quiet_step ((fail)))
      refine wpQuiet_nil ?_
      intro wr hq
      obtain ⟨pq, hq⟩ := hq
      have hbr : Below wq.heap.size wq wr := by rw [hq]; exact below_regrown _ _ _
      clear hq hcq pq
      obtain ⟨hcr, hfr⟩ := bcell hbr
      have zr := hbr.size
      go_wp2_with fail
      go_ret
      exact ⟨ret_bool (by simp [g1]), bfin.trans (hbr.mono bfin.size)⟩
    · have hb1 : decide (q < of) = false := decide_eq_false g1
      by_cases g2 : q = of
      · have hb2 : decide (q = of) = true := decide_eq_true g2
        have hb3 : (q == of) = true := by simp [g2]
        have hcq := fun p : Regrown => (bcell (below_regrown wq p.d p.os)).1
        refine wp_region_quiet_below (by kernel_rfl) (by kernel_rfl) ?_
        repeat (go_big_quiet_step ((fail)))
        refine wpQuiet_nil ?_
        intro wr hq
        obtain ⟨pq, hq⟩ := hq
        have hbr : Below wq.heap.size wq wr := by rw [hq]; exact below_regrown _ _ _
        clear hq hcq pq
        obtain ⟨hcr, hfr⟩ := bcell hbr
        have zr := hbr.size
        go_wp2_with fail
        go_ret
        exact ⟨by first | rfl | (rw [hr]; rfl) | (trace_state; simp [hr]), bfin.trans (hbr.mono bfin.size)⟩
      · have hb2 : decide (q = of) = false := decide_eq_false g2
        have hb3 : (q == of) = false := by simp [g2]
        have hcq := fun p : Regrown => (bcell (below_regrown wq p.d p.os)).1
        refine wp_region_quiet_below (by kernel_rfl) (by kernel_rfl) ?_
        repeat (go_big_quiet_step ((fail)))
        refine wpQuiet_nil ?_
        intro wr hq
        obtain ⟨pq, hq⟩ := hq
        have hbr : Below wq.heap.size wq wr := by rw [hq]; exact below_regrown _ _ _
        clear hq hcq pq
        obtain ⟨hcr, hfr⟩ := bcell hbr
        have zr := hbr.size
        go_wp2_with fail
        go_ret
        exact ⟨ret_bool (by first | (simp; done) | (simp [g1]; done) | (simp [g2]; done)), bfin.trans (hbr.mono bfin.size)⟩
  · have e : D = E := by rw [← hE]; unfold ab3; rw [if_neg (by omega)]
    clear w3 w4 hD hE
    subst e
    by_cases g1 : q < of
    · have hb1 : decide (q < of) = true := decide_eq_true g1
      have hcq := fun p : Regrown => (bcell (below_regrown wq p.d p.os)).1
      refine wp_region_quiet_below (by kernel_rfl) (by kernel_rfl) ?_
      repeat (go_big_quiet_step ((fail)))
      refine wpQuiet_nil ?_
      intro wr hq
      obtain ⟨pq, hq⟩ := hq
      have hbr : Below wq.heap.size wq wr := by rw [hq]; exact below_regrown _ _ _
      clear hq hcq pq
      obtain ⟨hcr, hfr⟩ := bcell hbr
      have zr := hbr.size
      go_wp2_with fail
      go_ret
      exact ⟨ret_bool (by simp [g1]), bfin.trans (hbr.mono bfin.size)⟩
    · have hb1 : decide (q < of) = false := decide_eq_false g1
      by_cases g2 : q = of
      · have hb2 : decide (q = of) = true := decide_eq_true g2
        have hb3 : (q == of) = true := by simp [g2]
        have hcq := fun p : Regrown => (bcell (below_regrown wq p.d p.os)).1
        refine wp_region_quiet_below (by kernel_rfl) (by kernel_rfl) ?_
        repeat (go_big_quiet_step ((fail)))
        refine wpQuiet_nil ?_
        intro wr hq
        obtain ⟨pq, hq⟩ := hq
        have hbr : Below wq.heap.size wq wr := by rw [hq]; exact below_regrown _ _ _
        clear hq hcq pq
        obtain ⟨hcr, hfr⟩ := bcell hbr
        have zr := hbr.size
        go_wp2_with fail
        go_ret
        exact ⟨by first | rfl | (rw [hr]; rfl) | (trace_state; simp [hr]), bfin.trans (hbr.mono bfin.size)⟩
      · have hb2 : decide (q = of) = false := decide_eq_false g2
        have hb3 : (q == of) = false := by simp [g2]
        have hcq := fun p : Regrown => (bcell (below_regrown wq p.d p.os)).1
        refine wp_region_quiet_below (by kernel_rfl) (by kernel_rfl) ?_
        repeat (go_big_quiet_step ((fail)))
        refine wpQuiet_nil ?_
        intro wr hq
        obtain ⟨pq, hq⟩ := hq
        have hbr : Below wq.heap.size wq wr := by rw [hq]; exact below_regrown _ _ _
        clear hq hcq pq
        obtain ⟨hcr, hfr⟩ := bcell hbr
        have zr := hbr.size
        go_wp2_with fail
        go_ret
        exact ⟨ret_bool (by first | (simp; done) | (simp [g1]; done) | (simp [g2]; done)), bfin.trans (hbr.mono bfin.size)⟩

end Go.Proofs.Ytcinhibmohkeiaa
