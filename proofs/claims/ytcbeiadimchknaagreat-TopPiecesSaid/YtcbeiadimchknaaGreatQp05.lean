/- The small functions of orders (layer 8): within, isSpan, surely, used; the closures of Check; Check of orders (layer 8), of an order that is valid; The small functions of stretch (layer 4): within, isWhen, right, wrong. -/
import Derived.Test.YtcbeiadimchknaaGreatChecked
import Derived.Test.YtcbeiadimchknaaGreatQp03
import Derived.Shelf.Abstract
import Derived.Laws.EntriesVeiled
import Derived.Handy
import Derived.Deep.DrawnRows
import Derived.Deep.DeepCutAuto
import Derived.Test.YtcbeiadimchknaaGreatQp04
namespace Go.Proofs.YtcbeiadimchknaaGreat
open Go.RowKit
open Go.Sort (grow)
set_option linter.unusedVariables false
set_option linter.unusedSimpArgs false

set_option maxHeartbeats 400000 in
theorem within8_c (n a b : Int) (w : World) :
    Calls Tryz.prog 32 #[.int .i64 n, .int .i64 a, .int .i64 b] w fun e w' => e = .returned (.bool (wn n a b)) ∧ w = w' := by
  go_enter Tryz.func32, Tryz.ntmps32
  go_wp2
  all_goals
    go_ret
    exact ⟨ret_bool (by simp [wn, *] <;> omega), rfl⟩
set_option maxHeartbeats 400000 in
theorem surely8_c (k : Int) (w : World) :
    Calls Tryz.prog 37 #[.int .i64 k] w fun e w' => e = .returned (.bool (k == 1)) ∧ w = w' := by
  go_enter Tryz.func37, Tryz.ntmps37
  go_wp2
  go_ret
  exact ⟨rfl, rfl⟩
set_option maxHeartbeats 800000 in
theorem isSpan8_c (s0 s1 a b : Int) (h : a ≤ s0 ∧ s0 ≤ s1 ∧ s1 ≤ b) (w : World) :
    Calls Tryz.prog 60 #[.agg #[.int .i64 s0, .int .i64 s1], .int .i64 a, .int .i64 b] w fun e w' => e = .returned (.bool true) ∧ Below w.heap.size w w' := by
  have hw : wn s0 a s1 = true := wn_true.2 (by omega)
  have kW := Lib.hid (fun V => by have := within8_c s0 a s1 V; rw [hw] at this; exact this)
  have hB : decide (s1 ≤ b) = true := decide_eq_true (by omega)
  clear hw
  go_enter Tryz.func60, Tryz.ntmps60
  go_upto_region 1 with (fail)
  go_name_world X hX
  have BX := Lib.hid (al1 hX).1
  have q0 := (al1_0 hX).2.1
  have l0 := (al1_0 hX).1
  clear hX
  go_wp2_with (go_at_call 32; refine (kW.out _).mono ?_; rintro e w' ⟨rfl, rfl⟩)
  go_ret
  exact ⟨rfl, BX.out⟩
set_option maxHeartbeats 800000 in
theorem ship8_c (s0 s1 : Int) (h : 0 ≤ s0 ∧ s0 ≤ s1 ∧ s1 ≤ 9999) (w : World) :
    Calls Tryz.prog 59 #[.agg #[.int .i64 s0, .int .i64 s1]] w fun e w' => e = .returned (.bool false) ∧ Below w.heap.size w w' := by
  have kS := Lib.hid (fun V => isSpan8_c s0 s1 0 9999 h V)
  go_enter Tryz.func59, Tryz.ntmps59
  go_upto_region 1 with (fail)
  go_name_world X hX
  have BX := Lib.hid (al1 hX).1
  have q0 := (al1_0 hX).2.1
  have l0 := (al1_0 hX).1
  clear hX
  go_wp2_with (go_at_call 60; refine (kS.out _).mono ?_; rintro e w' ⟨rfl, hb⟩; have B1 := Lib.hid (BX.out.trans (hb.mono BX.out.size)); clear hb)
  go_ret
  exact ⟨rfl, B1.out⟩
set_option maxHeartbeats 800000 in
theorem stock8_c (z s0 s1 : Int) (hz : 1 ≤ z ∧ z ≤ 99) (h : 1 ≤ s0 ∧ s0 ≤ s1 ∧ s1 ≤ 999) (w : World) :
    Calls Tryz.prog 61 #[.agg #[.int .i64 z, .int .i64 s0, .int .i64 s1]] w fun e w' => e = .returned (.bool false) ∧ Below w.heap.size w w' := by
  have kS := Lib.hid (fun V => isSpan8_c s0 s1 1 999 h V)
  have hw : wn z 1 99 = true := wn_true.2 (by omega)
  have kW := Lib.hid (fun V => by have := within8_c z 1 99 V; rw [hw] at this; exact this)
  clear hw
  go_enter Tryz.func61, Tryz.ntmps61
  go_upto_region 1 with (fail)
  go_name_world X hX
  have BX := Lib.hid (al1 hX).1
  have q0 := (al1_0 hX).2.1
  have l0 := (al1_0 hX).1
  clear hX
  go_wp2_with (first | (go_at_call 60; refine (kS.out _).mono ?_; rintro e w' ⟨rfl, hb⟩; have B1 := Lib.hid (BX.out.trans (hb.mono BX.out.size)); clear hb) | (go_at_call 32; refine (kW.out _).mono ?_; rintro e w' ⟨rfl, rfl⟩))
  go_ret
  exact ⟨rfl, B1.out⟩
set_option maxHeartbeats 400000 in
theorem indexFunc8Sp_c (A : Option Addr) (n c g : Nat) (fst cap : Array Value) (xs : List Sp) (w : World) (hn : n ≤ 40) (HX : SpsAt w A n xs)
    (HE : ∀ args w, (callFunc g args).run Tryz.prog w = .ok (.enter g args) w)
    (HF : ∀ k, k < n → ∀ w', Below w.heap.size w w' → Calls Tryz.prog g (fst.push (.agg #[.int .i64 (spAt xs k).lo, .int .i64 (spAt xs k).hi]) ++ cap) w' fun e w'' => e = .returned (.bool false) ∧ Below w'.heap.size w' w'') :
    Calls Tryz.prog 80 #[.slice A n c, .func (.func g) fst cap] w fun e w' => e = .returned (.int .i64 (-1)) ∧ Below w.heap.size w w' := by
  have HFI := Lib.hid HF
  have HXI := Lib.hid HX
  clear HF HX
  go_enter Tryz.func80, Tryz.ntmps80
  go_wp2
  go_loopw [8] (fun i (wr : World) => ∃ k : Nat, k ≤ n ∧ i = .int .i64 k ∧ Below w.heap.size w wr) (fun i _ => n - (intOf i).toNat)
  case atStart => exact ⟨0, by omega, rfl, Below.refl _ _⟩
  case round =>
    obtain ⟨k, hk, rfl, hb⟩ := hrel
    have zb := hb.size
    by_cases hlt : k < n
    · obtain ⟨bp, op, rfl, hbp, x0, x1⟩ := (HXI.out.later hb).get hlt
      go_wp2_with fail
      refine (HFI.out k hlt _ hb).mono ?_
      (rintro e w1 ⟨rfl, hb1⟩; obtain ⟨hc1, hf1⟩ := bcell hb1; have zs1 := hb1.size; (try simp at zs1))
      go_wp2
      go_roundw
      case rel => exact ⟨k + 1, by omega, by go_num, by (repeat first | with_reducible assumption | with_reducible exact Below.refl _ _ | refine below_drewN ?_ _ | refine Below.drew ?_ | refine Below.alloc ?_ (by first | omega | (with_reducible exact Below.size (by assumption)) | (simp; done) | (simp; omega)) _ | refine Below.setCell ?_ (by first | omega | (with_reducible exact Below.size (by assumption)) | (simp; done) | (simp; omega)) _ | refine below_step (by assumption) (by first | omega | (with_reducible exact Below.size (by assumption)) | (simp; done) | (simp; omega)) ?_)⟩
      case measure => simp [intOf]; omega
    · obtain rfl : n = k := by omega
      go_wp2
      go_ret
      exact ⟨rfl, by (repeat first | with_reducible assumption | with_reducible exact Below.refl _ _ | refine below_drewN ?_ _ | refine Below.drew ?_ | refine Below.alloc ?_ (by first | omega | (with_reducible exact Below.size (by assumption)) | (simp; done) | (simp; omega)) _ | refine Below.setCell ?_ (by first | omega | (with_reducible exact Below.size (by assumption)) | (simp; done) | (simp; omega)) _ | refine below_step (by assumption) (by first | omega | (with_reducible exact Below.size (by assumption)) | (simp; done) | (simp; omega)) ?_)⟩
set_option maxHeartbeats 400000 in
theorem containsFunc8Sp_c (A : Option Addr) (n c g : Nat) (fst cap : Array Value) (xs : List Sp) (w : World) (hn : n ≤ 40) (HX : SpsAt w A n xs)
    (HE : ∀ args w, (callFunc g args).run Tryz.prog w = .ok (.enter g args) w)
    (HF : ∀ k, k < n → ∀ w', Below w.heap.size w w' → Calls Tryz.prog g (fst.push (.agg #[.int .i64 (spAt xs k).lo, .int .i64 (spAt xs k).hi]) ++ cap) w' fun e w'' => e = .returned (.bool false) ∧ Below w'.heap.size w' w'') :
    Calls Tryz.prog 62 #[.slice A n c, .func (.func g) fst cap] w fun e w' => e = .returned (.bool false) ∧ Below w.heap.size w w' := by
  have HC := Lib.hid (indexFunc8Sp_c A n c g fst cap xs w hn HX HE HF)
  clear HF HX
  go_enter Tryz.func62, Tryz.ntmps62
  go_wp2_with fail
  refine HC.out.mono ?_
  (rintro e w1 ⟨rfl, hb1⟩; obtain ⟨hc1, hf1⟩ := bcell hb1; have zs1 := hb1.size; (try simp at zs1))
  go_wp2
  go_ret
  exact ⟨rfl, by (repeat first | with_reducible assumption | with_reducible exact Below.refl _ _ | refine below_drewN ?_ _ | refine Below.drew ?_ | refine Below.alloc ?_ (by first | omega | (with_reducible exact Below.size (by assumption)) | (simp; done) | (simp; omega)) _ | refine Below.setCell ?_ (by first | omega | (with_reducible exact Below.size (by assumption)) | (simp; done) | (simp; omega)) _ | refine below_step (by assumption) (by first | omega | (with_reducible exact Below.size (by assumption)) | (simp; done) | (simp; omega)) ?_)⟩
set_option maxHeartbeats 400000 in
theorem indexFunc8Sk_c (A : Option Addr) (n c g : Nat) (fst cap : Array Value) (xs : List Sk8) (w : World) (hn : n ≤ 40) (HX : SksAt w A n xs)
    (HE : ∀ args w, (callFunc g args).run Tryz.prog w = .ok (.enter g args) w)
    (HF : ∀ k, k < n → ∀ w', Below w.heap.size w w' → Calls Tryz.prog g (fst.push (.agg #[.int .i64 (skAt xs k).size, .int .i64 (skAt xs k).lo, .int .i64 (skAt xs k).hi]) ++ cap) w' fun e w'' => e = .returned (.bool false) ∧ Below w'.heap.size w' w'') :
    Calls Tryz.prog 81 #[.slice A n c, .func (.func g) fst cap] w fun e w' => e = .returned (.int .i64 (-1)) ∧ Below w.heap.size w w' := by
  have HFI := Lib.hid HF
  have HXI := Lib.hid HX
  clear HF HX
  go_enter Tryz.func81, Tryz.ntmps81
  go_wp2
  go_loopw [8] (fun i (wr : World) => ∃ k : Nat, k ≤ n ∧ i = .int .i64 k ∧ Below w.heap.size w wr) (fun i _ => n - (intOf i).toNat)
  case atStart => exact ⟨0, by omega, rfl, Below.refl _ _⟩
  case round =>
    obtain ⟨k, hk, rfl, hb⟩ := hrel
    have zb := hb.size
    by_cases hlt : k < n
    · obtain ⟨bp, op, rfl, hbp, x0, x1, x2⟩ := (HXI.out.later hb).get hlt
      go_wp2_with fail
      refine (HFI.out k hlt _ hb).mono ?_
      (rintro e w1 ⟨rfl, hb1⟩; obtain ⟨hc1, hf1⟩ := bcell hb1; have zs1 := hb1.size; (try simp at zs1))
      go_wp2
      go_roundw
      case rel => exact ⟨k + 1, by omega, by go_num, by (repeat first | with_reducible assumption | with_reducible exact Below.refl _ _ | refine below_drewN ?_ _ | refine Below.drew ?_ | refine Below.alloc ?_ (by first | omega | (with_reducible exact Below.size (by assumption)) | (simp; done) | (simp; omega)) _ | refine Below.setCell ?_ (by first | omega | (with_reducible exact Below.size (by assumption)) | (simp; done) | (simp; omega)) _ | refine below_step (by assumption) (by first | omega | (with_reducible exact Below.size (by assumption)) | (simp; done) | (simp; omega)) ?_)⟩
      case measure => simp [intOf]; omega
    · obtain rfl : n = k := by omega
      go_wp2
      go_ret
      exact ⟨rfl, by (repeat first | with_reducible assumption | with_reducible exact Below.refl _ _ | refine below_drewN ?_ _ | refine Below.drew ?_ | refine Below.alloc ?_ (by first | omega | (with_reducible exact Below.size (by assumption)) | (simp; done) | (simp; omega)) _ | refine Below.setCell ?_ (by first | omega | (with_reducible exact Below.size (by assumption)) | (simp; done) | (simp; omega)) _ | refine below_step (by assumption) (by first | omega | (with_reducible exact Below.size (by assumption)) | (simp; done) | (simp; omega)) ?_)⟩
set_option maxHeartbeats 400000 in
theorem containsFunc8Sk_c (A : Option Addr) (n c g : Nat) (fst cap : Array Value) (xs : List Sk8) (w : World) (hn : n ≤ 40) (HX : SksAt w A n xs)
    (HE : ∀ args w, (callFunc g args).run Tryz.prog w = .ok (.enter g args) w)
    (HF : ∀ k, k < n → ∀ w', Below w.heap.size w w' → Calls Tryz.prog g (fst.push (.agg #[.int .i64 (skAt xs k).size, .int .i64 (skAt xs k).lo, .int .i64 (skAt xs k).hi]) ++ cap) w' fun e w'' => e = .returned (.bool false) ∧ Below w'.heap.size w' w'') :
    Calls Tryz.prog 63 #[.slice A n c, .func (.func g) fst cap] w fun e w' => e = .returned (.bool false) ∧ Below w.heap.size w w' := by
  have HC := Lib.hid (indexFunc8Sk_c A n c g fst cap xs w hn HX HE HF)
  clear HF HX
  go_enter Tryz.func63, Tryz.ntmps63
  go_wp2_with fail
  refine HC.out.mono ?_
  (rintro e w1 ⟨rfl, hb1⟩; obtain ⟨hc1, hf1⟩ := bcell hb1; have zs1 := hb1.size; (try simp at zs1))
  go_wp2
  go_ret
  exact ⟨rfl, by (repeat first | with_reducible assumption | with_reducible exact Below.refl _ _ | refine below_drewN ?_ _ | refine Below.drew ?_ | refine Below.alloc ?_ (by first | omega | (with_reducible exact Below.size (by assumption)) | (simp; done) | (simp; omega)) _ | refine Below.setCell ?_ (by first | omega | (with_reducible exact Below.size (by assumption)) | (simp; done) | (simp; omega)) _ | refine below_step (by assumption) (by first | omega | (with_reducible exact Below.size (by assumption)) | (simp; done) | (simp; omega)) ?_)⟩
set_option maxHeartbeats 400000 in
theorem used8_c (A : Option Addr) (n c : Nat) (p : List Int) (w : World) (hn : n ≤ 40) (HP : IntsAt w A n p) :
    Calls Tryz.prog 38 #[.slice A n c] w fun e w' => e = .returned (.int .i64 (usK p n : Nat)) ∧ w = w' := by
  have HPI := Lib.hid HP
  clear HP
  have hle : ∀ k, usK p k ≤ k := fun k => by
    induction k with
    | zero => exact Nat.le_refl _
    | succ k ih => unfold usK; split <;> omega
  have HLE := Lib.hid hle
  clear hle
  go_enter Tryz.func38, Tryz.ntmps38
  go_wp2
  go_loopw [3, 8] (fun v i (wr : World) => ∃ k : Nat, k ≤ n ∧ i = .int .i64 k ∧ v = .int .i64 (usK p k : Nat) ∧ wr = w) (fun _ i _ => n - (intOf i).toNat)
  case atStart => exact ⟨0, by omega, rfl, rfl, rfl⟩
  case round =>
    obtain ⟨k, hk, rfl, rfl, rfl⟩ := hrel
    by_cases hlt : k < n
    · obtain ⟨b, o, rfl, hb, x0⟩ := HPI.out.get hlt
      have hB : decide ((k : Int) < n) = true := decide_eq_true (by omega)
      have h1 := HLE.out k
      have vk : IntKind.i64.wrap ((k : Int) + 1) = (k : Int) + 1 := IntWalk.i64_in _ (by omega)
      have hs : usK p (k + 1) = if 0 ≤ iAt p k then usK p k + 1 else usK p k := rfl
      obtain ⟨u, hu⟩ : ∃ u, usK p k = u := ⟨_, rfl⟩
      rw [hu] at hs h1 ⊢
      have vu : IntKind.i64.wrap ((u : Int) + 1) = (u : Int) + 1 := IntWalk.i64_in _ (by omega)
      by_cases h0 : 0 ≤ iAt p k
      · have h0B : decide (0 ≤ iAt p k) = true := decide_eq_true h0
        rw [if_pos h0] at hs
        have HSU := Lib.hid hs
        clear hs hu
        go_wp2_with fail
        go_roundw
        case rel => exact ⟨k + 1, by omega, by go_num, by rw [HSU.out]; rfl, trivial⟩
        case measure => simp [intOf]; omega
      · have h0B : decide (0 ≤ iAt p k) = false := decide_eq_false h0
        rw [if_neg h0] at hs
        have HSU := Lib.hid hs
        clear hs hu
        go_wp2_with fail
        go_roundw
        case rel => exact ⟨k + 1, by omega, by go_num, by rw [HSU.out], trivial⟩
        case measure => simp [intOf]; omega
    · obtain rfl : n = k := by omega
      have hB : decide (((n : Nat) : Int) < n) = false := decide_eq_false (by omega)
      go_wp2_with fail
      go_ret
      exact ⟨rfl, rfl⟩

end Go.Proofs.YtcbeiadimchknaaGreat

namespace Go.Proofs.YtcbeiadimchknaaGreat
open Go.RowKit
open Go.Sort (grow)
set_option linter.unusedVariables false
set_option linter.unusedSimpArgs false

set_option maxRecDepth 100000 in
set_option maxHeartbeats 1600000 in
theorem check8_c (A : Option Addr) (nr c : Nat) (B : Option Addr) (ns d : Nat) (C : Option Addr) (nk f : Nat) (shk : Int) (rs : List Rt8) (ss : List Sp) (ks : List Sk8) (w : World) (HA : RtsAt w A nr rs) (HB : SpsAt w B ns ss) (HC : SksAt w C nk ks) (ok : Ok8 nr ns nk rs ss ks shk) :
    Calls Tryz.prog 30 #[.agg #[.slice A nr c, .slice B ns d, .slice C nk f, .int .i64 shk]] w fun e w' => e = .returned (.int .i64 0) ∧ Below w.heap.size w w' := by
  have en1 : ∀ args w, (callFunc 59 args).run Tryz.prog w = .ok (.enter 59 args) w := enters_of Tryz.func59 (by kernel_rfl) rfl
  have en2 : ∀ args w, (callFunc 61 args).run Tryz.prog w = .ok (.enter 61 args) w := enters_of Tryz.func61 (by kernel_rfl) rfl
  have h1 := ok.rl
  have h2 := ok.sl
  have h3 := ok.kl
  have h4 := ok.shk
  have kShip := Lib.hid (fun V (hV : Below w.heap.size w V) => containsFunc8Sp_c B ns d 59 #[] #[] ss V (by omega) (HB.later hV) en1 (fun k hk w' _ => by simpa using ship8_c (spAt ss k).lo (spAt ss k).hi (ok.sp k hk) w'))
  have kStock := Lib.hid (fun V (hV : Below w.heap.size w V) => containsFunc8Sk_c C nk f 61 #[] #[] ks V (by omega) (HC.later hV) en2 (fun k hk w' _ => by simpa using stock8_c (skAt ks k).size (skAt ks k).lo (skAt ks k).hi (ok.sk k hk).1 (ok.sk k hk).2 w'))
  have HAI := Lib.hid HA
  have HRT := Lib.hid ok.rt
  have HIN := Lib.hid ok.inc
  have k9 : wn shk 0 9 = true := wn_true.2 h4
  have g1 : decide (6 < (nr : Int)) = false := decide_eq_false (by omega)
  have g2 : decide (3 < (ns : Int)) = false := decide_eq_false (by omega)
  have g3 : decide (7 < (nk : Int)) = false := decide_eq_false (by omega)
  clear HA HB HC ok en1 en2 h4
  go_enter Tryz.func30, Tryz.ntmps30
  go_upto_region 1 with (fail)
  go_name_world X hX
  have BX := Lib.hid (al1 hX).1
  have zX := (al1 hX).2
  have HY0 : Hid (Blk X w.heap.size 40 #[.slice A nr c, .slice B ns d, .slice C nk f, .int .i64 shk]) := by rw [← hX]; exact Lib.hid (Blk.new w _ _)
  have q0 := HY0.out.cell
  have l0 := HY0.out.lt
  clear hX
  go_wp2_with fail
  clear q0 l0
  go_loopw [10] (fun i (wv : World) => ∃ k : Nat, k ≤ nr ∧ i = .int .i64 k ∧ Below X.heap.size X wv) (fun i _ => nr - (intOf i).toNat)
  case atStart => exact ⟨0, by omega, rfl, Below.refl _ _⟩
  case round =>
    obtain ⟨k, hk, rfl, hb⟩ := hrel
    have zb := hb.size
    have HYr := Lib.hid (HY0.out.below hb (by omega))
    have q1 := HYr.out.cell
    have l1 := HYr.out.lt
    have hbw := BX.out.trans (hb.mono (by omega))
    by_cases hlt : k < nr
    · have hqB : decide ((k : Int) < nr) = true := decide_eq_true (by omega)
      have vk : IntKind.i64.wrap ((k : Int) + 1) = (k : Int) + 1 := IntWalk.i64_in _ (by omega)
      obtain ⟨b0, o0, hA, hb0, x0, x1, x2⟩ := (HAI.out.later hbw).get hlt
      obtain ⟨r0, r1, r2⟩ := HRT.out k hlt
      have w1 : wn (rtAt rs k).tons 0 9999 = true := wn_true.2 (by omega)
      have w2 : wn (rtAt rs k).size 1 99 = true := wn_true.2 (by omega)
      have w3 : wn (rtAt rs k).long 0 999 = true := wn_true.2 (by omega)
      have HP : Hid (0 < k → ∃ y, X.heap.size ≤ wr.heap.size ∧ wr.cell? ⟨b0, o0 + (k - 1) * 3, none⟩ = some (.int .i64 y) ∧ y < (rtAt rs k).tons) := Lib.hid (fun h0 => by
        obtain ⟨b1, o1, hA1, hb1, y0, -, -⟩ := (HAI.out.later hbw).get (show k - 1 < nr by omega)
        rw [hA] at hA1
        cases hA1
        have := HIN.out (k - 1) (by omega)
        rw [show k - 1 + 1 = k by omega] at this
        exact ⟨_, zb, y0, this⟩)
      subst hA
      obtain ⟨⟨u0, u1, u2⟩, hu⟩ : ∃ x, rtAt rs k = x := ⟨_, rfl⟩
      rw [hu] at x0 x1 x2 w1 w2 w3 r0 r1 r2 HP
      simp only at x0 x1 x2 w1 w2 w3 r0 r1 r2 HP
      clear hu
      go_upto_region 4 with (fail)
      go_name_world Z hZ
      have BZ : Below wr.heap.size wr Z := (al1 hZ).1
      have HR : Hid (Blk Z wr.heap.size 75 #[.int .i64 u0, .int .i64 u1, .int .i64 u2]) := by rw [← hZ]; exact Lib.hid (Blk.new wr _ _)
      have HYz := Lib.hid (HYr.out.below BZ l1)
      have q2 := HYz.out.cell
      have l2 := HYz.out.lt
      have q3 := HR.out.cell
      have l3 := HR.out.lt
      have BBZ := hb.trans (BZ.mono zb)
      by_cases h0 : 0 < k
      · obtain ⟨y, -, y0, hy⟩ := HP.out h0
        have y1 := (BZ.cell (p := ⟨b0, o0 + (k - 1) * 3, none⟩) hb0).trans y0
        have hkB : decide (0 < (k : Int)) = true := decide_eq_true (by omega)
        have vm : IntKind.i64.wrap ((k : Int) - 1) = ((k - 1 : Nat) : Int) := by rw [IntWalk.i64_in _ (by omega)]; omega
        have hyB : decide (u0 ≤ y) = false := decide_eq_false (by omega)
        have hkl : ((k - 1 : Nat) : Int) < nr := by omega
        have hbz0 : b0 < Z.heap.size := Nat.lt_of_lt_of_le hb0 BZ.size
        clear q1 l1 x0 x1 x2 y0 hZ BZ hy
        have hcq := fun p : Regrown => (bcell (below_regrown Z p.d p.os)).1
        refine wp_region_quiet_below (by kernel_rfl) (by kernel_rfl) ?_
        repeat (go_big_quiet_step ((go_at_call 32; exact regrown_left (within8_c _ _ _ _))))
        refine wpQuiet_nil ?_
        intro w5 hq
        obtain ⟨pq, hq⟩ := hq
        have hb5 : Below Z.heap.size Z w5 := by rw [hq]; exact below_regrown _ _ _
        clear hq hcq pq
        obtain ⟨hc5, hf5⟩ := bcell hb5
        have z5 := hb5.size
        go_wp2_with fail
        go_roundw
        case rel => exact ⟨k + 1, by omega, by go_num, BBZ.trans (hb5.mono BBZ.size)⟩
        case measure => simp [intOf]; omega
      · have hkB : decide (0 < (k : Int)) = false := decide_eq_false (by omega)
        clear q1 l1 x0 x1 x2 hZ BZ HP
        have hcq := fun p : Regrown => (bcell (below_regrown Z p.d p.os)).1
        refine wp_region_quiet_below (by kernel_rfl) (by kernel_rfl) ?_
        repeat (go_big_quiet_step ((go_at_call 32; exact regrown_left (within8_c _ _ _ _))))
        refine wpQuiet_nil ?_
        intro w5 hq
        obtain ⟨pq, hq⟩ := hq
        have hb5 : Below Z.heap.size Z w5 := by rw [hq]; exact below_regrown _ _ _
        clear hq hcq pq
        obtain ⟨hc5, hf5⟩ := bcell hb5
        have z5 := hb5.size
        go_wp2_with fail
        go_roundw
        case rel => exact ⟨k + 1, by omega, by go_num, BBZ.trans (hb5.mono BBZ.size)⟩
        case measure => simp [intOf]; omega
    · obtain rfl : nr = k := by omega
      have hqB : decide (((nr : Nat) : Int) < nr) = false := decide_eq_false (by omega)
      go_wp2_with (first | (go_at_call 32; refine (within8_c _ _ _ _).mono ?_; rintro e w' ⟨rfl, rfl⟩) | (go_at_call 62; refine (kShip.out _ hbw).mono ?_; rintro e v1 ⟨rfl, hb1⟩; have B1 := hbw.trans (hb1.mono hbw.size); have HY1 := Lib.hid (HYr.out.below hb1 l1); have q4 := HY1.out.cell; have l4 := HY1.out.lt; clear hb1) | (go_at_call 63; refine (kStock.out _ B1).mono ?_; rintro e v2 ⟨rfl, hb2⟩; have B2 := Lib.hid (B1.trans (hb2.mono B1.size)); clear hb2))
      go_ret
      exact ⟨rfl, B2.out⟩

end Go.Proofs.YtcbeiadimchknaaGreat

namespace Go.Proofs.YtcbeiadimchknaaGreat
open Go.RowKit
open Go.Sort (grow)
set_option linter.unusedVariables false
set_option linter.unusedSimpArgs false

set_option maxHeartbeats 400000 in
theorem within4_c (n a b : Int) (w : World) :
    Calls Tryz.prog 89 #[.int .i64 n, .int .i64 a, .int .i64 b] w fun e w' => e = .returned (.bool (wn n a b)) ∧ w = w' := by
  go_enter Tryz.func89, Tryz.ntmps89
  go_wp2
  all_goals
    go_ret
    exact ⟨ret_bool (by simp [wn, *] <;> omega), rfl⟩
def when4 (n : Int) : Bool := (n == 1) || (n == 2)
set_option maxHeartbeats 400000 in
theorem isWhen4_c (n : Int) (w : World) :
    Calls Tryz.prog 45 #[.int .i64 n] w fun e w' => e = .returned (.bool (when4 n)) ∧ w = w' := by
  unfold when4
  cases e1 : (n == 1) <;> cases e2 : (n == 2)
  all_goals
    go_enter Tryz.func45, Tryz.ntmps45
    go_wp2
    go_ret
    exact ⟨rfl, rfl⟩
/-- how a bundle lies in memory: the lengths of the rods, and two groups -/
structure Hb where
  u : W4
  bw : Int
  b : Hd
  aw : Int
  a : Hd
def encB4 (x : Hb) : List Value := [.int .i64 x.u.w0, .int .i64 x.u.w1, .int .i64 x.u.w2, .int .i64 x.u.w3, .int .i64 x.bw, .slice x.b.A x.b.n x.b.c, .int .i64 x.aw, .slice x.a.A x.a.n x.a.c]
theorem encB4_len (x : Hb) : (encB4 x).length = 8 := rfl
theorem encB4_one (x : Hb) : ∀ u ∈ encB4 x, u.oneCell' = true := by
  intro u hu; simp only [encB4, List.mem_cons, List.not_mem_nil, or_false] at hu; rcases hu with rfl | rfl | rfl | rfl | rfl | rfl | rfl | rfl <;> rfl
set_option maxHeartbeats 400000 in
theorem wrong4_c (x : Hb) (hx : 0 ≤ x.bw ∧ x.bw ≤ 8 ∧ 0 ≤ x.aw ∧ x.aw ≤ 8) (w : World) :
    Calls Tryz.prog 95 #[.agg (encB4 x).toArray] w fun e w' => e = .returned (.int .i64 (x.bw + x.aw)) ∧ Below w.heap.size w w' := by
  obtain ⟨⟨w0, w1, w2, w3⟩, bw, ⟨bA, bn, bc⟩, aw, ⟨aA, an, ac⟩⟩ := x
  simp only [encB4] at hx ⊢
  have wr1 : IntKind.i64.wrap (bw + aw) = bw + aw := IntWalk.i64_in _ (by omega)
  go_enter Tryz.func95, Tryz.ntmps95
  go_wp2_with fail
  go_ret
  exact ⟨rfl, by (repeat first | with_reducible assumption | with_reducible exact Below.refl _ _ | (with_reducible refine Below.alloc ?_ ?side _; case side => (first | omega | (with_reducible exact Below.size (by assumption)) | (simp; done) | (simp; omega))) | (with_reducible refine Below.setCell ?_ ?side _; case side => (first | omega | (with_reducible exact Below.size (by assumption)) | (simp; done) | (simp; omega))) | with_reducible refine Below.drew ?_ | with_reducible refine below_drewN ?_ _ | (with_reducible refine below_step (by assumption) ?side ?_; case side => (first | omega | (with_reducible exact Below.size (by assumption)) | (simp; done) | (simp; omega))))⟩
theorem mul_bd {a b A B : Int} (h1 : 0 ≤ a ∧ a ≤ A) (h2 : 0 ≤ b ∧ b ≤ B) : 0 ≤ a * b ∧ a * b ≤ A * B :=
  ⟨Int.mul_nonneg h1.1 h2.1, Int.mul_le_mul h1.2 h2.2 h2.1 (by omega)⟩
theorem mul_bd2 {a b A B : Int} (h1 : 0 ≤ a ∧ a ≤ A) (h2 : -B ≤ b ∧ b ≤ B) (hB : 0 ≤ B) : -(A * B) ≤ a * b ∧ a * b ≤ A * B := by
  rcases Int.le_total 0 b with h | h
  · have := mul_bd h1 ⟨h, h2.2⟩
    have h3 : 0 ≤ A * B := Int.mul_nonneg (by omega) hB
    omega
  · have := mul_bd h1 (b := -b) (B := B) ⟨by omega, by omega⟩
    rw [Int.mul_neg] at this
    omega
theorem rt4_some {ir gr : Int} {x : Re4} {len rod : Int} {j : Nat} (hj : x.lo + j ≤ x.hi) (h : ok4t ir gr len (sy4 x rod) x.of (x.lo + j) = true) : rt4 ir gr x len rod = true := by
  unfold rt4
  rw [List.any_eq_true]
  exact ⟨_, ups_mem.2 ⟨by omega, hj⟩, h⟩
theorem rt4_none {ir gr : Int} {x : Re4} {len rod : Int} (h : ∀ j : Nat, x.lo + j ≤ x.hi → ok4t ir gr len (sy4 x rod) x.of (x.lo + j) = false) : rt4 ir gr x len rod = false := by
  unfold rt4
  rw [List.any_eq_false]
  intro t ht
  obtain ⟨h1, h2⟩ := ups_mem.1 ht
  have := h (t - x.lo).toNat (by omega)
  rw [show x.lo + ((t - x.lo).toNat : Int) = t by omega] at this
  rw [this]; simp
/-- a reading as it comes in -/
structure OkX (nr : Nat) (x : Re4) : Prop where
  rd : 0 ≤ x.rd ∧ x.rd < nr
  ct : 0 ≤ x.ct ∧ x.ct ≤ 99
  rs : 0 ≤ x.rs ∧ x.rs ≤ 9999
  of : 0 ≤ x.of ∧ x.of ≤ 99
  wm : -50 ≤ x.lo ∧ x.lo ≤ x.hi ∧ x.hi ≤ 50
set_option maxRecDepth 100000 in
set_option maxHeartbeats 1600000 in
theorem right4_c (Ar : Option Addr) (nr cr : Nat) (Ad : Option Addr) (nd cd : Nat) (ir glo ghi wrg : Int) (rods : List Ro4) (x : Re4) (len rod : Int) (w : World) (HR : RosAt w Ar nr rods) (hir : 0 ≤ ir ∧ ir ≤ 50) (hgr : 0 ≤ (roAt rods x.rd.toNat).gr ∧ (roAt rods x.rd.toNat).gr ≤ 50) (hx : OkX nr x)
    (hln : 0 ≤ len ∧ len ≤ 99999) (hrod : 0 ≤ rod ∧ rod ≤ 9999) :
    Calls Tryz.prog 126 #[.agg #[.int .i64 ir, .int .i64 glo, .int .i64 ghi, .slice Ar nr cr, .slice Ad nd cd, .int .i64 wrg], .agg #[.int .i64 x.wh, .int .i64 x.rd, .int .i64 x.ct, .int .i64 x.rs, .int .i64 x.of, .int .i64 x.lo, .int .i64 x.hi], .int .i64 len, .int .i64 rod] w
      fun e w' => e = .returned (.bool (rt4 ir (roAt rods x.rd.toNat).gr x len rod)) ∧ Below w.heap.size w w' := by
  obtain ⟨gr, hg⟩ : ∃ g, (roAt rods x.rd.toNat).gr = g := ⟨_, rfl⟩
  rw [hg] at hgr ⊢
  obtain ⟨q, hq⟩ : ∃ q : Nat, x.rd = q := ⟨x.rd.toNat, by have := hx.rd; omega⟩
  have hqn : q < nr := by have := hx.rd; omega
  rw [hq, Int.toNat_natCast] at hg
  obtain ⟨b, off, hA, hbl, y0, y1, y2⟩ := HR.get hqn
  subst hA
  rw [hg] at y2
  have HP1 := Lib.hid (fun (j : Nat) h h' => rt4_some (ir := ir) (gr := gr) (x := x) (len := len) (rod := rod) (j := j) h h')
  have HP0 := Lib.hid (fun h => rt4_none (ir := ir) (gr := gr) (x := x) (len := len) (rod := rod) h)
  obtain ⟨R, hR⟩ : ∃ R, rt4 ir gr x len rod = R := ⟨_, rfl⟩
  rw [hR] at HP1 HP0 ⊢
  obtain ⟨xw, xr, xc, xs, xo, lo, hi⟩ := x
  obtain ⟨-, hct, hrs, hof, hwm⟩ := hx
  simp only [sy4] at *
  subst hq
  have m1 := mul_bd hct hrod
  have ws1 : IntKind.i64.wrap (xc * rod) = xc * rod := IntWalk.i64_in _ (by omega)
  have ws2 : IntKind.i64.wrap (xc * rod + xs) = xc * rod + xs := IntWalk.i64_in _ (by omega)
  have hsy : 0 ≤ xc * rod + xs ∧ xc * rod + xs ≤ 999900 := by omega
  clear HR hg m1 hR
  go_enter Tryz.func126, Tryz.ntmps126
  go_upto_region 1 with (fail)
  go_name_world W hW
  obtain ⟨hB, hz⟩ := al2 hW
  obtain ⟨l_0, q_0, f_0⟩ := al2_0 hW
  obtain ⟨l_1, q_1, f_1⟩ := al2_1 hW
  have HZ := Lib.hid hz
  have zs := hB.size
  clear hW hz
  go_wp2_with fail
  obtain ⟨sy, hsy'⟩ : ∃ s, xc * rod + xs = s := ⟨_, rfl⟩
  rw [hsy'] at HP1 HP0 hsy ⊢
  clear ws1 ws2 hsy' f_0 f_1
  go_loopw [10] (fun i (wr : World) => ∃ j : Nat, lo + j ≤ hi + 1 ∧ i = .int .i64 (lo + j) ∧ Hid (∀ k : Nat, k < j → ok4t ir gr len sy xo (lo + k) = false) ∧ Hid (Below W.heap.size W wr)) (fun i _ => (hi + 1 - intOf i).toNat)
  case atStart => exact ⟨0, by omega, by simp, Lib.hid (fun k h => absurd h (by omega)), Lib.hid (Below.refl _ _)⟩
  case round =>
    obtain ⟨j, hj, rfl, HN, HBr⟩ := hrel
    have hb := HBr.out
    obtain ⟨hc, hf⟩ := bcell hb
    have zb := hb.size
    have m0 := Nat.lt_of_lt_of_le l_0 zb
    have m1 := Nat.lt_of_lt_of_le l_1 zb
    have cx := fun i => (hc _ i l_0).trans (q_0 i)
    have cy := fun i => (hc _ i l_1).trans (q_1 i)
    have yr := (hb.cell (p := ⟨b, off + q * 3 + 2, none⟩) (Nat.lt_of_lt_of_le hbl zs)).trans ((hB.cell (p := ⟨b, off + q * 3 + 2, none⟩) hbl).trans y2)
    clear hc hf
    by_cases hle : lo + j ≤ hi
    · have hqB : decide (lo + (j : Int) ≤ hi) = true := decide_eq_true hle
      obtain ⟨t, ht⟩ : ∃ t, lo + (j : Int) = t := ⟨_, rfl⟩
      rw [ht] at hle hqB ⊢
      have ht2 : -50 ≤ t ∧ t ≤ 50 := by omega
      have b1 := mul_bd2 hir ht2 (by omega)
      have b2 := mul_bd2 hgr ht2 (by omega)
      obtain ⟨e1, hm1⟩ : ∃ m, ir * t = m := ⟨_, rfl⟩
      obtain ⟨e2, hm2⟩ : ∃ m, gr * t = m := ⟨_, rfl⟩
      have HD := Lib.hid (show dt4 ir gr len sy t = len * (1000000 + e1) - sy * (1000000 + e2) by unfold dt4; rw [hm1, hm2])
      have b3 := mul_bd hln (b := 1000000 + e1) (B := 1002500) (by omega)
      have b4 := mul_bd hsy (b := 1000000 + e2) (B := 1002500) (by omega)
      obtain ⟨n1, hn1⟩ : ∃ m, len * (1000000 + e1) = m := ⟨_, rfl⟩
      obtain ⟨n2, hn2⟩ : ∃ m, sy * (1000000 + e2) = m := ⟨_, rfl⟩
      have b5 := mul_bd hof (b := 1000000) (B := 1000000) (by omega)
      have v1 : IntKind.i64.wrap (ir * t) = e1 := by rw [← hm1]; exact IntWalk.i64_in _ (by omega)
      have v2 : IntKind.i64.wrap (gr * t) = e2 := by rw [← hm2]; exact IntWalk.i64_in _ (by omega)
      have v3 : IntKind.i64.wrap (1000000 + e1) = 1000000 + e1 := IntWalk.i64_in _ (by omega)
      have v4 : IntKind.i64.wrap (1000000 + e2) = 1000000 + e2 := IntWalk.i64_in _ (by omega)
      have v5 : IntKind.i64.wrap (len * (1000000 + e1)) = n1 := by rw [← hn1]; exact IntWalk.i64_in _ (by omega)
      have v6 : IntKind.i64.wrap (sy * (1000000 + e2)) = n2 := by rw [← hn2]; exact IntWalk.i64_in _ (by omega)
      have v8 : IntKind.i64.wrap (xo * 1000000) = xo * 1000000 := IntWalk.i64_in _ (by omega)
      have v9 : IntKind.i64.wrap (t + 1) = t + 1 := IntWalk.i64_in _ (by omega)
      have HD2 := Lib.hid (HD.out.trans (by rw [hn1, hn2]))
      rw [hn1] at b3
      rw [hn2] at b4
      clear hm1 hm2 hn1 hn2 HD
      obtain ⟨d, hd⟩ : ∃ d, n1 - n2 = d := ⟨_, rfl⟩
      have v7 : IntKind.i64.wrap (n1 - n2) = d := by rw [IntWalk.i64_in _ (by omega)]; exact hd
      have v10 : IntKind.i64.wrap (-d) = -d := IntWalk.i64_in _ (by omega)
      have HD3 := Lib.hid (HD2.out.trans hd)
      have hdb : -200000000000000 ≤ d ∧ d ≤ 200000000000000 := by omega
      clear hd HD2 b1 b2 b3 b4
      have HT := Lib.hid ht
      clear ht
      go_upto_region 5 with (fail)
      have lb : b < wr.heap.size := by omega
      have hcq := fun p : Regrown => (bcell (below_regrown wr p.d p.os)).1
      refine wp_region_quiet_below (by kernel_rfl) (by kernel_rfl) ?_
      repeat (go_big_quiet_step ((fail)))
      refine wpQuiet_nil ?_
      intro wq hq
      obtain ⟨pq, hq⟩ := hq
      have hbq : Below wr.heap.size wr wq := by rw [hq]; exact below_regrown _ _ _
      clear hq hcq pq
      obtain ⟨hcq, hfq⟩ := bcell hbq
      have zq := hbq.size
      have dy := fun i => (hcq _ i m1).trans (cy i)
      have BQ := Lib.hid (hb.trans (hbq.mono zb))
      clear hcq hfq hbq cx cy yr
      have HOK := Lib.hid (fun (h : d ≤ xo * 1000000 ∧ -d ≤ xo * 1000000) => HP1.out j (by have := HT.out; omega) (by rw [HT.out]; unfold ok4t; rw [HD3.out]; simp [h.1, h.2]))
      have HNO := Lib.hid (fun (h : ¬ (d ≤ xo * 1000000 ∧ -d ≤ xo * 1000000)) => show ok4t ir gr len sy xo (lo + j) = false from by rw [HT.out]; unfold ok4t; rw [HD3.out]; simp only [Bool.and_eq_false_iff, decide_eq_false_iff_not]; omega)
      go_wp2_with fail
      all_goals first
        | (go_ret; exact ⟨ret_bool (HOK.out (by omega)).symm, by have := BQ.out; (repeat first | with_reducible assumption | with_reducible exact Below.refl _ _ | (with_reducible refine Below.alloc ?_ ?side _; case side => (first | omega | (with_reducible exact Below.size (by assumption)) | (simp; done) | (simp; omega))) | (with_reducible refine Below.setCell ?_ ?side _; case side => (first | omega | (with_reducible exact Below.size (by assumption)) | (simp; done) | (simp; omega))) | with_reducible refine Below.drew ?_ | with_reducible refine below_drewN ?_ _ | (with_reducible refine below_step (by assumption) ?side ?_; case side => (first | omega | (with_reducible exact Below.size (by assumption)) | (simp; done) | (simp; omega))))⟩)
        | (go_roundw
           case rel =>
             refine ⟨j + 1, (by have := HT.out; omega), (by have := HT.out; simp; omega), Lib.hid (fun k hk => ?_), Lib.hid (by have := BQ.out; (repeat first | with_reducible assumption | with_reducible exact Below.refl _ _ | (with_reducible refine Below.alloc ?_ ?side _; case side => (first | omega | (with_reducible exact Below.size (by assumption)) | (simp; done) | (simp; omega))) | (with_reducible refine Below.setCell ?_ ?side _; case side => (first | omega | (with_reducible exact Below.size (by assumption)) | (simp; done) | (simp; omega))) | with_reducible refine Below.drew ?_ | with_reducible refine below_drewN ?_ _ | (with_reducible refine below_step (by assumption) ?side ?_; case side => (first | omega | (with_reducible exact Below.size (by assumption)) | (simp; done) | (simp; omega)))))⟩
             by_cases hkj : k = j
             · subst hkj; exact HNO.out (by omega)
             · exact HN.out k (by omega)
           case measure => (simp [intOf]; omega))
    · have hqB : decide (lo + (j : Int) ≤ hi) = false := decide_eq_false hle
      go_wp2_with fail
      go_ret
      exact ⟨ret_bool (HP0.out fun k hk => HN.out k (by omega)).symm, by (repeat first | with_reducible assumption | with_reducible exact Below.refl _ _ | (with_reducible refine Below.alloc ?_ ?side _; case side => (first | omega | (with_reducible exact Below.size (by assumption)) | (simp; done) | (simp; omega))) | (with_reducible refine Below.setCell ?_ ?side _; case side => (first | omega | (with_reducible exact Below.size (by assumption)) | (simp; done) | (simp; omega))) | with_reducible refine Below.drew ?_ | with_reducible refine below_drewN ?_ _ | (with_reducible refine below_step (by assumption) ?side ?_; case side => (first | omega | (with_reducible exact Below.size (by assumption)) | (simp; done) | (simp; omega))))⟩

end Go.Proofs.YtcbeiadimchknaaGreat
