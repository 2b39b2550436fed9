/- proves and Proof of scrap (layer 11). -/
import Derived.Test.YtoehifincdflhaaSg11
import Derived.Test.YtoehifincdflhaaSt11
namespace Go.Proofs.Ytoehifincdflhaa
open Go.RowKit
open Go.Sort (grow)
set_option linter.unusedVariables false

def hsB (s : Nat) (i : Int) : Bool := decide (0 ≤ i) && s.testBit i.toNat
theorem hasB_c (s : Nat) (i : Int) (w : World) (hs : s < 65536) (hi : i < 64) :
    Calls Try.prog 70 #[.int .u64 s, .int .i64 i] w fun e w' => e = .returned (.bool (hsB s i)) ∧ w = w' := has_c s i w hs hi
def sumF (f : Nat → Int) : Nat → Int
  | 0 => 0
  | k + 1 => sumF f k + f k
/-- what line l brings to the places of a set: at the least, at the most -/
def prA (s : Nat) (l : Ln) : Int := bif hsB s l.to then (bif hsB s l.fr then -l.s.hi else l.w.lo - l.s.hi) else (bif hsB s l.fr then -l.w.hi else 0)
def prB (s : Nat) (l : Ln) : Int := bif hsB s l.to then (bif hsB s l.fr then -l.s.lo else l.w.hi - l.s.lo) else (bif hsB s l.fr then -l.w.lo else 0)
def prC (s : Nat) (pl : List Sp) (i : Nat) : Int := bif hsB s (i : Int) then -(spAt pl i).hi else 0
def prD (s : Nat) (pl : List Sp) (i : Nat) : Int := bif hsB s (i : Int) then -(spAt pl i).lo else 0
def leastV (np nl : Nat) (pl : List Sp) (ls : List Ln) (s : Nat) : Int := sumF (fun i => prA s (lnAt ls i)) nl + sumF (prC s pl) np
def mostV (np nl : Nat) (pl : List Sp) (ls : List Ln) (s : Nat) : Int := sumF (fun i => prB s (lnAt ls i)) nl + sumF (prD s pl) np
def prvB (np nl : Nat) (pl : List Sp) (ls : List Ln) (s : Nat) : Bool := decide (0 < leastV np nl pl ls s) || decide (mostV np nl pl ls s < 0)
theorem sumF_bd {f : Nat → Int} {M : Int} (h : ∀ k, -M ≤ f k ∧ f k ≤ M) (k : Nat) : -(k * M) ≤ sumF f k ∧ sumF f k ≤ k * M := by
  induction k with
  | zero => simp [sumF]
  | succ k ih =>
    have := h k
    have e : ((k + 1 : Nat) : Int) * M = k * M + M := by rw [Int.natCast_add, Int.add_mul]; simp
    simp only [sumF, e]
    omega
theorem prA_bd {np nl : Nat} {pl : List Sp} {ls : List Ln} (h : OkBk np nl pl ls) (s k : Nat) : (-1998 ≤ prA s (lnAt ls k) ∧ prA s (lnAt ls k) ≤ 1998) ∧ -1998 ≤ prB s (lnAt ls k) ∧ prB s (lnAt ls k) ≤ 1998 := by
  have := h.ln k
  unfold prA prB
  cases hsB s (lnAt ls k).to <;> cases hsB s (lnAt ls k).fr <;> simp <;> omega
theorem prC_bd {np nl : Nat} {pl : List Sp} {ls : List Ln} (h : OkBk np nl pl ls) (s k : Nat) : (-999 ≤ prC s pl k ∧ prC s pl k ≤ 999) ∧ -999 ≤ prD s pl k ∧ prD s pl k ≤ 999 := by
  have := h.sp k
  unfold prC prD
  cases hsB s (k : Int) <;> simp <;> omega

set_option maxRecDepth 100000 in
set_option maxHeartbeats 1600000 in
theorem proves_c (Ap Al : Option Addr) (np cp nl cl s : Nat) (wrg : Int) (pl : List Sp) (ls : List Ln) (w : World) (hs : s < 65536) (hok : OkBk np nl pl ls) (HP : SpsAt w Ap np pl) (HL : LnsAt w Al nl ls) :
    Calls Try.prog 69 #[.agg #[.slice Ap np cp, .slice Al nl cl, .int .i64 wrg], .int .u64 s] w
      fun e w' => e = .returned (.bool (prvB np nl pl ls s)) ∧ Below w.heap.size w w' := by
  have HPI := Lib.hid HP
  have HLI := Lib.hid HL
  have HK := Lib.hid hok
  have hp5 := hok.hp
  have hl8 := hok.hl
  have BA := Lib.hid (fun k => sumF_bd (f := fun i => prA s (lnAt ls i)) (M := 1998) (fun k => (prA_bd hok s k).1) k)
  have BB := Lib.hid (fun k => sumF_bd (f := fun i => prB s (lnAt ls i)) (M := 1998) (fun k => (prA_bd hok s k).2) k)
  have BC := Lib.hid (fun k => sumF_bd (f := prC s pl) (M := 999) (fun k => (prC_bd hok s k).1) k)
  have BD := Lib.hid (fun k => sumF_bd (f := prD s pl) (M := 999) (fun k => (prC_bd hok s k).2) k)
  clear HP HL hok
  go_enter Try.func69, Try.ntmps69
  go_wp2
  go_name_world W hW
  obtain ⟨hB, hz⟩ := al1 hW
  obtain ⟨l_0, q_0, f_0⟩ := al1_0 hW
  have HZ := Lib.hid hz
  have zs := hB.size
  clear hW hz
  go_loopw [5, 6, 16] (fun a b i (wr : World) => ∃ k : Nat, k ≤ nl ∧ i = .int .i64 k ∧ a = .int .i64 (sumF (fun i => prA s (lnAt ls i)) k) ∧ b = .int .i64 (sumF (fun i => prB s (lnAt ls i)) k) ∧ Below W.heap.size W wr) (fun _ _ i _ => nl - (intOf i).toNat)
  case atStart => exact ⟨0, by omega, rfl, rfl, rfl, Below.refl _ _⟩
  case round =>
    obtain ⟨k, hk, rfl, rfl, rfl, hb⟩ := hrel
    obtain ⟨a, ha⟩ : ∃ a, sumF (fun i => prA s (lnAt ls i)) k = a := ⟨_, rfl⟩
    obtain ⟨b, hbb⟩ : ∃ b, sumF (fun i => prB s (lnAt ls i)) k = b := ⟨_, rfl⟩
    have ha1 := BA.out k
    have hb1 := BB.out k
    rw [ha] at ha1 ⊢
    rw [hbb] at hb1 ⊢
    have HAS := Lib.hid (show sumF (fun i => prA s (lnAt ls i)) (k + 1) = a + prA s (lnAt ls k) by rw [← ha]; rfl)
    have HBS := Lib.hid (show sumF (fun i => prB s (lnAt ls i)) (k + 1) = b + prB s (lnAt ls k) by rw [← hbb]; rfl)
    replace ha := Lib.hid ha
    replace hbb := Lib.hid hbb
    obtain ⟨hc, hf⟩ := bcell hb
    have zb := hb.size
    have m0 := Nat.lt_of_lt_of_le l_0 zb
    by_cases hlt : k < nl
    · have hbw : Below w.heap.size w wr := by (repeat first | with_reducible assumption | with_reducible exact Below.refl _ _ | (with_reducible refine Below.alloc ?_ ?side _; case side => (first | omega | (with_reducible exact Below.size (by assumption)) | (simp; done) | (simp; omega))) | (with_reducible refine Below.setCell ?_ ?side _; case side => (first | omega | (with_reducible exact Below.size (by assumption)) | (simp; done) | (simp; omega))) | with_reducible refine Below.drew ?_ | with_reducible refine below_drewN ?_ _ | (with_reducible refine below_step (by assumption) ?side ?_; case side => (first | omega | (with_reducible exact Below.size (by assumption)) | (simp; done) | (simp; omega))))
      obtain ⟨bl, ol, rfl, hbl, x0, x1, x2, x3, x4, x5⟩ := (HLI.out.later hbw).get hlt
      obtain ⟨y1, y2, y3, y4, y5, y6, y7, y8, y9⟩ := HK.out.ln k
      have eA := Lib.hid (show prA s (lnAt ls k) = bif hsB s (lnAt ls k).to then (bif hsB s (lnAt ls k).fr then -(lnAt ls k).s.hi else (lnAt ls k).w.lo - (lnAt ls k).s.hi) else (bif hsB s (lnAt ls k).fr then -(lnAt ls k).w.hi else 0) from rfl)
      have eB := Lib.hid (show prB s (lnAt ls k) = bif hsB s (lnAt ls k).to then (bif hsB s (lnAt ls k).fr then -(lnAt ls k).s.lo else (lnAt ls k).w.hi - (lnAt ls k).s.lo) else (bif hsB s (lnAt ls k).fr then -(lnAt ls k).w.lo else 0) from rfl)
      cases e1 : hsB s (lnAt ls k).to <;> cases e2 : hsB s (lnAt ls k).fr
      all_goals
        rw [e1, e2] at eA eB
        have EA := eA.out
        have EB := eB.out
        simp only [cond_true, cond_false] at EA EB
        replace EA := Lib.hid EA
        replace EB := Lib.hid EB
        go_wp2_with fail
        go_name_world W5 hW5
        have hb5 : Below wr.heap.size wr W5 := by rw [← hW5]; (repeat first | with_reducible assumption | with_reducible exact Below.refl _ _ | (with_reducible refine Below.alloc ?_ ?side _; case side => (first | omega | (with_reducible exact Below.size (by assumption)) | (simp; done) | (simp; omega))) | (with_reducible refine Below.setCell ?_ ?side _; case side => (first | omega | (with_reducible exact Below.size (by assumption)) | (simp; done) | (simp; omega))) | with_reducible refine Below.drew ?_ | with_reducible refine below_drewN ?_ _ | (with_reducible refine below_step (by assumption) ?side ?_; case side => (first | omega | (with_reducible exact Below.size (by assumption)) | (simp; done) | (simp; omega))))
        have u0 : ∀ j, W5.cell? ⟨wr.heap.size, j, none⟩ = #[Value.int .i64 (lnAt ls k).fr, .int .i64 (lnAt ls k).to, .int .i64 (lnAt ls k).w.lo, .int .i64 (lnAt ls k).w.hi, .int .i64 (lnAt ls k).s.lo, .int .i64 (lnAt ls k).s.hi][j]? := fun j => by rw [← hW5]; exact World.cell?_alloc_new _ _ _ j
        clear hW5
        go_quiet ((go_at_call 70; exact quiet_left (hasB_c _ _ _ hs (by omega))))
        go_wp2
        have w1 : IntKind.i64.wrap (a - (lnAt ls k).s.hi) = a - (lnAt ls k).s.hi := IntWalk.i64_in _ (by omega)
        have w2 : IntKind.i64.wrap (b - (lnAt ls k).s.lo) = b - (lnAt ls k).s.lo := IntWalk.i64_in _ (by omega)
        have w3 : IntKind.i64.wrap (a + (lnAt ls k).w.lo) = a + (lnAt ls k).w.lo := IntWalk.i64_in _ (by omega)
        have w4 : IntKind.i64.wrap (a + (lnAt ls k).w.lo - (lnAt ls k).s.hi) = a + (lnAt ls k).w.lo - (lnAt ls k).s.hi := IntWalk.i64_in _ (by omega)
        have w5 : IntKind.i64.wrap (b + (lnAt ls k).w.hi) = b + (lnAt ls k).w.hi := IntWalk.i64_in _ (by omega)
        have w6 : IntKind.i64.wrap (b + (lnAt ls k).w.hi - (lnAt ls k).s.lo) = b + (lnAt ls k).w.hi - (lnAt ls k).s.lo := IntWalk.i64_in _ (by omega)
        have w7 : IntKind.i64.wrap (a - (lnAt ls k).w.hi) = a - (lnAt ls k).w.hi := IntWalk.i64_in _ (by omega)
        have w8 : IntKind.i64.wrap (b - (lnAt ls k).w.lo) = b - (lnAt ls k).w.lo := IntWalk.i64_in _ (by omega)
        try (go_quiet (fail))
        go_wp2
        refine ⟨⟨k + 1, by omega, by simp, ?_, ?_, by (repeat first | with_reducible assumption | with_reducible exact Below.refl _ _ | (with_reducible refine Below.alloc ?_ ?side _; case side => (first | omega | (with_reducible exact Below.size (by assumption)) | (simp; done) | (simp; omega))) | (with_reducible refine Below.setCell ?_ ?side _; case side => (first | omega | (with_reducible exact Below.size (by assumption)) | (simp; done) | (simp; omega))) | with_reducible refine Below.drew ?_ | with_reducible refine below_drewN ?_ _ | (with_reducible refine below_step (by assumption) ?side ?_; case side => (first | omega | (with_reducible exact Below.size (by assumption)) | (simp; done) | (simp; omega))))⟩, by simp [intOf]; omega⟩
        · rw [HAS.out, EA.out]; first | rfl | (congr 1; omega)
        · rw [HBS.out, EB.out]; first | rfl | (congr 1; omega)
    · obtain rfl : nl = k := by omega
      clear hc hf zb m0 HAS HBS
      have m0 : w.heap.size < wr.heap.size := Nat.lt_of_lt_of_le l_0 hb.size
      have qw : ∀ j, wr.cell? ⟨w.heap.size, j, none⟩ = #[Value.slice Ap np cp, .slice Al nl cl, .int .i64 wrg][j]? := fun j => (hb.cell (p := ⟨w.heap.size, j, none⟩) l_0).trans (q_0 j)
      go_wp2
      obtain ⟨wo, rfl⟩ : ∃ wo : World, wo = wr := ⟨_, rfl⟩
      go_loopw [5, 6, 79] (fun c d i (ws : World) => ∃ k : Nat, k ≤ np ∧ i = .int .i64 k ∧ c = .int .i64 (a + sumF (prC s pl) k) ∧ d = .int .i64 (b + sumF (prD s pl) k) ∧ Below W.heap.size W ws) (fun _ _ i _ => np - (intOf i).toNat)
      case atStart => exact ⟨0, by omega, rfl, by simp [sumF], by simp [sumF], hb⟩
      case round =>
        obtain ⟨k, hk, rfl, rfl, rfl, hb⟩ := hrel
        obtain ⟨c, hcc⟩ : ∃ c, sumF (prC s pl) k = c := ⟨_, rfl⟩
        obtain ⟨d, hdd⟩ : ∃ d, sumF (prD s pl) k = d := ⟨_, rfl⟩
        have hc1 := BC.out k
        have hd1 := BD.out k
        rw [hcc] at hc1 ⊢
        rw [hdd] at hd1 ⊢
        have HCS := Lib.hid (show sumF (prC s pl) (k + 1) = c + prC s pl k by rw [← hcc]; rfl)
        have HDS := Lib.hid (show sumF (prD s pl) (k + 1) = d + prD s pl k by rw [← hdd]; rfl)
        replace hcc := Lib.hid hcc
        replace hdd := Lib.hid hdd
        obtain ⟨hc, hf⟩ := bcell hb
        have zb := hb.size
        have m0 := Nat.lt_of_lt_of_le l_0 zb
        by_cases hlt : k < np
        · have hbw : Below w.heap.size w wr := by (repeat first | with_reducible assumption | with_reducible exact Below.refl _ _ | (with_reducible refine Below.alloc ?_ ?side _; case side => (first | omega | (with_reducible exact Below.size (by assumption)) | (simp; done) | (simp; omega))) | (with_reducible refine Below.setCell ?_ ?side _; case side => (first | omega | (with_reducible exact Below.size (by assumption)) | (simp; done) | (simp; omega))) | with_reducible refine Below.drew ?_ | with_reducible refine below_drewN ?_ _ | (with_reducible refine below_step (by assumption) ?side ?_; case side => (first | omega | (with_reducible exact Below.size (by assumption)) | (simp; done) | (simp; omega))))
          obtain ⟨bp, op, rfl, hbp, x0, x1⟩ := (HPI.out.later hbw).get hlt
          have y := HK.out.sp k
          have eC := Lib.hid (show prC s pl k = bif hsB s (k : Int) then -(spAt pl k).hi else 0 from rfl)
          have eD := Lib.hid (show prD s pl k = bif hsB s (k : Int) then -(spAt pl k).lo else 0 from rfl)
          have w1 : IntKind.i64.wrap (a + c - (spAt pl k).hi) = a + c - (spAt pl k).hi := IntWalk.i64_in _ (by omega)
          have w2 : IntKind.i64.wrap (b + d - (spAt pl k).lo) = b + d - (spAt pl k).lo := IntWalk.i64_in _ (by omega)
          replace w1 := Lib.hid w1
          replace w2 := Lib.hid w2
          cases e1 : hsB s (k : Int)
          all_goals
            rw [e1] at eC eD
            have EC := eC.out
            have ED := eD.out
            simp only [cond_true, cond_false] at EC ED
            replace EC := Lib.hid EC
            replace ED := Lib.hid ED
            go_wp2_with (go_at_call 70; refine (hasB_c _ _ _ hs (by omega)).mono ?_; rw [e1]; rintro e w' ⟨rfl, rfl⟩)
          · refine ⟨⟨k + 1, by omega, by simp, ?_, ?_, by (repeat first | with_reducible assumption | with_reducible exact Below.refl _ _ | (with_reducible refine Below.alloc ?_ ?side _; case side => (first | omega | (with_reducible exact Below.size (by assumption)) | (simp; done) | (simp; omega))) | (with_reducible refine Below.setCell ?_ ?side _; case side => (first | omega | (with_reducible exact Below.size (by assumption)) | (simp; done) | (simp; omega))) | with_reducible refine Below.drew ?_ | with_reducible refine below_drewN ?_ _ | (with_reducible refine below_step (by assumption) ?side ?_; case side => (first | omega | (with_reducible exact Below.size (by assumption)) | (simp; done) | (simp; omega))))⟩, by simp [intOf]; omega⟩
            · rw [HCS.out, EC.out]; congr 1; omega
            · rw [HDS.out, ED.out]; congr 1; omega
          · have W1 := w1.out
            have W2 := w2.out
            try (go_quiet (fail))
            go_wp2
            refine ⟨⟨k + 1, by omega, by simp, ?_, ?_, by (repeat first | with_reducible assumption | with_reducible exact Below.refl _ _ | (with_reducible refine Below.alloc ?_ ?side _; case side => (first | omega | (with_reducible exact Below.size (by assumption)) | (simp; done) | (simp; omega))) | (with_reducible refine Below.setCell ?_ ?side _; case side => (first | omega | (with_reducible exact Below.size (by assumption)) | (simp; done) | (simp; omega))) | with_reducible refine Below.drew ?_ | with_reducible refine below_drewN ?_ _ | (with_reducible refine below_step (by assumption) ?side ?_; case side => (first | omega | (with_reducible exact Below.size (by assumption)) | (simp; done) | (simp; omega))))⟩, by simp [intOf]; omega⟩
            · rw [HCS.out, EC.out]; congr 1; omega
            · rw [HDS.out, ED.out]; congr 1; omega
        · obtain rfl : np = k := by omega
          have hv : prvB np nl pl ls s = (decide (0 < a + c) || decide (b + d < 0)) := by
            rw [← ha.out, ← hbb.out, ← hcc.out, ← hdd.out]; rfl
          replace hv := Lib.hid hv
          cases q1 : decide (0 < a + c) <;> cases q2 : decide (b + d < 0)
          all_goals
            go_wp2
            go_ret
            exact ⟨ret_bool (by rw [hv.out, q1, q2]; rfl), by (repeat first | with_reducible assumption | with_reducible exact Below.refl _ _ | (with_reducible refine Below.alloc ?_ ?side _; case side => (first | omega | (with_reducible exact Below.size (by assumption)) | (simp; done) | (simp; omega))) | (with_reducible refine Below.setCell ?_ ?side _; case side => (first | omega | (with_reducible exact Below.size (by assumption)) | (simp; done) | (simp; omega))) | with_reducible refine Below.drew ?_ | with_reducible refine below_drewN ?_ _ | (with_reducible refine below_step (by assumption) ?side ?_; case side => (first | omega | (with_reducible exact Below.size (by assumption)) | (simp; done) | (simp; omega))))⟩

end Go.Proofs.Ytoehifincdflhaa
