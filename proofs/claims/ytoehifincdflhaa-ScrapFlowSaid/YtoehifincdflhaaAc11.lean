/- Accounts: IsRight, Wrongs, Change, IsAccount, IsTruth of the specification (layer 11). -/
import Derived.Test.YtoehifincdflhaaRi11
namespace Go.Proofs.Ytoehifincdflhaa
open Go.RowKit
open Go.Sort (grow)
set_option linter.unusedVariables false

def isRt (ls : List Ln) (ws : List Int) (k : Nat) : Bool := wi (iAt ws k) (lnAt ls k).w.lo (lnAt ls k).w.hi

set_option maxRecDepth 100000 in
set_option maxHeartbeats 800000 in
theorem IsRight_c (Ap Al Aw As : Option Addr) (np cp nl cl nw cw ns cs k : Nat) (wrg : Int) (ls : List Ln) (ws : List Int) (w : World) (hl : nl ≤ 40) (hw : nw ≤ 40) (hk : k < nl) (hkw : k < nw) (HL : LnsAt w Al nl ls) (HW : IntsAt w Aw nw ws) :
    Calls Try.prog 23 #[.agg #[.slice Ap np cp, .slice Al nl cl, .int .i64 wrg], .agg #[.slice Aw nw cw, .slice As ns cs], .int .i64 k] w
      fun e w' => e = .returned (.bool (isRt ls ws k)) ∧ Below w.heap.size w w' := by
  have HLI := Lib.hid HL
  have HWI := Lib.hid HW
  clear HL HW
  go_enter Try.func23, Try.ntmps23
  go_wp2
  go_name_world W hW
  obtain ⟨hB, hz⟩ := al2 hW
  obtain ⟨l_0, q_0, f_0⟩ := al2_0 hW
  obtain ⟨l_1, q_1, f_1⟩ := al2_1 hW
  have HZ := Lib.hid hz
  have zs := hB.size
  clear hW hz
  obtain ⟨bl, ol, rfl, hbl, x0, x1, x2, x3, x4, x5⟩ := (HLI.out.later hB).get hk
  obtain ⟨bw, ow, rfl, hbw, y0⟩ := (HWI.out.later hB).get hkw
  go_quiet ((go_at_call 45; exact quiet_left (withinR_c _ _ _ _)))
  go_wp2
  go_ret
  exact ⟨rfl, by (repeat first | with_reducible assumption | with_reducible exact Below.refl _ _ | refine below_drewN ?_ _ | refine Below.drew ?_ | refine Below.alloc ?_ (by first | omega | (with_reducible exact Below.size (by assumption)) | (simp; done) | (simp; omega)) _ | refine Below.setCell ?_ (by first | omega | (with_reducible exact Below.size (by assumption)) | (simp; done) | (simp; omega)) _ | refine below_step (by assumption) (by first | omega | (with_reducible exact Below.size (by assumption)) | (simp; done) | (simp; omega)) ?_)⟩

/-- how many of the first n lines are not right -/
def wrgN (ls : List Ln) (ws : List Int) (n : Nat) : Nat := ((List.range n).filter fun k => !isRt ls ws k).length
theorem wrgN_succ (ls : List Ln) (ws : List Int) (n : Nat) : wrgN ls ws (n + 1) = wrgN ls ws n + (bif isRt ls ws n then 0 else 1) := by
  unfold wrgN
  rw [List.range_succ, List.filter_append, List.length_append]
  cases h : isRt ls ws n <;> simp [h]

set_option maxRecDepth 100000 in
set_option maxHeartbeats 800000 in
theorem Wrongs_c (Ap Al Aw As : Option Addr) (np cp nl cl nw cw ns cs : Nat) (wrg : Int) (ls : List Ln) (ws : List Int) (w : World) (hl : nl ≤ 40) (hw : nw ≤ 40) (hnw : nl ≤ nw) (HL : LnsAt w Al nl ls) (HW : IntsAt w Aw nw ws) :
    Calls Try.prog 22 #[.agg #[.slice Ap np cp, .slice Al nl cl, .int .i64 wrg], .agg #[.slice Aw nw cw, .slice As ns cs]] w
      fun e w' => e = .returned (.int .i64 (wrgN ls ws nl)) ∧ Below w.heap.size w w' := by
  have HLI := Lib.hid HL
  have HWI := Lib.hid HW
  clear HL HW
  go_enter Try.func22, Try.ntmps22
  go_wp2
  go_name_world W hW
  obtain ⟨hB, hz⟩ := al2 hW
  obtain ⟨l_0, q_0, f_0⟩ := al2_0 hW
  obtain ⟨l_1, q_1, f_1⟩ := al2_1 hW
  have HZ := Lib.hid hz
  have zs := hB.size
  clear hW hz
  go_loopw [5, 6] (fun c i (wr : World) => ∃ k : Nat, k ≤ nl ∧ i = .int .i64 k ∧ c = .int .i64 (wrgN ls ws k) ∧ wrgN ls ws k ≤ k ∧ Below W.heap.size W wr) (fun _ i _ => nl - (intOf i).toNat)
  case atStart => exact ⟨0, by omega, rfl, rfl, by simp [wrgN], Below.refl _ _⟩
  case round =>
    obtain ⟨k, hk, rfl, rfl, hwk, hb⟩ := hrel
    obtain ⟨n, hn⟩ : ∃ n, wrgN ls ws k = n := ⟨_, rfl⟩
    have hsu := wrgN_succ ls ws k
    rw [hn] at hwk hsu
    rw [hn]
    obtain ⟨hc, hf⟩ := bcell hb
    have zb := hb.size
    have m0 := Nat.lt_of_lt_of_le l_0 zb
    have m1 := Nat.lt_of_lt_of_le l_1 zb
    by_cases hlt : k < nl
    · have hB' : decide ((k : Int) < nl) = true := by simp; omega
      cases e1 : isRt ls ws k
      · go_wp2_with (go_at_call 23; refine (IsRight_c Ap Al Aw As np cp nl cl nw cw ns cs k wrg ls ws _ hl hw hlt (by omega) (HLI.out.later (by (repeat first | with_reducible assumption | with_reducible exact Below.refl _ _ | refine below_drewN ?_ _ | refine Below.drew ?_ | refine Below.alloc ?_ (by first | omega | (with_reducible exact Below.size (by assumption)) | (simp; done) | (simp; omega)) _ | refine Below.setCell ?_ (by first | omega | (with_reducible exact Below.size (by assumption)) | (simp; done) | (simp; omega)) _ | refine below_step (by assumption) (by first | omega | (with_reducible exact Below.size (by assumption)) | (simp; done) | (simp; omega)) ?_))) (HWI.out.later (by (repeat first | with_reducible assumption | with_reducible exact Below.refl _ _ | refine below_drewN ?_ _ | refine Below.drew ?_ | refine Below.alloc ?_ (by first | omega | (with_reducible exact Below.size (by assumption)) | (simp; done) | (simp; omega)) _ | refine Below.setCell ?_ (by first | omega | (with_reducible exact Below.size (by assumption)) | (simp; done) | (simp; omega)) _ | refine below_step (by assumption) (by first | omega | (with_reducible exact Below.size (by assumption)) | (simp; done) | (simp; omega)) ?_)))).mono ?_; rw [e1]; (rintro e w1 ⟨rfl, hb1⟩))
        rw [e1] at hsu
        simp only [cond_false] at hsu
        refine ⟨⟨k + 1, by omega, by simp, by rw [hsu]; simp, by omega, by (repeat first | with_reducible assumption | with_reducible exact Below.refl _ _ | refine below_drewN ?_ _ | refine Below.drew ?_ | refine Below.alloc ?_ (by first | omega | (with_reducible exact Below.size (by assumption)) | (simp; done) | (simp; omega)) _ | refine Below.setCell ?_ (by first | omega | (with_reducible exact Below.size (by assumption)) | (simp; done) | (simp; omega)) _ | refine below_step (by assumption) (by first | omega | (with_reducible exact Below.size (by assumption)) | (simp; done) | (simp; omega)) ?_)⟩, by simp [intOf]; omega⟩
      · go_wp2_with (go_at_call 23; refine (IsRight_c Ap Al Aw As np cp nl cl nw cw ns cs k wrg ls ws _ hl hw hlt (by omega) (HLI.out.later (by (repeat first | with_reducible assumption | with_reducible exact Below.refl _ _ | refine below_drewN ?_ _ | refine Below.drew ?_ | refine Below.alloc ?_ (by first | omega | (with_reducible exact Below.size (by assumption)) | (simp; done) | (simp; omega)) _ | refine Below.setCell ?_ (by first | omega | (with_reducible exact Below.size (by assumption)) | (simp; done) | (simp; omega)) _ | refine below_step (by assumption) (by first | omega | (with_reducible exact Below.size (by assumption)) | (simp; done) | (simp; omega)) ?_))) (HWI.out.later (by (repeat first | with_reducible assumption | with_reducible exact Below.refl _ _ | refine below_drewN ?_ _ | refine Below.drew ?_ | refine Below.alloc ?_ (by first | omega | (with_reducible exact Below.size (by assumption)) | (simp; done) | (simp; omega)) _ | refine Below.setCell ?_ (by first | omega | (with_reducible exact Below.size (by assumption)) | (simp; done) | (simp; omega)) _ | refine below_step (by assumption) (by first | omega | (with_reducible exact Below.size (by assumption)) | (simp; done) | (simp; omega)) ?_)))).mono ?_; rw [e1]; (rintro e w1 ⟨rfl, hb1⟩))
        rw [e1] at hsu
        simp only [cond_true, Nat.add_zero] at hsu
        refine ⟨⟨k + 1, by omega, by simp, by rw [hsu], by omega, by (repeat first | with_reducible assumption | with_reducible exact Below.refl _ _ | refine below_drewN ?_ _ | refine Below.drew ?_ | refine Below.alloc ?_ (by first | omega | (with_reducible exact Below.size (by assumption)) | (simp; done) | (simp; omega)) _ | refine Below.setCell ?_ (by first | omega | (with_reducible exact Below.size (by assumption)) | (simp; done) | (simp; omega)) _ | refine below_step (by assumption) (by first | omega | (with_reducible exact Below.size (by assumption)) | (simp; done) | (simp; omega)) ?_)⟩, by simp [intOf]; omega⟩
    · obtain rfl : nl = k := by omega
      have hB' : decide (((nl : Nat) : Int) < nl) = false := by simp
      go_wp2
      go_ret
      exact ⟨by rw [hn]; rfl, by (repeat first | with_reducible assumption | with_reducible exact Below.refl _ _ | refine below_drewN ?_ _ | refine Below.drew ?_ | refine Below.alloc ?_ (by first | omega | (with_reducible exact Below.size (by assumption)) | (simp; done) | (simp; omega)) _ | refine Below.setCell ?_ (by first | omega | (with_reducible exact Below.size (by assumption)) | (simp; done) | (simp; omega)) _ | refine below_step (by assumption) (by first | omega | (with_reducible exact Below.size (by assumption)) | (simp; done) | (simp; omega)) ?_)⟩

/-- the change of a place by the first n lines -/
def chgN (ls : List Ln) (ws ss : List Int) (p : Int) : Nat → Int
  | 0 => 0
  | n + 1 => chgN ls ws ss p n + (bif (lnAt ls n).to == p then iAt ws n - iAt ss n else 0) - (bif (lnAt ls n).fr == p then iAt ws n else 0)
theorem chgN_bd {ls : List Ln} {ws ss : List Int} {p : Int} (hw : ∀ k, 0 ≤ iAt ws k ∧ iAt ws k ≤ 999) (hs : ∀ k, 0 ≤ iAt ss k ∧ iAt ss k ≤ 999) (n : Nat) : -1998 * n ≤ chgN ls ws ss p n ∧ chgN ls ws ss p n ≤ 1998 * n := by
  induction n with
  | zero => simp [chgN]
  | succ n ih =>
    have := hw n
    have := hs n
    simp only [chgN]
    cases ((lnAt ls n).to == p) <;> cases ((lnAt ls n).fr == p) <;> simp <;> omega

set_option maxRecDepth 100000 in
set_option maxHeartbeats 1600000 in
theorem Change_c (Ap Al Aw As : Option Addr) (np cp nl cl nw cw ns cs : Nat) (wrg p : Int) (ls : List Ln) (ws ss : List Int) (w : World) (hl : nl ≤ 40) (hw : nw ≤ 40) (hs : ns ≤ 40) (hnw : nl ≤ nw) (hns : nl ≤ ns) (HL : LnsAt w Al nl ls) (HW : IntsAt w Aw nw ws) (HS : IntsAt w As ns ss)
    (bw : ∀ k, 0 ≤ iAt ws k ∧ iAt ws k ≤ 999) (bs : ∀ k, 0 ≤ iAt ss k ∧ iAt ss k ≤ 999) :
    Calls Try.prog 26 #[.agg #[.slice Ap np cp, .slice Al nl cl, .int .i64 wrg], .agg #[.slice Aw nw cw, .slice As ns cs], .int .i64 p] w
      fun e w' => e = .returned (.int .i64 (chgN ls ws ss p nl)) ∧ Below w.heap.size w w' := by
  have HLI := Lib.hid HL
  have HWI := Lib.hid HW
  have HSI := Lib.hid HS
  have HCB := Lib.hid (chgN_bd (ls := ls) (p := p) bw bs)
  have BW := Lib.hid bw
  have BS := Lib.hid bs
  clear HL HW HS bw bs
  go_enter Try.func26, Try.ntmps26
  go_wp2
  go_name_world W hW
  obtain ⟨hB, hz⟩ := al2 hW
  obtain ⟨l_0, q_0, f_0⟩ := al2_0 hW
  obtain ⟨l_1, q_1, f_1⟩ := al2_1 hW
  have HZ := Lib.hid hz
  have zs := hB.size
  clear hW hz
  go_loopw [7, 8] (fun c i (wr : World) => ∃ k : Nat, k ≤ nl ∧ i = .int .i64 k ∧ c = .int .i64 (chgN ls ws ss p k) ∧ Below W.heap.size W wr) (fun _ i _ => nl - (intOf i).toNat)
  case atStart => exact ⟨0, by omega, rfl, rfl, Below.refl _ _⟩
  case round =>
    obtain ⟨k, hk, rfl, rfl, hb⟩ := hrel
    obtain ⟨n, hn⟩ : ∃ n, chgN ls ws ss p k = n := ⟨_, rfl⟩
    have hn0 := HCB.out k
    have hsu : chgN ls ws ss p (k + 1) = n + (bif (lnAt ls k).to == p then iAt ws k - iAt ss k else 0) - (bif (lnAt ls k).fr == p then iAt ws k else 0) := by rw [← hn]; rfl
    rw [hn] at hn0 ⊢
    obtain ⟨hc, hf⟩ := bcell hb
    have zb := hb.size
    have m0 := Nat.lt_of_lt_of_le l_0 zb
    have m1 := Nat.lt_of_lt_of_le l_1 zb
    by_cases hlt : k < nl
    · have hB' : decide ((k : Int) < nl) = true := by simp; omega
      obtain ⟨bl, ol, rfl, hbl, x0, x1, x2, x3, x4, x5⟩ := (HLI.out.later (by (repeat first | with_reducible assumption | with_reducible exact Below.refl _ _ | refine below_drewN ?_ _ | refine Below.drew ?_ | refine Below.alloc ?_ (by first | omega | (with_reducible exact Below.size (by assumption)) | (simp; done) | (simp; omega)) _ | refine Below.setCell ?_ (by first | omega | (with_reducible exact Below.size (by assumption)) | (simp; done) | (simp; omega)) _ | refine below_step (by assumption) (by first | omega | (with_reducible exact Below.size (by assumption)) | (simp; done) | (simp; omega)) ?_) : Below w.heap.size w wr)).get hlt
      obtain ⟨bw, ow, rfl, hbw, y0⟩ := (HWI.out.later (by (repeat first | with_reducible assumption | with_reducible exact Below.refl _ _ | refine below_drewN ?_ _ | refine Below.drew ?_ | refine Below.alloc ?_ (by first | omega | (with_reducible exact Below.size (by assumption)) | (simp; done) | (simp; omega)) _ | refine Below.setCell ?_ (by first | omega | (with_reducible exact Below.size (by assumption)) | (simp; done) | (simp; omega)) _ | refine below_step (by assumption) (by first | omega | (with_reducible exact Below.size (by assumption)) | (simp; done) | (simp; omega)) ?_) : Below w.heap.size w wr)).get (Nat.lt_of_lt_of_le hlt hnw)
      obtain ⟨bs, os, rfl, hbs, z0⟩ := (HSI.out.later (by (repeat first | with_reducible assumption | with_reducible exact Below.refl _ _ | refine below_drewN ?_ _ | refine Below.drew ?_ | refine Below.alloc ?_ (by first | omega | (with_reducible exact Below.size (by assumption)) | (simp; done) | (simp; omega)) _ | refine Below.setCell ?_ (by first | omega | (with_reducible exact Below.size (by assumption)) | (simp; done) | (simp; omega)) _ | refine below_step (by assumption) (by first | omega | (with_reducible exact Below.size (by assumption)) | (simp; done) | (simp; omega)) ?_) : Below w.heap.size w wr)).get (Nat.lt_of_lt_of_le hlt hns)
      have b1 := BW.out k
      have b2 := BS.out k
      have w1 : IntKind.i64.wrap (iAt ws k - iAt ss k) = iAt ws k - iAt ss k := IntWalk.i64_in _ (by omega)
      have w2 : IntKind.i64.wrap (n + (iAt ws k - iAt ss k)) = n + (iAt ws k - iAt ss k) := IntWalk.i64_in _ (by omega)
      have w3 : IntKind.i64.wrap (n - iAt ws k) = n - iAt ws k := IntWalk.i64_in _ (by omega)
      have w4 : IntKind.i64.wrap (n + (iAt ws k - iAt ss k) - iAt ws k) = n + (iAt ws k - iAt ss k) - iAt ws k := IntWalk.i64_in _ (by omega)
      cases e1 : ((lnAt ls k).to == p) <;> cases e2 : ((lnAt ls k).fr == p)
      all_goals
        rw [e1, e2] at hsu
        simp only [cond_true, cond_false, Int.add_zero, Int.sub_zero] at hsu
        go_wp2
        try (go_quiet (fail))
        go_wp2
        exact ⟨⟨k + 1, by omega, by simp, by rw [hsu], by (repeat first | with_reducible assumption | with_reducible exact Below.refl _ _ | refine below_drewN ?_ _ | refine Below.drew ?_ | refine Below.alloc ?_ (by first | omega | (with_reducible exact Below.size (by assumption)) | (simp; done) | (simp; omega)) _ | refine Below.setCell ?_ (by first | omega | (with_reducible exact Below.size (by assumption)) | (simp; done) | (simp; omega)) _ | refine below_step (by assumption) (by first | omega | (with_reducible exact Below.size (by assumption)) | (simp; done) | (simp; omega)) ?_)⟩, by simp [intOf]; omega⟩
    · obtain rfl : nl = k := by omega
      have hB' : decide (((nl : Nat) : Int) < nl) = false := by simp
      go_wp2
      go_ret
      exact ⟨by rw [hn]; rfl, by (repeat first | with_reducible assumption | with_reducible exact Below.refl _ _ | refine below_drewN ?_ _ | refine Below.drew ?_ | refine Below.alloc ?_ (by first | omega | (with_reducible exact Below.size (by assumption)) | (simp; done) | (simp; omega)) _ | refine Below.setCell ?_ (by first | omega | (with_reducible exact Below.size (by assumption)) | (simp; done) | (simp; omega)) _ | refine below_step (by assumption) (by first | omega | (with_reducible exact Below.size (by assumption)) | (simp; done) | (simp; omega)) ?_)⟩

end Go.Proofs.Ytoehifincdflhaa
