/- The looks at a cable (layer 7): Check of repairs and of the specification. -/
import Derived.Test.YtcbeiadimchknaaGreatQp21
import Derived.Test.YtcbeiadimchknaaGreatQp22
namespace Go.Proofs.YtcbeiadimchknaaGreat
open Go.RowKit
open Go.Sort (grow)
set_option linter.unusedVariables false
set_option linter.unusedSimpArgs false

def ckSp7 (p : Sp) : Bool := !((!wi_q7 p.lo 0 p.hi) || decide (9999 < p.hi))
/-- a cable is valid -/
def ckC (n : Nat) (ls : List Sp) (q : Cb) : Bool :=
  (!decide (12 < (n : Int)) && (wi_q7 q.need 0 9999 && (wi_q7 q.gap 1 12 && (wi_q7 q.doubt 0 12 && (wi_q7 q.joins 0 12 && wi_q7 q.least 1 12))))) && allN n (fun k => ckSp7 (spAt ls k))
def erC (b : Bool) : Int := bif b then 0 else 70
theorem ckC_p {n : Nat} {ls : List Sp} {q : Cb} {k : Nat} (hk : k < n) (h : ckSp7 (spAt ls k) = false) : erC (ckC n ls q) = 70 := by
  have : allN n (fun k => ckSp7 (spAt ls k)) = false := allN_no hk h
  simp [erC, ckC, this]
theorem ckSp7_0 {p : Sp} (h : wi_q7 p.lo 0 p.hi = false) : ckSp7 p = false := by simp [ckSp7, h]
theorem ckSp7_1 {p : Sp} (h : 9999 < p.hi) : ckSp7 p = false := by simp [ckSp7, h]

set_option maxRecDepth 100000 in
set_option maxHeartbeats 1600000 in
theorem refCheck_c_q7 (A : Option Addr) (n c : Nat) (q : Cb) (ls : List Sp) (w : World) (hn : n ≤ 40) (HL : SpsAt w A n ls) :
    Calls Tryz.prog 6 #[.agg #[.slice A n c, .int .i64 q.need, .int .i64 q.gap, .int .i64 q.doubt, .int .i64 q.joins, .int .i64 q.least]] w
      fun e w' => e = .returned (.int .i64 (erC (ckC n ls q))) ∧ Below w.heap.size w w' := by
  have HLI := Lib.hid HL
  clear HL
  by_cases g1 : (12 : Int) < n
  · go_enter Tryz.func6, Tryz.ntmps6
    go_wp2
    go_ret
    exact ⟨ret_int (by simp [ckC, erC, g1]), by (repeat first | with_reducible assumption | with_reducible exact Below.refl _ _ | refine below_drewN ?_ _ | refine Below.drew ?_ | refine Below.alloc ?_ (by first | omega | (with_reducible exact Below.size (by assumption)) | (simp; done) | (simp; omega)) _ | refine Below.setCell ?_ (by first | omega | (with_reducible exact Below.size (by assumption)) | (simp; done) | (simp; omega)) _ | refine below_step (by assumption) (by first | omega | (with_reducible exact Below.size (by assumption)) | (simp; done) | (simp; omega)) ?_)⟩
  have g1' : decide ((12 : Int) < n) = false := by simpa using g1
  have G1 := Lib.hid g1'
  clear g1'
  cases gneed : wi_q7 q.need 0 9999
  · go_enter Tryz.func6, Tryz.ntmps6
    go_wp2_with (go_at_call 20; refine (withinR_c _ _ _ _).mono ?_; rintro e w' ⟨rfl, rfl⟩)
    go_ret
    exact ⟨ret_int (by simp [ckC, erC, gneed]), by (repeat first | with_reducible assumption | with_reducible exact Below.refl _ _ | refine below_drewN ?_ _ | refine Below.drew ?_ | refine Below.alloc ?_ (by first | omega | (with_reducible exact Below.size (by assumption)) | (simp; done) | (simp; omega)) _ | refine Below.setCell ?_ (by first | omega | (with_reducible exact Below.size (by assumption)) | (simp; done) | (simp; omega)) _ | refine below_step (by assumption) (by first | omega | (with_reducible exact Below.size (by assumption)) | (simp; done) | (simp; omega)) ?_)⟩
  cases ggap : wi_q7 q.gap 1 12
  · go_enter Tryz.func6, Tryz.ntmps6
    go_wp2_with (go_at_call 20; refine (withinR_c _ _ _ _).mono ?_; rintro e w' ⟨rfl, rfl⟩)
    go_ret
    exact ⟨ret_int (by simp [ckC, erC, ggap]), by (repeat first | with_reducible assumption | with_reducible exact Below.refl _ _ | refine below_drewN ?_ _ | refine Below.drew ?_ | refine Below.alloc ?_ (by first | omega | (with_reducible exact Below.size (by assumption)) | (simp; done) | (simp; omega)) _ | refine Below.setCell ?_ (by first | omega | (with_reducible exact Below.size (by assumption)) | (simp; done) | (simp; omega)) _ | refine below_step (by assumption) (by first | omega | (with_reducible exact Below.size (by assumption)) | (simp; done) | (simp; omega)) ?_)⟩
  cases gdoubt : wi_q7 q.doubt 0 12
  · go_enter Tryz.func6, Tryz.ntmps6
    go_wp2_with (go_at_call 20; refine (withinR_c _ _ _ _).mono ?_; rintro e w' ⟨rfl, rfl⟩)
    go_ret
    exact ⟨ret_int (by simp [ckC, erC, gdoubt]), by (repeat first | with_reducible assumption | with_reducible exact Below.refl _ _ | refine below_drewN ?_ _ | refine Below.drew ?_ | refine Below.alloc ?_ (by first | omega | (with_reducible exact Below.size (by assumption)) | (simp; done) | (simp; omega)) _ | refine Below.setCell ?_ (by first | omega | (with_reducible exact Below.size (by assumption)) | (simp; done) | (simp; omega)) _ | refine below_step (by assumption) (by first | omega | (with_reducible exact Below.size (by assumption)) | (simp; done) | (simp; omega)) ?_)⟩
  cases gjoins : wi_q7 q.joins 0 12
  · go_enter Tryz.func6, Tryz.ntmps6
    go_wp2_with (go_at_call 20; refine (withinR_c _ _ _ _).mono ?_; rintro e w' ⟨rfl, rfl⟩)
    go_ret
    exact ⟨ret_int (by simp [ckC, erC, gjoins]), by (repeat first | with_reducible assumption | with_reducible exact Below.refl _ _ | refine below_drewN ?_ _ | refine Below.drew ?_ | refine Below.alloc ?_ (by first | omega | (with_reducible exact Below.size (by assumption)) | (simp; done) | (simp; omega)) _ | refine Below.setCell ?_ (by first | omega | (with_reducible exact Below.size (by assumption)) | (simp; done) | (simp; omega)) _ | refine below_step (by assumption) (by first | omega | (with_reducible exact Below.size (by assumption)) | (simp; done) | (simp; omega)) ?_)⟩
  cases gleast : wi_q7 q.least 1 12
  · go_enter Tryz.func6, Tryz.ntmps6
    go_wp2_with (go_at_call 20; refine (withinR_c _ _ _ _).mono ?_; rintro e w' ⟨rfl, rfl⟩)
    go_ret
    exact ⟨ret_int (by simp [ckC, erC, gleast]), by (repeat first | with_reducible assumption | with_reducible exact Below.refl _ _ | refine below_drewN ?_ _ | refine Below.drew ?_ | refine Below.alloc ?_ (by first | omega | (with_reducible exact Below.size (by assumption)) | (simp; done) | (simp; omega)) _ | refine Below.setCell ?_ (by first | omega | (with_reducible exact Below.size (by assumption)) | (simp; done) | (simp; omega)) _ | refine below_step (by assumption) (by first | omega | (with_reducible exact Below.size (by assumption)) | (simp; done) | (simp; omega)) ?_)⟩
  have HV := Lib.hid (show (wi_q7 q.need 0 9999 && (wi_q7 q.gap 1 12 && (wi_q7 q.doubt 0 12 && (wi_q7 q.joins 0 12 && wi_q7 q.least 1 12)))) = true by rw [gneed, ggap, gdoubt, gjoins, gleast]; rfl)
  go_enter Tryz.func6, Tryz.ntmps6
  go_wp2_with (go_at_call 20; refine (withinR_c _ _ _ _).mono ?_; rintro e w' ⟨rfl, rfl⟩)
  clear gneed ggap gdoubt gjoins gleast
  go_name_world W hW
  obtain ⟨hB, hz⟩ := al1 hW
  obtain ⟨l_0, q_0, f_0⟩ := al1_0 hW
  have HZ := Lib.hid hz
  have zs := hB.size
  clear hW hz
  go_loopw [3] (fun i (wr : World) => ∃ k : Nat, k ≤ n ∧ i = .int .i64 k ∧ Hid (∀ j, j < k → ckSp7 (spAt ls j) = true) ∧ Below W.heap.size W wr) (fun i _ => n - (intOf i).toNat)
  case atStart => exact ⟨0, by omega, rfl, fun j hj => absurd hj (by omega), Below.refl _ _⟩
  case round =>
    obtain ⟨k, hk, rfl, H1, hb⟩ := hrel
    obtain ⟨hc, hf⟩ := bcell hb
    have zb := hb.size
    have m0 := Nat.lt_of_lt_of_le l_0 zb
    by_cases hlt : k < n
    · obtain ⟨bp, op, rfl, hbp, x0, x1⟩ := (HLI.out.later (by (repeat first | with_reducible assumption | with_reducible exact Below.refl _ _ | refine below_drewN ?_ _ | refine Below.drew ?_ | refine Below.alloc ?_ (by first | omega | (with_reducible exact Below.size (by assumption)) | (simp; done) | (simp; omega)) _ | refine Below.setCell ?_ (by first | omega | (with_reducible exact Below.size (by assumption)) | (simp; done) | (simp; omega)) _ | refine below_step (by assumption) (by first | omega | (with_reducible exact Below.size (by assumption)) | (simp; done) | (simp; omega)) ?_) : Below w.heap.size w wr)).get hlt
      cases e1 : wi_q7 (spAt ls k).lo 0 (spAt ls k).hi
      · go_wp2
        go_quiet ((go_at_call 20; exact quiet_left (withinR_c _ _ _ _)))
        go_wp2
        go_ret
        exact ⟨ret_int (by exact (ckC_p hlt (ckSp7_0 e1)).symm), by (repeat first | with_reducible assumption | with_reducible exact Below.refl _ _ | refine below_drewN ?_ _ | refine Below.drew ?_ | refine Below.alloc ?_ (by first | omega | (with_reducible exact Below.size (by assumption)) | (simp; done) | (simp; omega)) _ | refine Below.setCell ?_ (by first | omega | (with_reducible exact Below.size (by assumption)) | (simp; done) | (simp; omega)) _ | refine below_step (by assumption) (by first | omega | (with_reducible exact Below.size (by assumption)) | (simp; done) | (simp; omega)) ?_)⟩
      · by_cases e2 : 9999 < (spAt ls k).hi
        · go_wp2
          go_quiet ((go_at_call 20; exact quiet_left (withinR_c _ _ _ _)))
          go_wp2
          go_ret
          exact ⟨ret_int (by exact (ckC_p hlt (ckSp7_1 e2)).symm), by (repeat first | with_reducible assumption | with_reducible exact Below.refl _ _ | refine below_drewN ?_ _ | refine Below.drew ?_ | refine Below.alloc ?_ (by first | omega | (with_reducible exact Below.size (by assumption)) | (simp; done) | (simp; omega)) _ | refine Below.setCell ?_ (by first | omega | (with_reducible exact Below.size (by assumption)) | (simp; done) | (simp; omega)) _ | refine below_step (by assumption) (by first | omega | (with_reducible exact Below.size (by assumption)) | (simp; done) | (simp; omega)) ?_)⟩
        · go_wp2
          go_quiet ((go_at_call 20; exact quiet_left (withinR_c _ _ _ _)))
          go_wp2
          go_roundw
          case rel => exact ⟨k + 1, by omega, by go_num, fun j hj => by
            rcases Nat.lt_succ_iff_lt_or_eq.1 hj with h | rfl
            · exact H1.out j h
            · simp [ckSp7, e1, e2], by (repeat first | with_reducible assumption | with_reducible exact Below.refl _ _ | refine below_drewN ?_ _ | refine Below.drew ?_ | refine Below.alloc ?_ (by first | omega | (with_reducible exact Below.size (by assumption)) | (simp; done) | (simp; omega)) _ | refine Below.setCell ?_ (by first | omega | (with_reducible exact Below.size (by assumption)) | (simp; done) | (simp; omega)) _ | refine below_step (by assumption) (by first | omega | (with_reducible exact Below.size (by assumption)) | (simp; done) | (simp; omega)) ?_)⟩
          case measure => simp [intOf]; omega
    · obtain rfl : n = k := by omega
      have HC := Lib.hid (allN_iff.2 H1.out)
      clear H1
      go_wp2
      go_ret
      exact ⟨ret_int (by unfold erC ckC; rw [G1.out, HV.out, HC.out]; rfl), by (repeat first | with_reducible assumption | with_reducible exact Below.refl _ _ | refine below_drewN ?_ _ | refine Below.drew ?_ | refine Below.alloc ?_ (by first | omega | (with_reducible exact Below.size (by assumption)) | (simp; done) | (simp; omega)) _ | refine Below.setCell ?_ (by first | omega | (with_reducible exact Below.size (by assumption)) | (simp; done) | (simp; omega)) _ | refine below_step (by assumption) (by first | omega | (with_reducible exact Below.size (by assumption)) | (simp; done) | (simp; omega)) ?_)⟩

set_option maxHeartbeats 400000 in
theorem check1_c_q7 (p : Sp) (w : World) :
    Calls Tryz.prog 78 #[.agg #[.int .i64 p.lo, .int .i64 p.hi]] w fun e w' => e = .returned (.bool (!ckSp7 p)) ∧ Below w.heap.size w w' := by
  cases e1 : wi_q7 p.lo 0 p.hi
  all_goals
    go_enter Tryz.func78, Tryz.ntmps78
    go_wp2_with (go_at_call 57; refine (within_c _ _ _ _).mono ?_; rintro e w' ⟨rfl, rfl⟩)
    go_ret
    exact ⟨ret_bool (by simp [ckSp7, e1]), by (repeat first | with_reducible assumption | with_reducible exact Below.refl _ _ | refine below_drewN ?_ _ | refine Below.drew ?_ | refine Below.alloc ?_ (by first | omega | (with_reducible exact Below.size (by assumption)) | (simp; done) | (simp; omega)) _ | refine Below.setCell ?_ (by first | omega | (with_reducible exact Below.size (by assumption)) | (simp; done) | (simp; omega)) _ | refine below_step (by assumption) (by first | omega | (with_reducible exact Below.size (by assumption)) | (simp; done) | (simp; omega)) ?_)⟩
/-- the numbers fit an int -/
def CbOk (q : Cb) : Prop := (-9223372036854775808 ≤ q.doubt ∧ q.doubt ≤ 9223372036854775807) ∧ (-9223372036854775808 ≤ q.joins ∧ q.joins ≤ 9223372036854775807)
def max4 (a b c d : Int) : Int := if (if (if a < b then b else a) < c then c else (if a < b then b else a)) < d then d else (if (if a < b then b else a) < c then c else (if a < b then b else a))
theorem max4_le {M a b c d : Int} : ¬ M < max4 a b c d ↔ a ≤ M ∧ b ≤ M ∧ c ≤ M ∧ d ≤ M := by
  unfold max4; split <;> split at * <;> split at * <;> omega
theorem run_max4 {P : Program} {w : World} (ts : Array TypeId) (t : TypeId) (x y z v : Int) : (Builtin.max_ ts t #[.int .i64 x, .int .i64 y, .int .i64 z, .int .i64 v]).run P w = .ok (.int .i64 (max4 x y z v)) w := by
  simp [Builtin.max_, Builtin.max2, max4]
attribute [local go_sem] run_max4
theorem ck_not {n : Nat} {ls : List Sp} {q : Cb} (h : ¬ (1 ≤ q.gap ∧ q.gap ≤ 12 ∧ 0 ≤ q.doubt ∧ q.doubt ≤ 12 ∧ 0 ≤ q.joins ∧ q.joins ≤ 12 ∧ 1 ≤ q.least ∧ q.least ≤ 12)) : erC (ckC n ls q) = 70 := by
  have : ckC n ls q = false := Bool.eq_false_iff.2 fun e => by
    simp only [ckC, Bool.and_eq_true, wi_true_q7] at e
    omega
  rw [this]; rfl
set_option maxRecDepth 100000 in
theorem run_ix0 (a b c d : Int) (W : World) : (Instr.index 100 (.agg #[.int .i64 a, .int .i64 b, .int .i64 c, .int .i64 d]) (.int .i64 0)).run Tryz.prog W = .ok (.int .i64 a) W := by
  go_simp
  rfl
set_option maxRecDepth 100000 in
theorem run_ix1 (a b c d : Int) (W : World) : (Instr.index 100 (.agg #[.int .i64 a, .int .i64 b, .int .i64 c, .int .i64 d]) (.int .i64 1)).run Tryz.prog W = .ok (.int .i64 b) W := by
  go_simp
  rfl
set_option maxRecDepth 100000 in
theorem run_ix2 (a b c d : Int) (W : World) : (Instr.index 100 (.agg #[.int .i64 a, .int .i64 b, .int .i64 c, .int .i64 d]) (.int .i64 2)).run Tryz.prog W = .ok (.int .i64 c) W := by
  go_simp
  rfl
set_option maxRecDepth 100000 in
theorem run_ix3 (a b c d : Int) (W : World) : (Instr.index 100 (.agg #[.int .i64 a, .int .i64 b, .int .i64 c, .int .i64 d]) (.int .i64 3)).run Tryz.prog W = .ok (.int .i64 d) W := by
  go_simp
  rfl
theorem wr_one {x : Int} (h : -9223372036854775808 ≤ x ∧ x ≤ 9223372036854775807) : (0 ≤ x ∧ x ≤ 12 → 1 ≤ wrap64 (x + 1)) ∧ (1 ≤ wrap64 (x + 1) → 0 ≤ x) := by
  by_cases e : x ≤ 9223372036854775806
  · rw [IntWalk.wrap64_in _ ⟨by omega, by omega⟩]
    omega
  · obtain rfl : x = 9223372036854775807 := by omega
    exact ⟨by omega, by omega⟩
set_option maxRecDepth 100000 in
set_option maxHeartbeats 1600000 in
theorem check_c_q7 (A : Option Addr) (n c : Nat) (q : Cb) (ls : List Sp) (w : World) (hn : n ≤ 40) (hq : CbOk q) (HL : SpsAt w A n ls) :
    Calls Tryz.prog 52 #[.agg #[.slice A n c, .int .i64 q.need, .int .i64 q.gap, .int .i64 q.doubt, .int .i64 q.joins, .int .i64 q.least]] w
      fun e w' => e = .returned (.int .i64 (erC (ckC n ls q))) ∧ Below w.heap.size w w' := by
  have HLI := Lib.hid HL
  clear HL
  have en60 : ∀ args w, (callFunc 78 args).run Tryz.prog w = .ok (.enter 78 args) w := enters_of Tryz.func78 (by kernel_rfl) rfl
  by_cases g1 : (12 : Int) < n
  · go_enter Tryz.func52, Tryz.ntmps52
    go_wp2
    go_ret
    exact ⟨ret_int (by simp [ckC, erC, g1]), by (repeat first | with_reducible assumption | with_reducible exact Below.refl _ _ | (with_reducible refine Below.alloc ?_ ?side _; case side => (first | omega | (with_reducible exact Below.size (by assumption)) | (simp; done) | (simp; omega))) | (with_reducible refine Below.setCell ?_ ?side _; case side => (first | omega | (with_reducible exact Below.size (by assumption)) | (simp; done) | (simp; omega))) | with_reducible refine Below.drew ?_ | with_reducible refine below_drewN ?_ _ | (with_reducible refine below_step (by assumption) ?side ?_; case side => (first | omega | (with_reducible exact Below.size (by assumption)) | (simp; done) | (simp; omega))))⟩
  have g1' : (n : Int) ≤ 12 := by omega
  have g1d : decide ((12 : Int) < n) = false := by simpa using g1
  obtain ⟨d1, hd1⟩ : ∃ d, wrap64 (q.doubt + 1) = d := ⟨_, rfl⟩
  obtain ⟨j1, hj1⟩ : ∃ d, wrap64 (q.joins + 1) = d := ⟨_, rfl⟩
  have fd := wr_one hq.1
  have fj := wr_one hq.2
  rw [hd1] at fd
  rw [hj1] at fj
  have FD := Lib.hid fd
  have FJ := Lib.hid fj
  clear fd fj
  have G1 := Lib.hid (show decide ((12 : Int) < n) = false by simpa using g1)
  obtain ⟨va, hva⟩ : ∃ v, (anyN n fun k => !ckSp7 (spAt ls k)) = v := ⟨_, rfl⟩
  obtain ⟨vn, hvn⟩ : ∃ v, wi_q7 q.need 0 9999 = v := ⟨_, rfl⟩
  have HVA := Lib.hid hva
  have HVN := Lib.hid hvn
  have hcf : ∀ W, Below w.heap.size w W → Calls Tryz.prog 62 #[.slice A n c, .func (.func 78) #[] #[]] W fun e W' => e = .returned (.bool va) ∧ Below W.heap.size W W' := fun W hW => by
    rw [← hva]
    refine containsFuncSp_c A n c _ #[] #[] ls (fun k => !ckSp7 (spAt ls k)) W hn (HLI.out.later hW) en60 (fun k hk w' hb => ?_)
    simpa using check1_c_q7 (spAt ls k) w'
  have HCF := Lib.hid hcf
  have hwn : ∀ W, Calls Tryz.prog 57 #[.int .i64 q.need, .int .i64 0, .int .i64 9999] W fun e W' => e = .returned (.bool vn) ∧ W = W' := fun W => by
    rw [← hvn]; exact within_c _ _ _ _
  have HWN := Lib.hid hwn
  clear hva hvn hcf hwn g1
  cases va
  · cases vn
    · go_enter Tryz.func52, Tryz.ntmps52
      go_wp2_with fail
      refine (HCF.out _ (by (repeat first | with_reducible assumption | with_reducible exact Below.refl _ _ | (with_reducible refine Below.alloc ?_ ?side _; case side => (first | omega | (with_reducible exact Below.size (by assumption)) | (simp; done) | (simp; omega))) | (with_reducible refine Below.setCell ?_ ?side _; case side => (first | omega | (with_reducible exact Below.size (by assumption)) | (simp; done) | (simp; omega))) | with_reducible refine Below.drew ?_ | with_reducible refine below_drewN ?_ _ | (with_reducible refine below_step (by assumption) ?side ?_; case side => (first | omega | (with_reducible exact Below.size (by assumption)) | (simp; done) | (simp; omega)))))).mono ?_
      (rintro e w1 ⟨rfl, hb1⟩; obtain ⟨hc1, hf1⟩ := bcell hb1; have zs1 := hb1.size; (try simp at zs1); have n1_0 : w.heap.size < w1.heap.size := (by omega))
      go_wp2_with (go_at_call 57; refine (HWN.out _).mono ?_; rintro e w' ⟨rfl, rfl⟩)
      go_ret
      exact ⟨ret_int (by unfold erC ckC; rw [HVN.out]; simp), by (repeat first | with_reducible assumption | with_reducible exact Below.refl _ _ | (with_reducible refine Below.alloc ?_ ?side _; case side => (first | omega | (with_reducible exact Below.size (by assumption)) | (simp; done) | (simp; omega))) | (with_reducible refine Below.setCell ?_ ?side _; case side => (first | omega | (with_reducible exact Below.size (by assumption)) | (simp; done) | (simp; omega))) | with_reducible refine Below.drew ?_ | with_reducible refine below_drewN ?_ _ | (with_reducible refine below_step (by assumption) ?side ?_; case side => (first | omega | (with_reducible exact Below.size (by assumption)) | (simp; done) | (simp; omega))))⟩
    · go_enter Tryz.func52, Tryz.ntmps52
      go_wp2_with fail
      refine (HCF.out _ (by (repeat first | with_reducible assumption | with_reducible exact Below.refl _ _ | (with_reducible refine Below.alloc ?_ ?side _; case side => (first | omega | (with_reducible exact Below.size (by assumption)) | (simp; done) | (simp; omega))) | (with_reducible refine Below.setCell ?_ ?side _; case side => (first | omega | (with_reducible exact Below.size (by assumption)) | (simp; done) | (simp; omega))) | with_reducible refine Below.drew ?_ | with_reducible refine below_drewN ?_ _ | (with_reducible refine below_step (by assumption) ?side ?_; case side => (first | omega | (with_reducible exact Below.size (by assumption)) | (simp; done) | (simp; omega)))))).mono ?_
      (rintro e w1 ⟨rfl, hb1⟩; obtain ⟨hc1, hf1⟩ := bcell hb1; have zs1 := hb1.size; (try simp at zs1); have n1_0 : w.heap.size < w1.heap.size := (by omega))
      go_wp2_with (go_at_call 57; refine (HWN.out _).mono ?_; rintro e w' ⟨rfl, rfl⟩)
      have d0 := fun i => (hc1 w.heap.size i (by first | omega | (simp; done) | (simp; omega))).trans ((al1_0 rfl).2.1 i)
      clear hd1 hj1 hc1 hf1
      go_loop [33] (fun i => ∃ k : Nat, k ≤ 4 ∧ i = .int .i64 k ∧ (1 ≤ k → 1 ≤ q.gap) ∧ (2 ≤ k → 1 ≤ q.least) ∧ (3 ≤ k → 1 ≤ d1) ∧ (4 ≤ k → 1 ≤ j1)) (fun i => 4 - (intOf i).toNat)
      case atStart => exact ⟨0, by omega, rfl, by omega, by omega, by omega, by omega⟩
      case round =>
        obtain ⟨k, hk, rfl, h1, h2, h3, h4⟩ := hrel
        have H1 := Lib.hid h1
        have H2 := Lib.hid h2
        have H3 := Lib.hid h3
        have H4 := Lib.hid h4
        clear h1 h2 h3 h4
        obtain rfl | rfl | rfl | rfl | rfl : k = 0 ∨ k = 1 ∨ k = 2 ∨ k = 3 ∨ k = 4 := by omega
        · have hx := run_ix0 q.gap q.least d1 j1 w1
          by_cases hg : q.gap < 1
          · go_wp2
            go_ret
            exact ⟨ret_int (ck_not (by omega)).symm, by (repeat first | with_reducible assumption | with_reducible exact Below.refl _ _ | (with_reducible refine Below.alloc ?_ ?side _; case side => (first | omega | (with_reducible exact Below.size (by assumption)) | (simp; done) | (simp; omega))) | (with_reducible refine Below.setCell ?_ ?side _; case side => (first | omega | (with_reducible exact Below.size (by assumption)) | (simp; done) | (simp; omega))) | with_reducible refine Below.drew ?_ | with_reducible refine below_drewN ?_ _ | (with_reducible refine below_step (by assumption) ?side ?_; case side => (first | omega | (with_reducible exact Below.size (by assumption)) | (simp; done) | (simp; omega))))⟩
          · go_wp2
            go_round
            case rel => exact ⟨1, by omega, rfl, by omega, by omega, by omega, by omega⟩
            case measure => simp [intOf]
        · have hx := run_ix1 q.gap q.least d1 j1 w1
          by_cases hg : q.least < 1
          · go_wp2
            go_ret
            exact ⟨ret_int (ck_not (by omega)).symm, by (repeat first | with_reducible assumption | with_reducible exact Below.refl _ _ | (with_reducible refine Below.alloc ?_ ?side _; case side => (first | omega | (with_reducible exact Below.size (by assumption)) | (simp; done) | (simp; omega))) | (with_reducible refine Below.setCell ?_ ?side _; case side => (first | omega | (with_reducible exact Below.size (by assumption)) | (simp; done) | (simp; omega))) | with_reducible refine Below.drew ?_ | with_reducible refine below_drewN ?_ _ | (with_reducible refine below_step (by assumption) ?side ?_; case side => (first | omega | (with_reducible exact Below.size (by assumption)) | (simp; done) | (simp; omega))))⟩
          · go_wp2
            go_round
            case rel => exact ⟨2, by omega, rfl, fun _ => H1.out (by omega), by omega, by omega, by omega⟩
            case measure => simp [intOf]
        · have hx := run_ix2 q.gap q.least d1 j1 w1
          by_cases hg : d1 < 1
          · go_wp2
            go_ret
            exact ⟨ret_int (ck_not (by have := FD.out.1; omega)).symm, by (repeat first | with_reducible assumption | with_reducible exact Below.refl _ _ | (with_reducible refine Below.alloc ?_ ?side _; case side => (first | omega | (with_reducible exact Below.size (by assumption)) | (simp; done) | (simp; omega))) | (with_reducible refine Below.setCell ?_ ?side _; case side => (first | omega | (with_reducible exact Below.size (by assumption)) | (simp; done) | (simp; omega))) | with_reducible refine Below.drew ?_ | with_reducible refine below_drewN ?_ _ | (with_reducible refine below_step (by assumption) ?side ?_; case side => (first | omega | (with_reducible exact Below.size (by assumption)) | (simp; done) | (simp; omega))))⟩
          · go_wp2
            go_round
            case rel => exact ⟨3, by omega, rfl, fun _ => H1.out (by omega), fun _ => H2.out (by omega), by omega, by omega⟩
            case measure => simp [intOf]
        · have hx := run_ix3 q.gap q.least d1 j1 w1
          by_cases hg : j1 < 1
          · go_wp2
            go_ret
            exact ⟨ret_int (ck_not (by have := FJ.out.1; omega)).symm, by (repeat first | with_reducible assumption | with_reducible exact Below.refl _ _ | (with_reducible refine Below.alloc ?_ ?side _; case side => (first | omega | (with_reducible exact Below.size (by assumption)) | (simp; done) | (simp; omega))) | (with_reducible refine Below.setCell ?_ ?side _; case side => (first | omega | (with_reducible exact Below.size (by assumption)) | (simp; done) | (simp; omega))) | with_reducible refine Below.drew ?_ | with_reducible refine below_drewN ?_ _ | (with_reducible refine below_step (by assumption) ?side ?_; case side => (first | omega | (with_reducible exact Below.size (by assumption)) | (simp; done) | (simp; omega))))⟩
          · go_wp2
            go_round
            case rel => exact ⟨4, by omega, rfl, fun _ => H1.out (by omega), fun _ => H2.out (by omega), fun _ => H3.out (by omega), by omega⟩
            case measure => simp [intOf]
        · by_cases hg : 12 < max4 q.gap q.least q.doubt q.joins
          · go_wp2
            go_ret
            exact ⟨ret_int (ck_not (fun e => (max4_le (M := 12)).2 ⟨by omega, by omega, by omega, by omega⟩ hg)).symm, by (repeat first | with_reducible assumption | with_reducible exact Below.refl _ _ | (with_reducible refine Below.alloc ?_ ?side _; case side => (first | omega | (with_reducible exact Below.size (by assumption)) | (simp; done) | (simp; omega))) | (with_reducible refine Below.setCell ?_ ?side _; case side => (first | omega | (with_reducible exact Below.size (by assumption)) | (simp; done) | (simp; omega))) | with_reducible refine Below.drew ?_ | with_reducible refine below_drewN ?_ _ | (with_reducible refine below_step (by assumption) ?side ?_; case side => (first | omega | (with_reducible exact Below.size (by assumption)) | (simp; done) | (simp; omega))))⟩
          · have hall := Lib.hid ((max4_le (M := 12)).1 hg)
            have hM : Hid (erC (ckC n ls q) = 0) := by
              have a1 := H1.out (by omega)
              have a2 := H2.out (by omega)
              have a3 := FD.out.2 (H3.out (by omega))
              have a4 := FJ.out.2 (H4.out (by omega))
              have a5 := hall.out
              have e : ckC n ls q = true := by
                unfold ckC
                rw [G1.out, HVN.out, show allN n (fun k => ckSp7 (spAt ls k)) = true by have := HVA.out; simpa [anyN_not] using this, wi_true_q7.2 (show 1 ≤ q.gap ∧ q.gap ≤ 12 by omega), wi_true_q7.2 (show 0 ≤ q.doubt ∧ q.doubt ≤ 12 by omega), wi_true_q7.2 (show 0 ≤ q.joins ∧ q.joins ≤ 12 by omega), wi_true_q7.2 (show 1 ≤ q.least ∧ q.least ≤ 12 by omega)]
                rfl
              show _ = _
              rw [e]; rfl
            go_wp2
            go_ret
            exact ⟨ret_int hM.out.symm, by (repeat first | with_reducible assumption | with_reducible exact Below.refl _ _ | (with_reducible refine Below.alloc ?_ ?side _; case side => (first | omega | (with_reducible exact Below.size (by assumption)) | (simp; done) | (simp; omega))) | (with_reducible refine Below.setCell ?_ ?side _; case side => (first | omega | (with_reducible exact Below.size (by assumption)) | (simp; done) | (simp; omega))) | with_reducible refine Below.drew ?_ | with_reducible refine below_drewN ?_ _ | (with_reducible refine below_step (by assumption) ?side ?_; case side => (first | omega | (with_reducible exact Below.size (by assumption)) | (simp; done) | (simp; omega))))⟩
  · go_enter Tryz.func52, Tryz.ntmps52
    go_wp2_with fail
    refine (HCF.out _ (by (repeat first | with_reducible assumption | with_reducible exact Below.refl _ _ | (with_reducible refine Below.alloc ?_ ?side _; case side => (first | omega | (with_reducible exact Below.size (by assumption)) | (simp; done) | (simp; omega))) | (with_reducible refine Below.setCell ?_ ?side _; case side => (first | omega | (with_reducible exact Below.size (by assumption)) | (simp; done) | (simp; omega))) | with_reducible refine Below.drew ?_ | with_reducible refine below_drewN ?_ _ | (with_reducible refine below_step (by assumption) ?side ?_; case side => (first | omega | (with_reducible exact Below.size (by assumption)) | (simp; done) | (simp; omega)))))).mono ?_
    (rintro e w1 ⟨rfl, hb1⟩; obtain ⟨hc1, hf1⟩ := bcell hb1; have zs1 := hb1.size; (try simp at zs1); have n1_0 : w.heap.size < w1.heap.size := (by omega))
    go_wp2_with fail
    go_ret
    exact ⟨ret_int (by unfold erC ckC; rw [show allN n (fun k => ckSp7 (spAt ls k)) = false by have := HVA.out; simpa [anyN_not] using this]; simp), by (repeat first | with_reducible assumption | with_reducible exact Below.refl _ _ | (with_reducible refine Below.alloc ?_ ?side _; case side => (first | omega | (with_reducible exact Below.size (by assumption)) | (simp; done) | (simp; omega))) | (with_reducible refine Below.setCell ?_ ?side _; case side => (first | omega | (with_reducible exact Below.size (by assumption)) | (simp; done) | (simp; omega))) | with_reducible refine Below.drew ?_ | with_reducible refine below_drewN ?_ _ | (with_reducible refine below_step (by assumption) ?side ?_; case side => (first | omega | (with_reducible exact Below.size (by assumption)) | (simp; done) | (simp; omega))))⟩

end Go.Proofs.YtcbeiadimchknaaGreat
